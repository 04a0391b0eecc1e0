/- sha: Sum. -/
import Derived.Test.YtomgdfoahfhijaaShb
import Derived.Test.YtomgdfoahfhijaaShd
set_option linter.unusedVariables false
set_option linter.unusedSimpArgs false
namespace Go.Proofs.Ytomgdfoahfhijaa
open Go.RowKit

theorem exec_loadA {P : Program} {w : World} {o : Oper} {ev : Operand → Value} {g off n : Nat} {t ty : TypeId} {cs : Array Value} {fr : Nat × Nat} {d : TypeDesc} {x : Operand} (hg : w.heap[g]? = some (.cells cs t fr)) (hu : P.underlying ty = some d) (hd : (match d with | .struct _ | .array _ _ => true | _ => false) = true)
    (hi : (P.info? ty).map (·.size) = some n) (hn : off + n ≤ cs.size) (ho : o.op = .load ty x) (hx : ev x = .pointer (some ⟨g, off, none⟩)) :
    (execOp ev o).run P w = .ok (.value (.agg ((cs.toList.drop off).take n).toArray)) w := by
  unfold execOp
  simp only [ho, hx, Instr.loadAt, Instr.sureAddr, Sem.run_bind, Sem.run_pure, Result.andThen_ok, run_loadVar_at hg hu hd hi hn]

theorem exec_load0 {P : Program} {w : World} {o : Oper} {ev : Operand → Value} {g n : Nat} {t ty : TypeId} {cs : Array Value} {fr : Nat × Nat} {d : TypeDesc} {x : Operand} (hg : w.heap[g]? = some (.cells cs t fr)) (hu : P.underlying ty = some d) (hd : (match d with | .struct _ | .array _ _ => true | _ => false) = true)
    (hi : (P.info? ty).map (·.size) = some n) (hn : cs.size = n) (ho : o.op = .load ty x) (hx : ev x = .pointer (some ⟨g, 0, none⟩)) :
    (execOp ev o).run P w = .ok (.value (.agg cs)) w := by
  rw [exec_loadA hg hu hd hi (by omega) ho hx]
  congr 3
  rw [List.drop_zero, List.take_of_length_le (by simp; omega), Array.toArray_toList]
theorem size64b : (Try.prog.info? 79).map (·.size) = some 64 := by kernel_rfl
theorem exec_loadRd {w : World} {o : Oper} {ev : Operand → Value} {g off c : Nat} {x : Operand} {l : List UInt8} (hr : Rd w 5 1 (.slice (some ⟨g, off, none⟩) l.length c) l.length (bvs l)) (hl : 64 ≤ l.length)
    (ho : o.op = .load 79 x) (hx : ev x = .pointer (some ⟨g, off, none⟩)) : (execOp ev o).run Try.prog w = .ok (.value (.agg (bvs (l.take 64)).toArray)) w := by
  obtain ⟨h1, ⟨h2, _⟩ | ⟨g', o', c', cur, fr, hv, hN, hm, hh, ht⟩⟩ := hr
  · cases h2
  · cases hv
    have hcl : off + 64 ≤ cur.size := by
      have := congrArg List.length ht
      simp only [List.length_take, List.length_drop, length_bvs, Array.length_toList] at this
      omega
    rw [exec_loadA hh Try.underlying79 rfl size64b hcl ho hx]
    congr 3
    rw [bvs, List.map_take, ← bvs, ← ht, List.take_take]
    congr 2
    omega
theorem exec_arrayAt {P : Program} {w : World} {o : Oper} {ev : Operand → Value} {arr e : TypeId} {n len c : Nat} {a : Option Addr} {x : Operand} (h : P.underlying arr = some (.array n e)) (hn : n ≤ len)
    (ho : o.op = .sliceToArrayPointer arr x) (hx : ev x = .slice a len c) : (execOp ev o).run P w = .ok (.value (.pointer a)) w := by
  unfold execOp
  simp only [ho, hx, Sem.run_bind, Sem.run_pure, Result.andThen_ok, run_arrayAt (P := P) (w := w) arr e n a len c h hn]
theorem bvs_fill_set (f : Nat → UInt8) {m N : Nat} (h : m < N) : (bvs ((List.range m).map f ++ List.replicate (N - m) 0)).set m (bv (f m)) = bvs ((List.range (m + 1)).map f ++ List.replicate (N - (m + 1)) 0) := by
  obtain ⟨k, hk⟩ : ∃ k, N - m = k + 1 := ⟨N - m - 1, by omega⟩
  have hk' : N - (m + 1) = k := by omega
  simp only [bvs, hk, hk', List.replicate_succ, List.map_append, List.map_cons, List.range_succ, List.map_nil]
  rw [List.set_append_right _ _ (by simp)]
  simp
theorem sizeD : (Try.prog.info? 137).map (·.size) = some 32 := by kernel_rfl
def shaFold : Nat → List UInt8 → List UInt32 → List UInt32
  | 0, _, h => h
  | k + 1, b, h => shaFold k (b.drop 64) (shaOut (b.take 64) h)
def shaState (l : List UInt8) : List UInt32 := shaFold ((shaPad l).length / 64) (shaPad l) shaInit
def shaByte (st : List UInt32) (j : Nat) : UInt8 := UInt8.ofNat (((at32 st (j / 4)).toNat : Int) / 2 ^ (24 - 8 * (j % 4)) % 256).toNat
def shaDigest (l : List UInt8) : List UInt8 := (List.range 32).map (shaByte (shaState l))
theorem length_shaDigest (l : List UInt8) : (shaDigest l).length = 32 := by simp [shaDigest]
theorem length_shaOut (b : List UInt8) (h : List UInt32) : (shaOut b h).length = 8 := by simp [shaOut]

set_option maxRecDepth 100000 in
set_option maxHeartbeats 2000000 in
theorem shaSumIs (w : World) (e : Nat) (b : Value) (l : List UInt8) (hb : Rd w e 1 b l.length (bvs l)) (hl : l.length ≤ 100000000000) :
    Calls Try.prog 86 #[b] w fun e w' => e = .returned (.agg (bvs (shaDigest l)).toArray) ∧ Upd NoS w w' := by
  go_enter Try.func86, Try.ntmps86
  go_wp2_with (first
    | (go_at_call 90; refine (shaStart _).mono ?_; rintro e w1 ⟨rfl, hu1⟩)
    | (refine wpList_store0 (heap_new _ _) size8 (by rfl) rfl (uvs_one shaInit) rfl (x := .tmp 3) (y := .tmp 9) rfl rfl rfl ?_; intro w2 hg2 hu2 hs2)
    | (go_at_call 91; refine halted ?_))
  unfold Halted
  have hn1 : w.heap.size < w1.heap.size := by have := hu1.size; simp at this; omega
  have ho2 := hu2.heap (heap_old (hu1.heap (heap_new _ _) id)) (show ¬ OneS w1.heap.size w.heap.size by simp only [OneS]; omega)
  have hu02 : Upd NoS w w2 := ((((Upd.refl NoS w).alloc _).tr hu1).alloc _).trans hu2 (fun k hk e => absurd hk (by rw [show k = w1.heap.size from e]; omega))
  obtain ⟨H, hH⟩ : ∃ H, H = w1.heap.size := ⟨_, rfl⟩
  obtain ⟨n, hn⟩ : ∃ n, n = w.heap.size := ⟨_, rfl⟩
  rw [← hH, ← hn] at hn1
  rw [← hH] at hg2
  rw [← hn] at ho2
  rw [← hH, ← hn]
  have hlt2 := lt_of_heap hg2
  clear hu1 hu2 hs2 hH
  refine (shaPadIs w2 e b l (hb.updNo hu02) hl).mono ?_
  rintro e w3 ⟨a, c, rfl, hown, hu3⟩
  have hg3 := hu3.heap hg2 id
  have ho3 := hu3.heap ho2 id
  have hu03 := hu02.tr hu3
  have hr3 := Rd.of_own hown
  have hpl := shaPad_len l
  obtain ⟨p, hp⟩ : ∃ p, p = shaPad l := ⟨_, rfl⟩
  rw [← hp] at hr3 hpl ⊢
  have hst : shaFold (p.length / 64) p shaInit = shaState l := by rw [hp]; rfl
  have HG := Lib.hid hg3
  have HO := Lib.hid ho3
  have HU := Lib.hid hu03
  have HR := Lib.hid hr3
  have HST := Lib.hid hst
  have HNE := Lib.hid hn
  clear hg2 ho2 hu02 hu3 hown hg3 ho3 hu03 hr3 hp hst hn hb
  go_wp2
  go_loopw [4] (fun kv wr => ∃ (k : Nat) (rest : List UInt8) (h : List UInt32) (a : Option Addr) (c : Nat), rest.length = 64 * k ∧ rest.length ≤ l.length + 72 ∧ h.length = 8 ∧ kv = .slice a rest.length c ∧ shaFold k rest h = shaState l ∧
      Rd wr 5 1 (.slice a rest.length c) rest.length (bvs rest) ∧ wr.heap[H]? = some (.cells (uvs h).toArray 142 (0, 0)) ∧ Upd (OneS H) w3 wr) (fun kv _ => match kv with | .slice _ m _ => m | _ => 0)
  case atStart => exact ⟨p.length / 64, p, shaInit, a, c, by omega, by omega, rfl, rfl, HST.out, HR.out, HG.out, Upd.refl _ _⟩
  case round =>
    obtain ⟨k, rest, h, a, c, hk, hkl, hh, rfl, hf, hr, hg, hu⟩ := hrel
    by_cases hk0 : k = 0
    · subst hk0
      obtain rfl : rest = [] := List.eq_nil_of_length_eq_zero (by omega)
      have hh8 : h = shaState l := hf
      rw [hh8] at hg hh
      have ho := hu.heap HO.out (by simp only [OneS]; omega)
      have HG2 := Lib.hid hg
      have HU2 := Lib.hid hu
      have HO2 := Lib.hid ho
      clear hr hg hu hf hh8 ho hk hkl
      go_wp2_with (refine wpList_load0 (heap_old HG2.out) Try.underlying142 rfl size8 (by simp [hh]) rfl (x := .tmp 3) rfl rfl ?_)
      refine wp_name ?_
      intro W4 hW4
      obtain ⟨O, hO⟩ : ∃ O, O = wr.heap.size := ⟨_, rfl⟩
      have hu4 : Upd NoS wr W4 := by rw [hW4]; exact (Upd.refl _ _).alloc _
      have HO3 : Hid (W4.heap[O]? = some (.cells (bvs (List.replicate 32 0)).toArray 137 (0, 0))) := Lib.hid (by rw [hW4, hO]; exact heap_new _ _)
      have HO4 := Lib.hid (hu4.heap HO2.out id)
      have HOn : Hid (n ≠ O ∧ w.heap.size ≤ O) := Lib.hid (by have := lt_of_heap HO2.out; have := HU.out.size; have := HU2.out.size; omega)
      have HU4 := Lib.hid ((HU.out.trans HU2.out (fun k hk e => absurd hk (by rw [show k = H from e]; have := HNE.out; omega))).tr hu4)
      obtain ⟨st, hst⟩ : ∃ st, st = shaState l := ⟨_, rfl⟩
      rw [← hst] at hh ⊢
      rw [← hO]
      have HST2 := Lib.hid hst
      clear hst hO hW4 hu4
      go_loopw [23] (fun kv w4 => ∃ i : Nat, i ≤ 8 ∧ kv = .int .i64 i ∧ w4.heap[O]? = some (.cells (bvs ((List.range (4 * i)).map (shaByte st) ++ List.replicate (32 - 4 * i) 0)).toArray 137 (0, 0)) ∧ Upd (OneS O) W4 w4) (fun kv _ => 8 - (intOf kv).toNat)
      case atStart => exact ⟨0, by omega, rfl, by simpa using HO3.out, Upd.refl _ _⟩
      case round =>
        obtain ⟨i, hi, rfl, hO3, hu⟩ := hrel
        by_cases hi8 : i < 8
        · have HX : ∀ w, (Instr.index 142 (.agg (uvs st).toArray) (.int .i64 (i : Int))).run Try.prog w = .ok (.int .u32 ((at32 st i).toNat : Int)) w := fun w => by
            refine run_index_one Try.underlying142 Try.underlying30 rfl sizeW (by omega) ?_ w
            simp [uvs, uv, at32, hh, hi8]
          have HO5 := Lib.hid hO3
          have HU5 := Lib.hid hu
          rename World => W5
          clear hO3 hu
          go_wp2
          go_loopw [27] (fun kv w6 => ∃ k : Nat, k ≤ 4 ∧ kv = .int .i64 k ∧ w6.heap[O]? = some (.cells (bvs ((List.range (4 * i + k)).map (shaByte st) ++ List.replicate (32 - (4 * i + k)) 0)).toArray 137 (0, 0)) ∧ Upd (OneS O) W5 w6) (fun kv _ => 4 - (intOf kv).toNat)
          case atStart => exact ⟨0, by omega, rfl, by simpa using HO5.out, Upd.refl _ _⟩
          case round =>
            obtain ⟨k, hk, rfl, hO6, hu6⟩ := hrel
            by_cases hk4 : k < 4
            · have hc := cell_bytes hO6 (4 * i + k) (by simp; omega)
              have hf := free_at hO6 (4 * i + k)
              have HO6 := Lib.hid (heap_set hO6 (4 * i + k) (bv (shaByte st (4 * i + k))))
              have HU6 := Lib.hid hu6
              clear hO6 hu6
              go_wp2
              have he : bv (shaByte st (4 * i + k)) = .int .u8 ((at32 st i).toNat / 2 ^ (24 - 8 * k) % 256) := by
                rw [shaByte, show (4 * i + k) / 4 = i by omega, show (4 * i + k) % 4 = k by omega]
                exact bv_mod _
              rw [← he]
              refine ⟨⟨k + 1, by omega, by go_num, ?_, HU6.out.setCell ⟨O, 4 * i + k, none⟩ _ (fun _ => rfl)⟩, by simp [intOf]; omega⟩
              rw [HO6.out, List.setIfInBounds_toArray, bvs_fill_set _ (by omega)]
              rfl
            · obtain rfl : k = 4 := by omega
              have HO6 := Lib.hid hO6
              have HU6 := Lib.hid hu6
              clear hO6 hu6
              go_wp2
              exact ⟨⟨i + 1, by omega, by go_num, by rw [show 4 * (i + 1) = 4 * i + 4 by omega]; exact HO6.out, HU5.out.tr HU6.out⟩, by simp [intOf]; omega⟩
        · obtain rfl : i = 8 := by omega
          have hd : (List.range (4 * 8)).map (shaByte st) ++ List.replicate (32 - 4 * 8) 0 = shaDigest l := by rw [HST2.out]; simp [shaDigest]
          rw [hd] at hO3
          have hdl : (bvs (shaDigest l)).toArray.size = 32 := by simp [length_shaDigest]
          have HO5 := Lib.hid hO3
          have HN5 := Lib.hid (hu.heap HO4.out (fun e => HOn.out.1 e))
          have HU5 := Lib.hid hu
          clear hO3 hu
          go_wp2_with (first
            | (refine wpList_load0 HO5.out Try.underlying137 rfl sizeD hdl rfl (x := .tmp 5) rfl rfl ?_)
            | (refine wpList_store0 HN5.out sizeD hdl (by rfl) (bvs_one _) rfl (x := .tmp 2) (y := .tmp 43) rfl rfl rfl ?_; intro w7 hg7 hu7 hs7))
          refine bodyPost_ret (results_cell_row rfl _ _ n _ _ _ _ rfl hg7 Try.underlying137 rfl (by rw [hdl]; exact sizeD)) rfl ⟨rfl, ?_⟩
          refine HU4.out.trans ((HU5.out.mono (T := fun k => k = O ∨ k = n) (fun _ _ h => .inl h)).tr (hu7.mono (fun _ _ h => .inr h))) (fun k hk h => ?_)
          have := HOn.out
          have := HNE.out
          show False
          omega
    · have hg64 : 64 ≤ rest.length := by omega
      have hgi : (0 : Int) < (rest.length : Int) := by omega
      have HK := Lib.hid hk
      rcases hr.shape with ⟨h1, h2⟩ | ⟨g, o, c', he, hmc, hcm⟩
      · omega
      cases he
      have MK : Hid (∀ w', Upd NoS wr w' → w'.heap[H]? = some (.cells (uvs h).toArray 142 (0, 0)) ∧ Rd w' 5 1 (.slice (some ⟨g, o, none⟩) rest.length c) rest.length (bvs rest)) :=
        Lib.hid fun w' hu' => ⟨hu'.heap hg id, hr.updNo hu'⟩
      have HF := Lib.hid hf
      have HR2 := Lib.hid hr
      have HG2 := Lib.hid hg
      have HU2 := Lib.hid hu
      clear hr hg hu hf hk
      go_wp2
      refine wp_region_canon (fun w' => Upd NoS wr w') 5 1 [4] [0, 1, 2, 3, 4] rfl (by kernel_rfl) (by decide) (by kernel_rfl) (by kernel_rfl) (by kernel_rfl) (by kernel_rfl) (by kernel_rfl) ((Upd.refl _ _).drew) ?_
      simp only [List.take_succ_cons, List.take_zero, List.drop_succ_cons, List.drop_zero, pick, List.getElem?_cons_succ, List.getElem?_cons_zero, Nat.reduceBEq, List.contains_cons, List.contains_nil, Bool.or_self, Bool.or_false, Bool.or_true, Bool.true_or, Bool.false_or]
      refine wpD_quiet _ (fun w' hS => exec_load0 (MK.out w' hS).1 Try.underlying142 rfl size8 (by simp [hh]) rfl rfl) ?_
      simp only [Act.put, List.setIfInBounds_toArray, List.set_cons_succ, List.set_cons_zero]
      iterate 1 (refine wpD_quiet ?_ (fun w' hS => ?_) ?_; rotate_left; (· go_simp; (try with_reducible rfl)); (try simp only [Act.put, List.setIfInBounds_toArray, List.set_cons_succ, List.set_cons_zero]))
      refine wpD_quiet _ (fun w' hS => exec_arrayAt Try.underlying79 hg64 rfl rfl) ?_
      simp only [Act.put, List.setIfInBounds_toArray, List.set_cons_succ, List.set_cons_zero]
      refine wpD_quiet _ (fun w' hS => exec_loadRd (MK.out w' hS).2 hg64 rfl rfl) ?_
      simp only [Act.put, List.setIfInBounds_toArray, List.set_cons_succ, List.set_cons_zero]
      refine wpD_loud (fun K hK => ?_)
      go_wp2_with fail
      refine (shaBlock _ h (rest.take 64) hh (by rw [List.length_take]; omega)).mono ?_
      rintro e w4 ⟨rfl, hu4⟩
      go_wp2_with fail
      refine hK _ _ ((Upd.refl _ _).drew.tr hu4) ?_
      refine wpD_nil ?_
      have hu4' : Upd NoS wr w4 := (Upd.refl _ _).drew.tr hu4
      have hg4 := (MK.out _ hu4').1
      go_wp2_with (refine wpList_store0 hg4 size8 (by simp [shaOut]) (by simp [hh]) (uvs_one (shaOut (rest.take 64) h)) rfl (x := .tmp 3) (y := .tmp 21) rfl rfl rfl ?_; intro w5 hg5 hu5 hs5)
      refine NoPanic.normal ?_
      go_wp2
      have hur : Upd (OneS H) wr w5 := (hu4'.mono (fun _ _ h => h.elim)).tr hu5
      have hR5 := HR2.out.upd hur (HR2.out.ne HG2.out (by decide))
      obtain ⟨k', rfl⟩ : ∃ k', k = k' + 1 := ⟨k - 1, by omega⟩
      have hk := HK.out
      have hd : Rd w5 5 1 (.slice (if c = 64 then some ⟨g, o, none⟩ else some ⟨g, o + 64, none⟩) (rest.drop 64).length (c - 64)) (rest.drop 64).length (bvs (rest.drop 64)) := by
        rw [List.length_drop, bvs, List.map_drop]
        by_cases hc : c = 64
        · rw [if_pos hc]; exact hR5.dropEnd (n := 64) hg64 hc
        · rw [if_neg hc]; exact hR5.drop (n := 64) hg64
      exact ⟨⟨k', rest.drop 64, shaOut (rest.take 64) h, _, c - 64, by rw [List.length_drop]; omega, by rw [List.length_drop]; omega, length_shaOut _ _, by rw [List.length_drop], HF.out, hd, hg5, HU2.out.tr hur⟩, by simp only; omega⟩
end Go.Proofs.Ytomgdfoahfhijaa

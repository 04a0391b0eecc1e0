/- wal: Checkpoint. -/
import Derived.Test.YtomgdfoahfhijaaWaz
set_option linter.unusedVariables false
set_option linter.unusedSimpArgs false
namespace Go.Proofs.Ytomgdfoahfhijaa
open Go.RowKit

def Wl.check (L : Wl) (D : Dk) (b : List UInt8) : Int × Dk × Wl :=
  if L.refuses b.length ≠ 0 then (L.refuses b.length, D, L)
  else if L.n < sectorsOf b.length ∨ L.turn = 4294967295 then (6, D, L)
  else if (D.begin L.n (L.turn + 1) b).1 = 0 then (0, (D.begin L.n (L.turn + 1) b).2, ⟨L.n, L.turn + 1, [b], sectorsOf b.length, L.broken⟩)
  else ((D.begin L.n (L.turn + 1) b).1, (D.begin L.n (L.turn + 1) b).2, { L with broken := true })
theorem wpList_storeP {P : Program} {ops : Array Oper} {Q : Exit → Act → World → Prop} {a : Act} {w : World} {rest : List Oper} {o : Oper} {g off n : Nat} {t ty : TypeId} {cs cur : Array Value} {x y : Operand} (hg : w.heap[g]? = some (.cells cur t (0, 0))) (hi : (P.info? ty).map (·.size) = some n) (hc : cs.size = n) (hn : off + n ≤ cur.size) (h1 : ∀ v ∈ cs.toList, v.oneCell' = true)
    (hgd : o.guard = none) (ho : o.op = .store ty x y) (hx : a.eval x = .pointer (some ⟨g, off, none⟩)) (hy : a.eval y = .agg cs)
    (h : ∀ w', w'.heap[g]? = some (.cells (cur.toList.take off ++ cs.toList ++ cur.toList.drop (off + n)).toArray t (0, 0)) → Upd (OneS g) w w' → w'.heap.size = w.heap.size → wpList P ops Q rest (a.put o.dst undef) w') : wpList P ops Q (o :: rest) a w :=
  wpList_plain hgd fun K hK => wp_storeA hg hi hc hn h1 ho hx hy fun w' h2 h3 h4 => hK _ _ (h w' h2 h3 h4)
theorem one_book (d : Nat) (n turn : Int) : ∀ v ∈ (bookC d n turn).toList, v.oneCell' = true := by
  intro v hv
  simp only [bookC, List.mem_cons, List.not_mem_nil, or_false] at hv
  rcases hv with rfl | rfl | rfl <;> rfl
theorem sectors_le {n : Nat} (h : n ≤ 40000) : 1 ≤ sectorsOf n ∧ sectorsOf n ≤ 834 := by unfold sectorsOf; split <;> (try split) <;> omega
set_option maxRecDepth 100000 in
set_option maxHeartbeats 4000000 in
theorem walCheck (w : World) (p d : Nat) (D : Dk) (S : Nat → Prop) (L : Wl) (h : IsWal w p d D S L) (e : Nat) (a : Option Addr) (c : Nat) (b : List UInt8) (hr : Rd w e 1 (.slice a b.length c) b.length (bvs b)) (hlo : D.loose.length ≤ 800000000) :
    Calls Try.prog 25 #[.pointer (some ⟨p, 0, none⟩), .slice a b.length c] w fun e w' => e = .returned (.int .i64 (L.check D b).1) ∧ WalOn w w' p d (L.check D b).2.1 (L.check D b).2.2 S := by
  have HI := Lib.hid h
  have HR := Lib.hid hr
  have hbm : b.length ≤ maxLen := by obtain ⟨_, _, hv, h1, h2, _⟩ := hr.any; cases hv; omega
  clear h hr
  go_enter_defers Try.func25, Try.ntmps25
  go_wp2_with (go_at_call 51; refine halted ?_)
  unfold Halted
  refine calls_name ?_
  intro W1 hW1
  have hu1 : Upd NoS w W1 := by rw [hW1]; exact (Upd.refl NoS w).alloc _
  have hg1 : W1.heap[w.heap.size]? = some (.cells #[.int .i64 0] 38 (0, 0)) := by rw [hW1]; exact heap_new _ _
  clear hW1
  have HU1 := Lib.hid hu1
  have HG1 := Lib.hid hg1
  clear hu1 hg1
  refine (walRefuses W1 p d D S L (HI.out.updNo HU1.out) a b.length c hbm).mono ?_
  rintro e1 w1 ⟨rfl, rfl⟩
  have hA : ∀ x, L.check D b = x → Hid (L.check D b = x) := fun x h => h
  have g1 := HG1.out
  have q1 := cell_at g1 0
  have f1 := free_at g1 0
  simp only [List.getElem?_toArray, List.getElem?_cons_zero] at q1
  clear g1
  by_cases h0 : L.refuses b.length = 0
  · have HA1 := Lib.hid h0
    rw [h0]
    clear h0
    go_wp2_with (go_at_call 10; refine (walSectors _ _).mono ?_; rintro e w' ⟨rfl, rfl⟩; refine halted ?_)
    unfold Halted
    rename World => W5
    obtain ⟨va, vn, vc, hvc0, hvs, rfl, hvcap⟩ := HI.out.cells
    have hvc := HU1.out.heap hvc0 id
    have hpw := lt_of_heap hvc0
    clear hvc0
    have hok := HI.out.ok
    have k1 := hok.n0
    have k2 := hok.n1
    have k5 := hok.t0
    have k6 := hok.t1
    have hb4 : b.length ≤ 40000 := by
      have := HA1.out
      unfold Wl.refuses at this
      split at this
      · cases this
      · omega
    obtain ⟨hsc0, hsc1⟩ := sectors_le hb4
    have q10 := cell_at hvc 1
    have q11 := cell_at hvc 2
    simp only [walC, List.getElem?_toArray, List.getElem?_cons_zero, List.getElem?_cons_succ] at q10 q11
    have HVC := Lib.hid hvc
    have HVS := Lib.hid hvs
    clear hvc hvs hok
    obtain ⟨sc, hsc⟩ : ∃ sc, sc = sectorsOf b.length := ⟨_, rfl⟩
    rw [← hsc] at hsc0 hsc1 ⊢
    have HSC := Lib.hid hsc
    clear hsc
    by_cases hno : L.n < sc ∨ L.turn = 4294967295
    · have HA := hA (6, D, L) (by unfold Wl.check; rw [if_neg (by rw [HA1.out]; exact fun h => h rfl), ← HSC.out, if_pos hno])
      have HG2 : Hid ((W5.setCell ⟨w.heap.size, 0, none⟩ (.int .i64 6)).cell? ⟨w.heap.size, 0, none⟩ = some (.int .i64 6)) := Lib.hid (cell_at (heap_set HG1.out 0 _) 0)
      have HGO : Hid (Ending.returned (Value.int .i64 6) = Ending.returned (.int .i64 (L.check D b).1) ∧ WalOn w (W5.setCell ⟨w.heap.size, 0, none⟩ (.int .i64 6)) p d (L.check D b).2.1 (L.check D b).2.2 S) := by
        rw [HA.out]
        exact Lib.hid ⟨rfl, WalOn.no HI.out (HU1.out.setCell _ _ (fun e => absurd e (Nat.lt_irrefl _)))⟩
      clear hA
      by_cases hn : L.n < sc
      · go_wp2
        have hg2 := HG2.out
        exact ⟨.int .i64 6, by simp [results, Try.results25, go_sem, hg2], HGO.out⟩
      · have ht : L.turn = 4294967295 := hno.resolve_left hn
        have hn' : sc ≤ L.n := by omega
        rw [ht] at q11
        clear ht hno
        go_wp2
        have hg2 := HG2.out
        exact ⟨.int .i64 6, by simp [results, Try.results25, go_sem, hg2], HGO.out⟩
    · obtain ⟨hn, ht⟩ := not_or.1 hno
      have hn' : sc ≤ L.n := by omega
      have ht' : (L.turn + 1) % 4294967296 = L.turn + 1 := by omega
      have ht2 : (L.turn + 1 == 0) = false := by simp; omega
      have HA : Hid (L.check D b = if (D.begin L.n (L.turn + 1) b).1 = 0 then (0, (D.begin L.n (L.turn + 1) b).2, ⟨L.n, L.turn + 1, [b], sc, L.broken⟩) else ((D.begin L.n (L.turn + 1) b).1, (D.begin L.n (L.turn + 1) b).2, { L with broken := true })) :=
        Lib.hid (by unfold Wl.check; rw [if_neg (by rw [HA1.out]; exact fun h => h rfl), ← HSC.out, if_neg hno])
      clear hno hn hA
      go_wp2_with (at_builtin; refine halted ?_)
      unfold Halted
      obtain ⟨i0, hi, hz0, hz1, hz2⟩ := info_parts infoB
      obtain ⟨a3, c3, W6, hrun, hown, hu6⟩ := run_append_nil_rd (P := Try.prog) (t := 35) (ty := 35) (w := W5) Try.underlying35 hi hz0 hz1 hz2 rfl (by decide) (HR.out.updNo HU1.out) (bvs_one b) (by unfold maxLen; omega) (by omega)
      refine wpList_app rfl _ _ _ rfl rfl rfl hrun ?_
      have HU6 := Lib.hid hu6
      have HOWN := Lib.hid hown
      have HP6 := Lib.hid (hu6.heap HVC.out id)
      have e41 : ((walC d L (.slice va L.said.length vc)).toList.drop 0 |>.take 3).toArray = bookC d L.n L.turn := rfl
      clear hrun hi hz0 hz1 hz2 i0 hown hu6 q10 q11 q1 f1
      go_wp2_with (first
        | (refine wpList_loadA (off := 0) HP6.out Try.underlying71 rfl sizeBook (show 0 + 3 ≤ 6 by decide) rfl rfl (x := .tmp 39) rfl ?_; rw [e41])
        | (go_at_call 54; refine halted ?_))
      unfold Halted
      refine (walNext W6 d L.n L.turn k5 (by omega)).mono ?_
      rintro e7 w7 ⟨rfl, hu7⟩
      have HU7 := Lib.hid (HU6.out.tr hu7)
      have HU67 := Lib.hid hu7
      clear hu7 e41
      unfold bookV
      go_wp2_with (go_at_call 44; refine halted ?_)
      unfold Halted
      refine calls_name ?_
      intro W8 hW8
      have hu8 : Upd NoS w7 W8 := by rw [hW8]; exact (Upd.refl NoS w7).alloc _
      have hg8 : W8.heap[w7.heap.size]? = some (.cells (bookC d L.n (L.turn + 1)) 71 (0, 0)) := by rw [hW8]; exact heap_new _ _
      clear hW8
      have HU68 := Lib.hid ((show Upd NoS W5 W8 from HU7.out.tr hu8))
      have hSw : ∀ k, S k → k < w.heap.size := HI.out.disk.lt
      have HUw8 := Lib.hid (HU1.out.tr HU68.out)
      have hu6w : Upd NoS W6 W8 := HU67.out.tr hu8
      have hr8 : Rd W8 5 1 (.slice a3 b.length c3) b.length (bvs b) := (Rd.of_own HOWN.out).updNo hu6w
      have hk0 : ∀ k, (Value.slice a3 b.length c3).ownBlock = some k → w.heap.size < k ∧ k < W8.heap.size := fun k hk => ⟨by have := own_ge HOWN.out k hk; have := lt_of_heap HG1.out; simp at *; omega, hr8.lt k hk⟩
      have HK0 := Lib.hid hk0
      have HR8 := Lib.hid hr8
      have HG8 := Lib.hid hg8
      refine (walBegin W8 d D S (HI.out.disk.updNo HUw8.out) L.n (L.turn + 1) (by omega) k2 (by omega) (by omega) 5 a3 c3 b hr8 hb4 (fun k hk e => by have := (hk0 k hk).1; have := hSw k e; omega) hlo).mono ?_
      rintro e9 w9 ⟨rfl, hto⟩
      obtain ⟨R, hR⟩ : ∃ R, R = D.begin L.n (L.turn + 1) b := ⟨_, rfl⟩
      have HA' := Lib.hid HA.out
      clear HA
      have HA := Lib.hid HA'.out
      clear HA'
      rw [← hR] at HA hto ⊢
      clear hR
      obtain ⟨S9, j1, j2, j3, j4⟩ := hto
      have hne_eb : ¬ S w.heap.size := fun e => Nat.lt_irrefl _ (hSw _ e)
      have hg9 : w9.heap[w.heap.size]? = some (.cells #[.int .i64 0] 38 (0, 0)) := j3.heap (HU68.out.heap HG1.out id) hne_eb
      have hbk9 : w9.heap[w7.heap.size]? = some (.cells (bookC d L.n (L.turn + 1)) 71 (0, 0)) := j3.heap hg8 (fun e => by have := hSw _ e; have := (HU1.out.tr HU7.out).size; omega)
      have q9 := cell_at hg9 0
      have f9 := free_at hg9 0
      simp only [List.getElem?_toArray, List.getElem?_cons_zero] at q9
      have HG9 := Lib.hid hg9
      have HB9 := Lib.hid hbk9
      have J1 := Lib.hid j1
      have J2 := Lib.hid j2
      have J3 := Lib.hid j3
      have J4 := Lib.hid j4
      have hp9 : w9.heap[p]? = some (.cells (walC d L (.slice va L.said.length vc)) 73 (0, 0)) := j3.heap (HU68.out.heap HVC.out id) HI.out.2.1
      have HP9 := Lib.hid hp9
      clear hg9 hbk9 j1 j2 j3 j4 hp9 hu8 hg8 hu6w hr8 hk0
      by_cases hc : R.1 = 0
      · rw [if_pos hc] at HA
        rw [hc]
        have HC := Lib.hid hc
        clear hc
        obtain ⟨iS, hiS, hzS, hsS, hbS⟩ := info_parts infoS
        have hpe : p ≠ w.heap.size := by omega
        go_wp2_with (refine wpList_load0 ((heap_set_ne HB9.out (show w7.heap.size ≠ w.heap.size by have := lt_of_heap HG1.out; have := HU7.out.size; omega) _)) Try.underlying71 rfl sizeBook rfl rfl (x := .tmp 8) rfl rfl ?_; refine halted ?_)
        unfold Halted
        go_wp2_with (refine wpList_sliceOne rfl rfl rfl Try.underlying51 hiS hzS hsS (by decide) (by decide) (fillS a3 b.length c3) ?_; refine halted ?_)
        unfold Halted
        obtain ⟨WA, hWA⟩ : ∃ WA, WA = (w9.setCell ⟨w.heap.size, 0, none⟩ (.int .i64 0)).alloc (.cells #[.slice a3 b.length c3] 35) := ⟨_, rfl⟩
        have ez : (w9.setCell ⟨w.heap.size, 0, none⟩ (.int .i64 0)).heap.size = w9.heap.size := by simp [World.setCell]
        rw [← hWA]
        have huA : Upd (OneS w.heap.size) w9 WA := by rw [hWA]; exact ((Upd.refl (OneS w.heap.size) w9).setCell ⟨w.heap.size, 0, none⟩ _ (fun _ => rfl)).alloc _
        have hgA : WA.heap[w9.heap.size]? = some (.cells #[.slice a3 b.length c3] 35 (0, 0)) := by rw [hWA]; exact heap_new' ez
        have heA : WA.heap[w.heap.size]? = some (.cells #[.int .i64 0] 38 (0, 0)) := by rw [hWA]; exact heap_old (by rw [heap_set HG9.out 0 _]; rfl)
        have hpA := huA.heap HP9.out hpe
        clear hWA ez q9 f9
        have HPA := Lib.hid hpA
        have HEA := Lib.hid heA
        have HGA := Lib.hid hgA
        have HUA := Lib.hid huA
        clear hpA heA hgA huA hiS hzS hsS hbS
        go_wp2_with (refine wpList_storeP (off := 0) HPA.out sizeBook rfl (show 0 + 3 ≤ 6 by decide) (one_book d L.n (L.turn + 1)) rfl (x := .tmp 55) (y := .tmp 50) rfl rfl rfl ?_; intro WB hpB huB hsB; refine halted ?_)
        unfold Halted
        have hpB' : WB.heap[p]? = some (.cells (walC d ⟨L.n, L.turn + 1, L.said, L.fin, L.broken⟩ (.slice va L.said.length vc)) 73 (0, 0)) := hpB
        have heB := huB.heap HEA.out (fun e => hpe e.symm)
        have hgB := huB.heap HGA.out (show w9.heap.size ≠ p by have := lt_of_heap HP9.out; omega)
        have q0 := cell_at heB 0
        have f0 := free_at heB 0
        have q3 := cell_at hpB' 3
        have f3 := free_at hpB' 3
        have q4 := cell_at hpB' 4
        have f4 := free_at hpB' 4
        simp only [walC, List.getElem?_toArray, List.getElem?_cons_zero, List.getElem?_cons_succ] at q0 q3 q4
        have HPB := Lib.hid hpB'
        have HEB := Lib.hid heB
        have HGB := Lib.hid hgB
        have HUB := Lib.hid huB
        have hne2 : ¬ w.heap.size = p := by omega
        clear hpB hpB' heB hgB huB hsB
        go_wp2
        refine door_name ?_
        intro W12 hW12
        have hset1 := heap_set HPB.out 3 (Value.slice (some ⟨w9.heap.size, 0, none⟩) 1 1)
        have hset2 := heap_set hset1 4 (Value.int .i64 sc)
        have hp12 : W12.heap[p]? = some (.cells (walC d ⟨L.n, L.turn + 1, [b], sc, L.broken⟩ (.slice (some ⟨w9.heap.size, 0, none⟩) 1 1)) 73 (0, 0)) := by
          rw [hW12]; exact (heap_set_ne hset2 hpe _).trans rfl
        have hu12 : Upd (fun k => k = w.heap.size ∨ k = p) WB W12 := by
          rw [hW12]
          exact (((Upd.refl (fun k => k = w.heap.size ∨ k = p) WB).setCell ⟨p, 3, none⟩ _ (fun _ => .inr rfl)).setCell ⟨p, 4, none⟩ _ (fun _ => .inr rfl)).setCell ⟨w.heap.size, 0, none⟩ _ (fun _ => .inl rfl)
        have he12 : W12.heap[w.heap.size]? = some (.cells #[.int .i64 0] 38 (0, 0)) := by
          rw [hW12, heap_set (heap_set_ne (heap_set_ne HEB.out (fun e => hpe e.symm) _) (fun e => hpe e.symm) _) 0]; rfl
        clear hW12 hset1 hset2
        refine leaves_cons (f := 52) (args := #[.pointer (some ⟨p, 0, none⟩), .pointer (some ⟨w.heap.size, 0, none⟩)]) (by simp) (by simp [go_sem]) ?_
        refine (walBreaksD .returning W12 p w.heap.size _ 0 hp12 (show 5 < 6 by decide) he12).mono ?_
        rintro r u' W13 ⟨rfl, ⟨⟨v, rfl⟩, hW13⟩⟩
        rw [if_pos rfl] at hW13
        subst hW13
        have hec := cell_at he12 0
        simp only [List.getElem?_toArray, List.getElem?_cons_zero] at hec
        refine ⟨.int .i64 0, by simp [results, Try.results25, go_sem, hec], ?_⟩
        rw [HA.out]
        have hok := HI.out.ok
        have hu9 : Upd (fun k => k = w.heap.size ∨ k = p) w9 W13 := ((HUA.out.mono (fun _ _ e => .inl e)).tr (HUB.out.mono (fun _ _ e => .inr e))).tr hu12
        have huw : Upd (fun k => S k ∨ k = p) w W13 := (HUw8.out.of_no.trans J3.out (fun _ _ e => .inl e)).trans hu9 (fun k hk e => e.elim (fun e => by omega) .inr)
        have hS9 : ∀ k, S9 k → S k ∨ W8.heap.size ≤ k := fun k hk => (J2.out k hk).imp id (fun h => h.1)
        have hw8 : w.heap.size < W8.heap.size := by have := lt_of_heap HG1.out; have := HU68.out.size; omega
        have hS9z : ∀ k, S9 k → k < w9.heap.size := J1.out.lt
        have hw9z := lt_of_heap HP9.out
        have hwe9 := lt_of_heap HG9.out
        have hdS := HI.out.disk.self
        have hsm : SameMap d w W13 := (sameMap_upd J1.out hu9 (fun e => e.elim (fun e => hne_eb (e ▸ hdS)) (fun e => HI.out.2.1 (e ▸ hdS)))).trans (J4.out.trans (sameMap_upd HI.out.disk HUw8.out id))
        refine ⟨rfl, ⟨S9, ⟨J1.out.upd hu9 (fun k hk e => (hS9 k hk).elim (fun h => e.elim (fun e => hne_eb (e ▸ h)) (fun e => HI.out.2.1 (e ▸ h))) (fun h => by rcases e with e | e <;> omega)),
          fun e => (hS9 p e).elim HI.out.2.1 (fun h => by omega), ?_, _, hp12, [.slice a3 b.length c3], ?_, ?_, ?_⟩, fun k hk => (hS9 k hk).imp id (fun h => by omega), huw⟩, hsm⟩
        · exact ⟨hok.n0, hok.n1, (show 0 ≤ L.turn + 1 by omega), (show L.turn + 1 < 4294967296 by omega), Nat.le_refl 1, hsc0, hn', fun l hl => by rw [List.mem_singleton.1 hl]; exact hb4⟩
        · have hWA : ¬ (fun k => k = w.heap.size ∨ k = p) w9.heap.size := by rintro (e | e) <;> omega
          exact ⟨rfl, .inr ⟨w9.heap.size, 0, 1, #[.slice a3 b.length c3], (0, 0), rfl, Nat.le_refl 1, by unfold maxLen; decide, hu12.heap HGB.out hWA, rfl⟩⟩
        · intro k hk e
          obtain rfl : k = w9.heap.size := (Option.some.inj hk).symm
          rcases e with e | e
          · exact Nat.lt_irrefl _ (hS9z _ e)
          · omega
        · rintro (_ | i) v l hv hl
          · cases hv
            cases hl
            refine ⟨(HR8.out.upd J3.out (fun k hk e => by have := (HK0.out k hk).1; have := hSw k e; omega)).upd hu9 (fun k hk e => by have := (HK0.out k hk).1; rcases e with e | e <;> omega), fun k hk e => ?_⟩
            have := HK0.out k hk
            rcases e with e | e
            · rcases hS9 k e with h | h
              · have := hSw k h; omega
              · omega
            · omega
          · cases hl
      · rw [if_neg hc] at HA
        have hne : (R.1 == 0) = false := by simpa using hc
        have HC := Lib.hid hc
        clear hc
        go_wp2
        refine door_name ?_
        intro W10 hW10
        have h10 : Upd (OneS w.heap.size) w9 W10 ∧ W10.heap[w.heap.size]? = some (.cells #[.int .i64 R.1] 38 (0, 0)) := by
          rw [hW10]
          exact ⟨((Upd.refl (OneS w.heap.size) w9).setCell ⟨w.heap.size, 0, none⟩ _ (fun _ => rfl)).setCell ⟨w.heap.size, 0, none⟩ _ (fun _ => rfl), by rw [heap_set (heap_set HG9.out 0 _) 0]; rfl⟩
        clear hW10
        have hpe : p ≠ w.heap.size := by omega
        have hp10 := h10.1.heap HP9.out hpe
        refine leaves_cons (f := 52) (args := #[.pointer (some ⟨p, 0, none⟩), .pointer (some ⟨w.heap.size, 0, none⟩)]) (by simp) (by simp [go_sem]) ?_
        refine (walBreaksD .returning W10 p w.heap.size _ R.1 hp10 (show 5 < 6 by decide) h10.2).mono ?_
        rintro r u' W11 ⟨rfl, ⟨⟨v, rfl⟩, hW11⟩⟩
        rw [if_neg HC.out] at hW11
        have hu11 : Upd (fun k => k = w.heap.size ∨ k = p) w9 W11 := by rw [hW11]; exact (h10.1.mono (fun _ _ e => .inl e)).setCell _ _ (fun _ => .inr rfl)
        have hp11 : W11.heap[p]? = some (.cells (walC d { L with broken := true } (.slice va L.said.length vc)) 73 (0, 0)) := by rw [hW11, heap_set hp10 5]; rfl
        have he11 : W11.cell? ⟨w.heap.size, 0, none⟩ = some (.int .i64 R.1) := by rw [hW11]; exact cell_at (heap_set_ne h10.2 (fun e => hpe e.symm) _) 0
        clear hW11 hp10 h10
        refine ⟨.int .i64 R.1, by simp [results, Try.results25, go_sem, he11], ?_⟩
        rw [HA.out]
        have hS9 : ∀ k, S9 k → S k ∨ W8.heap.size ≤ k := fun k hk => (J2.out k hk).imp id (fun h => h.1)
        have hw5 : w.heap.size < W8.heap.size := by have := lt_of_heap HG1.out; have := HU68.out.size; omega
        have huw : Upd (fun k => S k ∨ k = p) w W11 := (HUw8.out.of_no.trans J3.out (fun _ _ e => .inl e)).trans hu11 (fun k hk e => e.elim (fun e => by omega) .inr)
        have hok := HI.out.ok
        have hdS := HI.out.disk.self
        have hsm : SameMap d w W11 := (sameMap_upd J1.out hu11 (fun e => e.elim (fun e => hne_eb (e ▸ hdS)) (fun e => HI.out.2.1 (e ▸ hdS)))).trans (J4.out.trans (sameMap_upd HI.out.disk HUw8.out id))
        refine ⟨rfl, ⟨S9, ⟨J1.out.upd hu11 (fun k hk e => (hS9 k hk).elim (fun h => e.elim (fun e => hne_eb (e ▸ h)) (fun e => HI.out.2.1 (e ▸ h))) (fun h => by rcases e with e | e <;> omega)), fun e => (hS9 p e).elim HI.out.2.1 (fun h => by omega),
          ⟨hok.n0, hok.n1, hok.t0, hok.t1, hok.s0, hok.s1, hok.f1, hok.each⟩, _, hp11, HVS.out.upd huw (fun k _ e => e) (fun k hk e => e.imp (fun e => (hS9 k e).elim id (fun h => by omega)) id)⟩, fun k hk => (hS9 k hk).imp id (fun h => by omega), huw⟩, hsm⟩
  · have hne : (L.refuses b.length == 0) = false := by simpa using h0
    have HA := hA (L.refuses b.length, D, L) (by unfold Wl.check; rw [if_pos h0])
    obtain ⟨r, hr⟩ : ∃ r, r = L.refuses b.length := ⟨_, rfl⟩
    rw [← hr] at hne HA ⊢
    clear h0 hA hr
    go_wp2
    have hg2 : (w1.setCell ⟨w.heap.size, 0, none⟩ (.int .i64 r)).cell? ⟨w.heap.size, 0, none⟩ = some (.int .i64 r) := cell_at (heap_set HG1.out 0 _) 0
    refine ⟨.int .i64 r, by simp [results, Try.results25, go_sem, hg2], ?_⟩
    rw [HA.out]
    exact ⟨rfl, WalOn.no HI.out (HU1.out.setCell _ _ (fun e => absurd e (Nat.lt_irrefl _)))⟩
end Go.Proofs.Ytomgdfoahfhijaa

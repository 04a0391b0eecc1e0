/- The acts of the law's folder: their kind, their bytes, and what is taken down. Rows of acts, as an argument gives them. -/
import Derived.Test.YtomgdfoahfhijaaShd
import Derived.Test.YtomgdfoahfhijaaSee
set_option linter.unusedVariables false
set_option linter.unusedSimpArgs false
namespace Go.Proofs.Ytomgdfoahfhijaa
open Go.RowKit

def actV (k n : Int) (f : UInt8) (v : Value) : Value := .agg #[.int .i64 k, .int .i64 n, .int .u8 (f.toNat : Int), v]
def I64 (n : Int) : Prop := -9223372036854775808 ≤ n ∧ n ≤ 9223372036854775807
theorem u64_wrap (k : Int) : IntKind.u64.wrap k = k % 18446744073709551616 := by
  simp [IntKind.wrap, IntKind.signed, IntKind.bits]
theorem u64_tmod (k m : Int) : (IntKind.u64.wrap k).tmod m = k % 18446744073709551616 % m := by
  rw [u64_wrap, Int.tmod_eq_emod_of_nonneg (by omega)]
theorem wrap64_small {x : Int} (h1 : 0 ≤ x) (h2 : x ≤ 1000000) : wrap64 x = x := by
  unfold wrap64; omega
theorem kind_num (k : Int) : wrap64 ((IntKind.u64.wrap k).tmod 8) = k % 8 := by
  rw [u64_tmod, wrap64_small (by omega) (by omega)]
  omega
theorem own_from {w : World} {base base' e size n : Nat} {v : Value} {xs : List Value} (h : w.ownsRow base e size v n xs) (hb : base' ≤ base) : w.ownsRow base' e size v n xs := by
  rcases h.2 with h2 | ⟨g, cap, cur, rfl, h1, hr⟩
  · exact ⟨h.1, .inl h2⟩
  · exact ⟨h.1, .inr ⟨g, cap, cur, rfl, Nat.le_trans hb h1, hr⟩⟩
set_option maxRecDepth 100000 in
theorem actKind (w : World) (k n : Int) (f : UInt8) (a : Option Addr) (m c : Nat) : Calls Try.prog 16 #[actV k n f (.slice a m c)] w fun e w' => e = .returned (.int .i64 (k % 8)) ∧ Upd NoS w w' := by
  unfold actV
  go_enter Try.func16, Try.ntmps16
  go_wp2
  go_ret
  exact ⟨congrArg _ (congrArg _ (kind_num k)), (Upd.refl NoS w).alloc _⟩
/-- How many bytes an act has. -/
def cntOf (n : Int) : Nat := if n % 18446744073709551616 % 1300 < 1298 then (n % 18446744073709551616 % 1300).toNat else 38702 + (n % 18446744073709551616 % 1300).toNat
theorem cntOf_le (n : Int) : cntOf n ≤ 40001 := by unfold cntOf; split <;> omega
/-- The bytes of an act. -/
def actBytes (n : Int) (f : UInt8) : List UInt8 := (List.range (cntOf n)).map fun i => f + UInt8.ofNat i
theorem length_actBytes (n : Int) (f : UInt8) : (actBytes n f).length = cntOf n := by simp [actBytes]
theorem u8_add (f : UInt8) (i : Nat) : ((f + UInt8.ofNat i).toNat : Int) = ((f.toNat : Int) + (i : Int)) % 256 := by
  rw [UInt8.toNat_add, UInt8.toNat_ofNat']; omega
set_option maxRecDepth 100000 in
set_option maxHeartbeats 1000000 in
theorem actBytesIs (w : World) (k n : Int) (f : UInt8) (a : Option Addr) (m c : Nat) : Calls Try.prog 15 #[actV k n f (.slice a m c)] w fun e w' =>
    ∃ a c, e = .returned (.slice a (actBytes n f).length c) ∧ w'.ownsRow w.heap.size 5 1 (.slice a (actBytes n f).length c) (actBytes n f).length (bvs (actBytes n f)) ∧ Upd NoS w w' := by
  have hwr : wrap64 ((IntKind.u64.wrap n).tmod 1300) = n % 18446744073709551616 % 1300 := by
    rw [u64_tmod, wrap64_small (by omega) (by omega)]
  have hcn : Hid (cntOf n = if n % 18446744073709551616 % 1300 < 1298 then (n % 18446744073709551616 % 1300).toNat else 38702 + (n % 18446744073709551616 % 1300).toNat) := Lib.hid rfl
  obtain ⟨r, hr⟩ : ∃ r : Int, r = n % 18446744073709551616 % 1300 := ⟨_, rfl⟩
  have h0 : 0 ≤ r := by omega
  have h1 : r < 1300 := by omega
  rw [← hr] at hwr hcn
  unfold actV
  clear hr
  go_enter Try.func15, Try.ntmps15
  obtain ⟨N, hN⟩ : ∃ N, N = cntOf n := ⟨_, rfl⟩
  have hNn : (N : Int) = if r < 1298 then r else 38702 + r := by
    have := hcn.out
    rw [← hN] at this
    split at this
    · rw [if_pos (by assumption)]; omega
    · rw [if_neg (by assumption)]; omega
  have hNl : N ≤ 40001 := by rw [hN]; exact cntOf_le n
  have hlen : (actBytes n f).length = N := by rw [length_actBytes, hN]
  have hW0 : Upd NoS w (w.alloc (.cells #[.int .i64 k, .int .i64 n, .int .u8 (f.toNat : Int), .slice a m c] 33)) := (Upd.refl NoS w).alloc _
  have hf0 : (w.alloc (.cells #[.int .i64 k, .int .i64 n, .int .u8 (f.toNat : Int), .slice a m c] 33)).heap[w.heap.size]? = some (.cells #[.int .i64 k, .int .i64 n, .int .u8 (f.toNat : Int), .slice a m c] 33 (0, 0)) := heap_new _ _
  obtain ⟨w1, hrun0, hown0, hgr⟩ := make_bytes (w := w.alloc (.cells #[.int .i64 k, .int .i64 n, .int .u8 (f.toNat : Int), .slice a m c] 33)) (N := (N : Int)) (C := (N : Int)) (n := N) (c := N) rfl rfl (Nat.le_refl _) (by omega)
  have hu1 := hW0.grown hgr (by simp)
  have hf1 := ((Upd.refl NoS (w.alloc (.cells #[.int .i64 k, .int .i64 n, .int .u8 (f.toNat : Int), .slice a m c] 33))).grown hgr (by simp)).heap hf0 id
  have hown : w1.ownsRow (w.heap.size + 1) 5 1 (.slice (some ⟨w.heap.size + 1, 0, none⟩) N N) N (bvs (List.replicate N 0)) := by simpa using hown0
  have hrun : (Instr.makeSlice 35 (.int .i64 N) (.int .i64 N)).run Try.prog (w.alloc (.cells #[.int .i64 k, .int .i64 n, .int .u8 (f.toNat : Int), .slice a m c] 33)) = .ok (.slice (some ⟨w.heap.size + 1, 0, none⟩) N N) w1 := by simpa using hrun0
  have HN := Lib.hid hN
  have HL := Lib.hid hlen
  have HU := Lib.hid hu1
  have HF := Lib.hid hf1
  have HO := Lib.hid hown
  have HR := Lib.hid hrun
  have HW := Lib.hid hwr
  clear hN hlen hu1 hf1 hown hrun hown0 hrun0 hgr hW0 hf0 hcn
  by_cases hb : 1298 ≤ r
  all_goals
    first
      | (rw [if_neg (by omega)] at hNn; have HNN := Lib.hid (show 40000 + r - 1298 = (N : Int) by omega); clear hNn)
      | (rw [if_pos (by omega)] at hNn; have HNN := Lib.hid (show r = (N : Int) from hNn.symm); clear hNn)
    go_wp2
    rw [HNN.out]
    clear hwr
    rw [HR.out]
    go_wp2
    go_loopw [20] (fun kv wr => ∃ k : Nat, k ≤ N ∧ kv = .int .i64 (k : Int) ∧ wr.ownsRow (w.heap.size + 1) 5 1 (.slice (some ⟨w.heap.size + 1, 0, none⟩) N N) N (bvs ((List.range k).map fun i => f + UInt8.ofNat i) ++ bvs (List.replicate (N - k) 0)) ∧ w1.grownBy wr (some (w.heap.size + 1))) (fun kv _ => N - (intOf kv).toNat)
    case atStart => exact ⟨0, Nat.zero_le _, rfl, HO.out, ⟨rfl, rfl, rfl, Nat.le_refl _, fun _ _ _ => rfl⟩⟩
    case round =>
      obtain ⟨j, hj, rfl, hown, hgrow⟩ := hrel
      by_cases hlt : j < N
      · have hc := hown.cellAt j (by simpa using hlt)
        have hf := hown.frozenAt j
        obtain ⟨R, hR⟩ : ∃ R, N - j = R + 1 := ⟨N - j - 1, by omega⟩
        have hc2 : wr.cell? ⟨w.heap.size + 1, j, none⟩ = some (bv 0) := by
          rw [hc, List.getElem?_append_right (by simp), hR]; simp [bvs]
        have hq : wr.cell? ⟨w.heap.size, 2, none⟩ = some (.int .u8 (f.toNat : Int)) :=
          cell_at ((Upd.grown (S := OneS (w.heap.size + 1)) (Upd.refl _ w1) hgrow (fun k hk _ => (Option.some.inj hk).symm)).heap HF.out (by unfold OneS; omega)) 2
        rw [hR, List.replicate_succ, bvs, bvs, List.map_cons] at hown
        obtain ⟨ho2, hg2⟩ := own_put (j := j) hown (by simp) (bv (f + UInt8.ofNat j))
        have HO2 := Lib.hid ho2
        have HG := Lib.hid (grownBy_tr hgrow hg2)
        have HRR := Lib.hid hR
        clear hown hgrow hc ho2 hg2 hR
        go_wp2
        have he : bv (f + UInt8.ofNat j) = .int .u8 (((f.toNat : Int) + (j : Int)) % 256) := congrArg _ (u8_add f j)
        rw [← he]
        refine ⟨⟨j + 1, by omega, by go_num, ?_, HG.out⟩, by simp [intOf]; omega⟩
        have := HO2.out
        rw [List.range_succ, List.map_append, bvs_append, show N - (j + 1) = R by have := HRR.out; omega, List.append_assoc]
        exact this
      · obtain rfl : j = N := by omega
        have HO2 := Lib.hid hown
        have HU2 := Lib.hid (HU.out.grown hgrow (fun k hk hlt => by cases hk; omega))
        clear hown hgrow
        go_wp2
        go_ret
        have e : bvs ((List.range j).map fun i => f + UInt8.ofNat i) ++ bvs (List.replicate (j - j) 0) = bvs (actBytes n f) := by
          rw [Nat.sub_self]
          unfold actBytes
          rw [← HN.out]
          simp [bvs]
        have ho := HO2.out
        rw [e] at ho
        refine ⟨some ⟨w.heap.size + 1, 0, none⟩, j, by rw [HL.out]; rfl, ?_, HU2.out⟩
        rw [HL.out]
        exact own_from ho (by omega)
theorem kind_mod4 (k : Int) : (k % 8).tmod 4 = k % 4 := by rw [Int.tmod_eq_emod_of_nonneg (by omega)]; omega
def takN (n : Int) : Int := if n < 0 then 0 else n
set_option maxRecDepth 100000 in
set_option maxHeartbeats 1000000 in
theorem actTaking (w : World) (k n : Int) (f : UInt8) (a : Option Addr) (m c : Nat) : Calls Try.prog 14 #[actV k n f (.slice a m c)] w fun e w' =>
    e = .returned (actV (k % 4) (takN n) f (.slice a m c)) ∧ Upd NoS w w' := by
  have hk0 : 0 ≤ k % 8 := by omega
  have hk1 : k % 8 < 8 := by omega
  have HA := Lib.hid (show actV k n f (.slice a m c) = .agg #[.int .i64 k, .int .i64 n, .int .u8 (f.toNat : Int), .slice a m c] from rfl)
  rw [HA.out]
  by_cases hn : n < 0
  all_goals
    go_enter Try.func14, Try.ntmps14
    go_wp2_with (go_at_call 16; refine halted ?_)
    unfold Halted
    refine (actKind _ k n f a m c).mono ?_
    rintro e w1 ⟨rfl, hu⟩
    have h1 := hu.heap (heap_old (heap_new w (.cells #[.int .i64 k, .int .i64 n, .int .u8 (f.toNat : Int), .slice a m c] 33))) id
    have h2 := hu.heap (heap_new (w.alloc (.cells #[.int .i64 k, .int .i64 n, .int .u8 (f.toNat : Int), .slice a m c] 33)) (.cells #[.int .i64 0, .int .i64 0, .int .u8 0, .slice none 0 0] 33)) id
    simp only [World.size_alloc] at h2
    have c0 := cell_at h1 0
    have c1 := cell_at h1 1
    have c2 := cell_at h1 2
    have c3 := cell_at h1 3
    have f0 := free_at h1 0
    have f1 := free_at h1 1
    have d0 := cell_at h2 0
    have d1 := cell_at h2 1
    have d2 := cell_at h2 2
    have d3 := cell_at h2 3
    have g0 := free_at h2 0
    have g1 := free_at h2 1
    have g2 := free_at h2 2
    have g3 := free_at h2 3
    simp only [List.getElem?_toArray, List.getElem?_cons_zero, List.getElem?_cons_succ] at c0 c1 c2 c3 d0 d1 d2 d3
    obtain ⟨B, hB⟩ : ∃ B, B = w.heap.size := ⟨_, rfl⟩
    have HU := Lib.hid (((Upd.refl NoS w).alloc (.cells #[.int .i64 k, .int .i64 n, .int .u8 (f.toNat : Int), .slice a m c] 33)).alloc (.cells #[.int .i64 0, .int .i64 0, .int .u8 0, .slice none 0 0] 33) |>.tr hu)
    rw [← hB] at c0 c1 c2 c3 f0 f1 d0 d1 d2 d3 g0 g1 g2 g3 ⊢
    have HB := Lib.hid hB
    clear hu h1 h2 hB
    go_wp2
    have hB := HB.out
    refine bodyPost_ret (v := actV (k % 4) (takN n) f (.slice a m c)) ?_ rfl ⟨rfl, ?_⟩
    · have ht : takN n = if n < 0 then 0 else n := rfl
      first
        | (rw [if_pos hn] at ht; simp [results, Try.results14, go_sem, actV, ht, c0, c1, c2, c3, d0, d1, d2, d3])
        | (rw [if_neg (by omega)] at ht; simp [results, Try.results14, go_sem, actV, ht, c0, c1, c2, c3, d0, d1, d2, d3])
    · repeat (first | (with_reducible exact HU.out) | ((with_reducible refine Upd.setCell ?_ _ _ ?hb); (case hb => exact fun h => absurd h (by show ¬ _ < _; simp only []; omega))))
end Go.Proofs.Ytomgdfoahfhijaa
namespace Go.Proofs.Ytomgdfoahfhijaa
open Go.RowKit

def bls (l : List Bool) : List Value := l.map .bool
structure Ac where
  kind : Int
  n : Int
  fill : UInt8
  keep : List Bool
  ka : Option Addr
  kc : Nat
def Ac.kv (x : Ac) : Value := .slice x.ka x.keep.length x.kc
def Ac.cells (x : Ac) : List Value := [.int .i64 x.kind, .int .i64 x.n, .int .u8 (x.fill.toNat : Int), x.kv]
def Ac.val (x : Ac) : Value := actV x.kind x.n x.fill x.kv
def Ac.Reads (w : World) (x : Ac) : Prop := Sle w 1 x.kv (x.keep.map fun b => [.bool b])
def IsActs (w : World) (v : Value) (xs : List Ac) : Prop := Sle w 4 v (xs.map Ac.cells) ∧ ∀ x ∈ xs, x.Reads w
theorem Ac.Reads.upd {w w' : World} {x : Ac} (h : x.Reads w) (hu : Upd NoS w w') : x.Reads w' := Sle.upd h hu
theorem IsActs.upd {w w' : World} {v : Value} {xs : List Ac} (h : IsActs w v xs) (hu : Upd NoS w w') : IsActs w' v xs := ⟨h.1.upd hu, fun x hx => (h.2 x hx).upd hu⟩
theorem IsActs.shape {w : World} {v : Value} {xs : List Ac} (h : IsActs w v xs) : ∃ a c, v = .slice a xs.length c ∧ xs.length ≤ c ∧ c ≤ maxLen := by
  obtain ⟨a, c, h1, h2, h3⟩ := h.1.shape
  rw [List.length_map] at h1 h2
  exact ⟨a, c, h1, h2, h3⟩
theorem IsActs.at {w : World} {a : Option Addr} {n c i : Nat} {xs : List Ac} (h : IsActs w (.slice a n c) xs) {x : Ac} (hx : xs[i]? = some x) :
    x.Reads w ∧ ∃ g o, a = some ⟨g, o, none⟩ ∧ w.cell? ⟨g, o + i * 4, none⟩ = some (.int .i64 x.kind) ∧ w.cell? ⟨g, o + i * 4 + 1, none⟩ = some (.int .i64 x.n) ∧ w.cell? ⟨g, o + i * 4 + 2, none⟩ = some (.int .u8 (x.fill.toNat : Int)) ∧ w.cell? ⟨g, o + i * 4 + 3, none⟩ = some x.kv := by
  obtain ⟨g, o, rfl, h1⟩ := h.1.at (i := i) (l := x.cells) (by rw [List.getElem?_map, hx]; rfl)
  exact ⟨h.2 x (List.mem_of_getElem? hx), g, o, rfl, h1 0 _ rfl, h1 1 _ rfl, h1 2 _ rfl, h1 3 _ rfl⟩
section
variable {H : Type} {enc : TypeId × Value → H} {w : World} {base : Nat} {spare : Nat → Bool} {held : Bool}
theorem bools_of_trod {fuel : Nat} {cs : List Value} {x : DataW H × List MemPlace} (h : DataW.trod enc Try.prog w base spare held fuel 31 cs = some x) :
    ∃ (v : Value) (xs : List Bool), cs = [v] ∧ Sle w 1 v (xs.map fun b => [.bool b]) := by
  obtain ⟨v, xs, h1, h2, _⟩ := sle_of_trod (α := Bool) (size := 1) Try.underlying31 (by kernel_rfl) (by decide) (fun b => [.bool b]) (fun _ => True) (fun fuel cs y hy => by
    obtain ⟨b, rfl, _⟩ := DataW.trod_bool Try.underlying4 hy
    exact ⟨b, rfl, trivial⟩) h
  exact ⟨v, xs, h1, h2⟩
theorem u8_of {n : Int} (h : (Lit.int .u8 n).wf = true) : ∃ b : UInt8, n = (b.toNat : Int) := by
  have hb := bounds_u8 h
  refine ⟨UInt8.ofNat n.toNat, ?_⟩
  rw [UInt8.toNat_ofNat']
  omega
theorem list4 {α : Type} {l : List α} (h : l.length = 4) : ∃ a b c d, l = [a, b, c, d] := by
  rcases l with _ | ⟨a, _ | ⟨b, _ | ⟨c, _ | ⟨d, _ | ⟨e, l⟩⟩⟩⟩⟩ <;> simp at h
  exact ⟨a, b, c, d, rfl⟩
theorem act_of_trod {fuel : Nat} {cs : List Value} {y : DataW H × List MemPlace} (h : DataW.trod enc Try.prog w base spare held fuel 33 cs = some y) : ∃ x : Ac, cs = x.cells ∧ x.Reads w := by
  obtain ⟨xs, m, _, _, hl, hxs, hf⟩ := DataW.trod_struct Try.underlying33 h
  have c1 : Try.prog.cellsOf 3 = 1 := by kernel_rfl
  have c2 : Try.prog.cellsOf 5 = 1 := by kernel_rfl
  have c3 : Try.prog.cellsOf 31 = 1 := by kernel_rfl
  have c4 : Try.prog.cellsOf 33 = 4 := by kernel_rfl
  rw [c4] at hl
  obtain ⟨q0, q1, q2, q3, rfl⟩ := list4 hl
  · clear c4
    have g0 := hf 0 { name := "Kind", type := 3, offset := 0, embedded := false, tag := "", pkgPath := "", byteOffset := 0 } rfl
    have g1 := hf 1 { name := "N", type := 3, offset := 1, embedded := false, tag := "", pkgPath := "", byteOffset := 8 } rfl
    have g2 := hf 2 { name := "Fill", type := 5, offset := 2, embedded := false, tag := "", pkgPath := "", byteOffset := 16 } rfl
    have g3 := hf 3 { name := "Keep", type := 31, offset := 3, embedded := false, tag := "", pkgPath := "", byteOffset := 24 } rfl
    have hsz : xs.length = 4 := hxs
    rw [List.getElem?_eq_getElem (by omega)] at g0 g1 g2 g3
    simp only [c1, c2, c3, List.drop_zero, List.drop_succ_cons, List.take_succ_cons, List.take_zero] at g0 g1 g2 g3
    obtain ⟨k, e0, _, _⟩ := DataW.trod_int Try.underlying3 g0
    obtain ⟨n, e1, _, _⟩ := DataW.trod_int Try.underlying3 g1
    obtain ⟨f, e2, _, hw⟩ := DataW.trod_int Try.underlying5 g2
    obtain ⟨v, bs, e3, hv⟩ := bools_of_trod g3
    obtain ⟨b, rfl⟩ := u8_of hw
    obtain ⟨a, c, rfl, _, _⟩ := hv.shape
    rw [List.length_map] at hv e3
    cases e0; cases e1; cases e2; cases e3
    exact ⟨⟨k, n, b, bs, a, c⟩, rfl, hv⟩
theorem acts_of_trod {fuel : Nat} {cs : List Value} {y : DataW H × List MemPlace} (h : DataW.trod enc Try.prog w base spare held fuel 25 cs = some y) : ∃ (v : Value) (xs : List Ac), cs = [v] ∧ IsActs w v xs := by
  obtain ⟨v, xs, h1, h2, h3⟩ := sle_of_trod (α := Ac) (size := 4) Try.underlying25 (by kernel_rfl) (by decide) Ac.cells (fun x => x.Reads w) (fun _ _ _ hy => act_of_trod hy) h
  exact ⟨v, xs, h1, h2, h3⟩
end
end Go.Proofs.Ytomgdfoahfhijaa

/- What the law's folder does with a log: take, length, fresh. -/
import Derived.Test.YtomgdfoahfhijaaAct
import Derived.Test.YtomgdfoahfhijaaWcd
set_option linter.unusedVariables false
set_option linter.unusedSimpArgs false
namespace Go.Proofs.Ytomgdfoahfhijaa
open Go.RowKit

def Wl.take (L : Wl) (D : Dk) (k n : Int) (f : UInt8) : Int × Dk × Wl := if k % 8 = 3 then L.check D (actBytes n f) else L.append D (actBytes n f)
set_option maxRecDepth 100000 in
set_option maxHeartbeats 1000000 in
theorem Own.take {w0 w : World} {p d : Nat} {D D' : Dk} {L L' : Wl} {code : Int} {k n : Int} {f : UInt8} (h : Own w0 w p d D L) (he : L.take D k n f = (code, D', L')) (hlo : D.loose.length ≤ 800000000) (a : Option Addr) (m c : Nat) :
    Calls Try.prog 17 #[.pointer (some ⟨p, 0, none⟩), actV k n f (.slice a m c)] w fun e w' => e = .returned (.int .i64 code) ∧ Own w0 w' p d D' L' := by
  have HO := Lib.hid h
  have HE := Lib.hid he
  have HA := Lib.hid (show actV k n f (.slice a m c) = .agg #[.int .i64 k, .int .i64 n, .int .u8 (f.toNat : Int), .slice a m c] from rfl)
  rw [HA.out]
  clear h he
  go_enter Try.func17, Try.ntmps17
  go_wp2_with (go_at_call 16; refine halted ?_)
  unfold Halted
  refine (actKind _ k n f a m c).mono ?_
  rintro e1 w1 ⟨rfl, hu1⟩
  have h1 := hu1.heap (heap_new w (.cells #[.int .i64 k, .int .i64 n, .int .u8 (f.toNat : Int), .slice a m c] 33)) id
  have c0 := cell_at h1 0
  have c1 := cell_at h1 1
  have c2 := cell_at h1 2
  have c3 := cell_at h1 3
  simp only [List.getElem?_toArray, List.getElem?_cons_zero, List.getElem?_cons_succ] at c0 c1 c2 c3
  have HU1 := Lib.hid (((Upd.refl NoS w).alloc (.cells #[.int .i64 k, .int .i64 n, .int .u8 (f.toNat : Int), .slice a m c] 33)).tr hu1)
  clear hu1 h1
  have go : ∀ (w2 : World) (a2 : Option Addr) (c2 : Nat), w2.ownsRow w1.heap.size 5 1 (.slice a2 (actBytes n f).length c2) (actBytes n f).length (bvs (actBytes n f)) → Upd NoS w1 w2 → Own w0 w2 p d D L :=
    fun w2 _ _ _ hu => HO.out.no (HU1.out.tr hu)
  have GO := Lib.hid go
  clear go
  by_cases h3 : k % 8 = 3
  · have HE' := Lib.hid (show L.check D (actBytes n f) = (code, D', L') by have := HE.out; rwa [Wl.take, if_pos h3] at this)
    go_wp2_with (go_at_call 15; refine halted ?_)
    unfold Halted
    refine (actBytesIs _ k n f a m c).mono ?_
    rintro e2 w2 ⟨a2, m2, rfl, hown, hu2⟩
    have HO2 := Lib.hid (GO.out w2 a2 m2 hown hu2)
    have HR2 := Lib.hid (Rd.of_own hown)
    clear hown hu2 c0 c1 c2 c3
    go_wp2_with (go_at_call 25; refine halted ?_)
    unfold Halted
    refine (HO2.out.check HE'.out hlo _ _ _ HR2.out).mono ?_
    rintro e3 w3 ⟨rfl, ho3⟩
    have HO3 := Lib.hid ho3
    clear ho3
    go_wp2
    go_ret
    exact ⟨rfl, HO3.out⟩
  · have HE' := Lib.hid (show L.append D (actBytes n f) = (code, D', L') by have := HE.out; rwa [Wl.take, if_neg h3] at this)
    go_wp2_with (go_at_call 15; refine halted ?_)
    unfold Halted
    refine (actBytesIs _ k n f a m c).mono ?_
    rintro e2 w2 ⟨a2, m2, rfl, hown, hu2⟩
    have HO2 := Lib.hid (GO.out w2 a2 m2 hown hu2)
    have HR2 := Lib.hid (Rd.of_own hown)
    clear hown hu2 c0 c1 c2 c3
    go_wp2_with (go_at_call 24; refine halted ?_)
    unfold Halted
    refine (HO2.out.append HE'.out hlo _ _ _ HR2.out).mono ?_
    rintro e3 w3 ⟨rfl, ho3⟩
    have HO3 := Lib.hid ho3
    clear ho3
    go_wp2
    go_ret
    exact ⟨rfl, HO3.out⟩
def lenOf (area : Int) : Int := 4 + area % 18446744073709551616 % 20
theorem lenOf_bounds (area : Int) : 4 ≤ lenOf area ∧ lenOf area ≤ 23 := by unfold lenOf; omega
set_option maxRecDepth 100000 in
theorem lawLength (w : World) (area : Int) : Calls Try.prog 12 #[.int .i64 area] w fun e w' => e = .returned (.int .i64 (lenOf area)) ∧ w' = w := by
  have hwr : wrap64 ((IntKind.u64.wrap area).tmod 20) = area % 18446744073709551616 % 20 := by
    rw [u64_tmod, wrap64_small (by omega) (by omega)]
  obtain ⟨r, hr⟩ : ∃ r : Int, r = area % 18446744073709551616 % 20 := ⟨_, rfl⟩
  have h0 : 0 ≤ r := by omega
  have h1 : r < 20 := by omega
  unfold lenOf
  rw [← hr] at hwr ⊢
  clear hr
  go_enter Try.func12, Try.ntmps12
  go_wp2
  go_ret
  exact ⟨rfl, rfl⟩
/-- A log on a new disk: nothing has happened to it. -/
structure Calmly (D : Dk) (L : Wl) : Prop where
  calm : D.Calm
  size : D.size = 2 * L.n + 2
  loose : D.loose = []
  ok : L.Ok
  whole : L.broken = false
set_option maxRecDepth 100000 in
set_option maxHeartbeats 1000000 in
theorem lawFresh (w : World) (n : Int) (h4 : 4 ≤ n) (hn : n ≤ 1000) : Calls Try.prog 13 #[.int .i64 n] w fun e w' =>
    ∃ p d, e = .returned (.tuple #[.pointer (some ⟨d, 0, none⟩), .pointer (some ⟨p, 0, none⟩)]) ∧ Own w w' p d ((Dk.new (2 * n + 2)).format n).2 (Wl.fresh n) := by
  obtain ⟨g1, g2, g3, _⟩ := format_calm (new_calm (2 * n + 2)) h4 (Int.le_refl (2 * n + 2))
  have he : (Dk.new (2 * n + 2)).format n = (0, ((Dk.new (2 * n + 2)).format n).2) := by rw [← g1]
  have HE := Lib.hid he
  have hm : mayB (Dk.new (2 * n + 2)).size n = true := by
    show (decide (4 ≤ n) && decide (n ≤ 1000) && decide (2 * n + 2 ≤ 2 * n + 2)) = true
    simp; omega
  have HM := Lib.hid hm
  clear he hm g1 g2 g3
  go_enter Try.func13, Try.ntmps13
  go_wp2_with (go_at_call 40; refine halted ?_)
  unfold Halted
  refine (dskNew w (2 * n + 2) (by omega) (by omega)).mono ?_
  rintro e1 w1 ⟨rfl, hI, hu1⟩
  obtain ⟨d, hd⟩ : ∃ d, d = w.heap.size + 1 := ⟨_, rfl⟩
  rw [← hd] at hI ⊢
  have HI := Lib.hid hI
  have HU1 := Lib.hid hu1
  have HD := Lib.hid hd
  clear hI hu1 hd
  go_wp2_with (go_at_call 21; refine halted ?_)
  unfold Halted
  have hnew := Own.new (w0 := w) (w := w1) (d := d) (D := Dk.new (2 * n + 2)) (n := n) HI.out (fun j hj => by have := HD.out; omega) HU1.out HM.out (Nat.zero_le _) HE.out
  refine hnew.mono ?_
  rintro e2 w2 ⟨p, rfl, ho⟩
  have HO := Lib.hid ho
  clear ho hnew
  go_wp2
  go_ret2
  exact ⟨p, d, rfl, HO.out⟩
theorem freshCalmly {n : Int} (h4 : 4 ≤ n) (hn : n ≤ 1000) : Calmly ((Dk.new (2 * n + 2)).format n).2 (Wl.fresh n) := by
  obtain ⟨g1, g2, g3, _⟩ := format_calm (new_calm (2 * n + 2)) h4 (Int.le_refl (2 * n + 2))
  exact ⟨g2.calm, g2.size, g3, Wl.fresh_ok h4 hn, rfl⟩
end Go.Proofs.Ytomgdfoahfhijaa

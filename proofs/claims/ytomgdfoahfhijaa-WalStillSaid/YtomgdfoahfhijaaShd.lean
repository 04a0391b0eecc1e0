/- sha: Start, Pad, Sum. -/
import Derived.Test.YtomgdfoahfhijaaShc
import Derived.Test.YtomgdfoahfhijaaZer
set_option linter.unusedVariables false
set_option linter.unusedSimpArgs false
namespace Go.Proofs.Ytomgdfoahfhijaa
open Go.RowKit

def shaInit : List UInt32 := [1779033703, 3144134277, 1013904242, 2773480762, 1359893119, 2600822924, 528734635, 1541459225]
set_option maxRecDepth 100000 in
theorem shaStart (w : World) : Calls Try.prog 90 #[] w fun e w' => e = .returned (.agg (uvs shaInit).toArray) ∧ Upd NoS w w' := by
  go_enter Try.func90, Try.ntmps90
  go_wp2
  exact bodyPost_ret (results_cell_row rfl _ _ w.heap.size _ _ _ _ rfl (heap_new _ _) Try.underlying142 rfl size8) rfl ⟨rfl, (Upd.refl NoS w).alloc _⟩

theorem zeroCellsB (n : Nat) : (Builtin.zeroCells (Value.int IntKind.u8 0).cells n).toList = bvs (List.replicate n 0) := by
  simp only [Builtin.zeroCells, Value.cells, bvs]
  apply List.ext_getElem
  · simp
  · intro i h1 h2
    simp [Nat.mod_one, bv]
theorem madeCellsB (n : Nat) : (madeCells (Value.int IntKind.u8 0).cells (n * 1)).toList = bvs (List.replicate n 0) := by
  simp only [madeCells, Value.cells, bvs, bv, Nat.mul_one]
  apply List.ext_getElem
  · simp
  · intro i h1 h2
    simp [Nat.mod_one]
    rfl
theorem make_bytes {w : World} {N C : Int} {n c : Nat} (hN : N = n) (hC : C = c) (hnc : n ≤ c) (hc : c ≤ 200000000000000) :
    ∃ w', (Instr.makeSlice 35 (.int .i64 N) (.int .i64 C)).run Try.prog w = .ok (.slice (some ⟨w.heap.size, 0, none⟩) n c) w' ∧ w'.ownsRow w.heap.size 5 1 (.slice (some ⟨w.heap.size, 0, none⟩) n c) n (bvs (List.replicate n 0)) ∧ w.grownBy w' none := by
  subst hN hC
  obtain ⟨i0, hi, hz0, hz1, hz2⟩ := info_parts infoB
  have hr := run_make (P := Try.prog) w 35 5 i0 (.int .u8 0) Try.underlying35 hi hz0 .i64 .i64 n c (by omega) (by omega) (by rw [hz2]; omega) (by omega)
  simp only [Int.toNat_natCast, hz1] at hr
  refine ⟨_, hr, ⟨by simp, .inr ⟨w.heap.size, c, _, rfl, Nat.le_refl _, heap_new _ _, hnc, by unfold maxLen; omega, by rw [size_madeCells], ?_⟩⟩, World.grownBy_alloc w _ none⟩
  rw [madeCellsB]
  simp only [bvs, ← List.map_take, Nat.mul_one, List.take_replicate]
  rw [Nat.min_eq_left hnc]

def shaPad (l : List UInt8) : List UInt8 := (l ++ [128]) ++ List.replicate ((119 - l.length % 64) % 64) 0 ++ be (8 * (l.length : Int)) 8
theorem length_be (x : Int) (n : Nat) : (be x n).length = n := by simp [be]
theorem shaPad_len (l : List UInt8) : (shaPad l).length % 64 = 0 ∧ (shaPad l).length ≤ l.length + 72 := by
  simp only [shaPad, List.length_append, List.length_replicate, length_be, List.length_cons, List.length_nil]
  omega
set_option maxRecDepth 100000 in
set_option maxHeartbeats 2000000 in
theorem shaPadIs (w : World) (e : Nat) (b : Value) (l : List UInt8) (hb : Rd w e 1 b l.length (bvs l)) (hl : l.length ≤ 100000000000) :
    Calls Try.prog 91 #[b] w fun e w' => ∃ a c, e = .returned (.slice a (shaPad l).length c) ∧ w'.ownsRow w.heap.size 5 1 (.slice a (shaPad l).length c) (shaPad l).length (bvs (shaPad l)) ∧ Upd NoS w w' := by
  obtain ⟨i0, hi, hz0, hz1, hz2⟩ := info_parts infoB
  obtain ⟨a, c, rfl, hlc, hcm, _⟩ := hb.any
  go_enter Try.func91, Try.ntmps91
  go_wp2
  obtain ⟨w0, hrun, hown, hgr⟩ := make_bytes (w := w) (N := (l.length : Int)) (C := (l.length : Int) + 72) (n := l.length) (c := l.length + 72) rfl (by omega) (by omega) (by omega)
  rw [hrun]
  clear hrun
  go_wp2
  have hu0 := (Upd.refl NoS w).grown hgr (by simp)
  obtain ⟨w1, hrun1, hown1, hgrow1⟩ := run_copy_own (P := Try.prog) (dT := 35) (sT := 35) (ty := 3) Try.underlying35 sizeB hown (hb.updNo hu0) (by omega) (bvs_one l)
  rw [hrun1]
  have hu1 := hu0.grown hgrow1 (fun k hk hlt => by cases hk; exact absurd hlt (Nat.lt_irrefl _))
  rw [List.drop_eq_nil_of_le (by simp), List.append_nil] at hown1
  have HU := Lib.hid hu1
  have HO := Lib.hid hown1
  clear hrun1 hown hgr hu0 hu1 hown1 hgrow1
  go_wp2_with (at_builtin; refine halted ?_)
  unfold Halted
  obtain ⟨a2, c2, w2, hrun2, hown2, hgr2⟩ := run_append_rd (P := Try.prog) (t := 35) (ty := 35) Try.underlying35 hi hz0 hz1 hz2 rfl (by decide) (HO.out.alloc (.cells #[.int .u8 128] 5)) (rd_new w1 5 1 #[.int .u8 128] rfl (by decide)) (by simp [Value.oneCell']) (by unfold maxLen; omega) (by omega) (by simpa using Nat.le_succ_of_le HU.out.size)
  refine wpList_app rfl _ _ _ rfl rfl rfl hrun2 ?_
  have hu2 := (HU.out.alloc _).grown hgr2 (fun k hk hlt => by cases hk; exact absurd hlt (Nat.lt_irrefl _))
  have HU2 := Lib.hid hu2
  have HO2 := Lib.hid (show w2.ownsRow w.heap.size 5 1 (.slice a2 (l.length + 1) c2) (l.length + 1) (bvs (l ++ [128])) by rw [bvs_append]; exact hown2)
  clear hrun2 hown2 hgr2 hu2 HU HO
  go_wp2_with (at_builtin; refine halted ?_)
  unfold Halted
  obtain ⟨v3, w3, hrun3, hown3, hgr3, _⟩ := run_append_zeros (P := Try.prog) w2 w.heap.size 35 3 35 5 i0 (.int .u8 0) 1 1 Try.underlying35 Try.underlying3 hi hz0 hz1 hz2 rfl (by decide) (by decide) (.slice a2 (l.length + 1) c2) (l.length + 1) (bvs (l ++ [128])) HO2.out .i64 ((119 - l.length % 64) % 64) (by rw [zeroCellsB]; exact bvs_one _) (by omega) (HU2.out.size)
  rw [zeroCellsB, ← bvs_append] at hown3
  obtain ⟨a3, c3, rfl⟩ := own_shape hown3
  have e64 : (119 - (l.length : Int) % 64) % 64 = (((119 - l.length % 64) % 64 : Nat) : Int) := by omega
  refine wpList_app rfl _ _ _ rfl rfl (congrArg (Value.int .i64) e64) hrun3 ?_
  have hu3 := HU2.out.grown hgr3 (fun k hk hlt => absurd hlt (by have := own_ge HO2.out k hk; omega))
  have el : l.length + 1 + (119 - l.length % 64) % 64 = (l ++ [128] ++ List.replicate ((119 - l.length % 64) % 64) (0 : UInt8)).length := by simp; omega
  rw [el] at hown3 ⊢
  have hz : (l ++ [128] ++ List.replicate ((119 - l.length % 64) % 64) (0 : UInt8)).length ≤ l.length + 64 := by rw [← el]; omega
  have ep : shaPad l = (l ++ [128] ++ List.replicate ((119 - l.length % 64) % 64) (0 : UInt8)) ++ be (8 * (l.length : Int)) 8 := rfl
  generalize l ++ [128] ++ List.replicate ((119 - l.length % 64) % 64) (0 : UInt8) = lz at hown3 hz ep ⊢
  have HU3 := Lib.hid hu3
  have HO3 := Lib.hid hown3
  have EP := Lib.hid ep
  clear hrun3 hown3 hgr3 hu3 HU2 HO2 e64 el ep
  go_wp2_with (go_at_call 93; refine (put64 _ _ _ _ (Rd.of_own HO3.out) (by omega) (8 * (l.length : Int)) (by omega) (by omega)).mono ?_; rintro e w' ⟨_, _, rfl, h1, h2⟩)
  go_ret
  have en : (shaPad l).length = lz.length + 8 := by rw [EP.out, List.length_append, length_be]
  rw [en]
  exact ⟨_, _, rfl, by rw [EP.out]; exact own_lower h1 HU3.out.size, HU3.out.tr h2⟩
end Go.Proofs.Ytomgdfoahfhijaa

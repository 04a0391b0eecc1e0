/- wal: title. -/
import Derived.Test.YtomgdfoahfhijaaWat
import Derived.Lib.AppendStr
set_option linter.unusedVariables false
set_option linter.unusedSimpArgs false
namespace Go.Proofs.Ytomgdfoahfhijaa
open Go.RowKit

def titleOf (turn n : Int) : List UInt8 := sealOf (be n 4 ++ be turn 4 ++ [83, 65, 70, 69, 72, 79, 85, 83, 69] ++ List.replicate 43 0)
set_option maxRecDepth 100000 in
set_option maxHeartbeats 2000000 in
theorem walTitle (w : World) (turn n : Int) (ht0 : 0 ≤ turn) (ht : turn < 4294967296) (hn0 : 0 ≤ n) (hn : n < 4294967296) :
    Calls Try.prog 67 #[.int .u32 turn, .int .i64 n] w fun e w' => e = .returned (.agg (bvs (titleOf turn n)).toArray) ∧ Upd NoS w w' := by
  have hnw : n % 4294967296 = n := by omega
  go_enter Try.func67, Try.ntmps67
  go_wp2_with (go_at_call 75; refine halted ?_)
  unfold Halted
  refine calls_name ?_
  intro W0 hW0
  have hu0 : Upd NoS w W0 := by rw [hW0]; exact (Upd.refl NoS w).alloc _
  have ho0 : W0.heap[w.heap.size]? = some (.cells (bvs (List.replicate 64 0)).toArray 80 (0, 0)) := by rw [hW0]; exact heap_new _ _
  clear hW0
  refine (put32 W0 5 (.slice none 0 0) [] (Rd.nil _ _ _) (by simp) n hn0 hn).mono ?_
  rintro e w1 ⟨a1, c1, rfl, h1, hu1⟩
  have H1 := Lib.hid h1
  have HU1 := Lib.hid (hu0.tr hu1)
  have HO1 := Lib.hid (hu1.heap ho0 id)
  clear h1 hu1 hu0 ho0
  go_wp2_with (go_at_call 75; refine halted ?_)
  unfold Halted
  have hr1 : Rd w1 5 1 (.slice a1 4 c1) (be n 4).length (bvs (be n 4)) := by rw [length_be]; simpa using Rd.of_own H1.out
  refine (put32 w1 5 (.slice a1 4 c1) (be n 4) hr1 (by rw [length_be]; decide) turn ht0 ht).mono ?_
  rintro e w2 ⟨a2, c2, rfl, h2, hu2⟩
  rw [length_be] at h2 ⊢
  have H2 := Lib.hid h2
  have HU2 := Lib.hid (HU1.out.tr hu2)
  have HO2 := Lib.hid (hu2.heap HO1.out id)
  have hs1 := hu2.size
  clear h2 hu2 hr1
  go_wp2_with (at_builtin; refine halted ?_)
  unfold Halted
  obtain ⟨i0, hi, hz0, hz1, hz2⟩ := info_parts infoB
  obtain ⟨v3, w3, hrun3, hown3, hgr3, _⟩ := Go.Lib.run_append_own_string (P := Try.prog) w2 w1.heap.size 35 9 35 5 i0 Try.underlying35 Try.underlying9 hi hz0 hz1 hz2 _ _ _ H2.out ⟨#[83, 65, 70, 69, 72, 79, 85, 83, 69]⟩ (by decide) (by decide) hs1
  rw [show Go.Lib.strCells ⟨#[83, 65, 70, 69, 72, 79, 85, 83, 69]⟩ = bvs [83, 65, 70, 69, 72, 79, 85, 83, 69] from rfl, ← bvs_append] at hown3
  refine wpList_app rfl _ _ _ rfl rfl rfl hrun3 ?_
  have hu3 := HU2.out.grown hgr3 (fun k hk hlt => absurd hlt (by have := own_ge H2.out k hk; have := HU1.out.size; omega))
  have ho3 := hgr3.block w.heap.size (lt_of_heap HO2.out) (fun e => by have := own_ge H2.out _ e.symm; have := lt_of_heap HO1.out; omega)
  have H3 := Lib.hid hown3
  have HU3 := Lib.hid hu3
  have HO3 := Lib.hid (ho3.trans HO2.out)
  obtain ⟨v4, w4, hrun4, hown4, hgr4, _⟩ := run_append_zeros (P := Try.prog) w3 w1.heap.size 35 3 35 5 i0 (.int .u8 0) 1 1 Try.underlying35 Try.underlying3 hi hz0 hz1 hz2 rfl (by decide) (by decide) v3 _ _ H3.out .i64 43 (by rw [zeroCellsB]; exact bvs_one _) (by decide) (by have := hgr3.size; omega)
  rw [zeroCellsB, ← bvs_append] at hown4
  refine wpList_app rfl _ _ _ rfl rfl rfl hrun4 ?_
  have hu4 := HU3.out.grown hgr4 (fun k hk hlt => absurd hlt (by have := own_ge H3.out k hk; have := HU1.out.size; omega))
  have ho4 := hgr4.block w.heap.size (lt_of_heap HO3.out) (fun e => by have := own_ge H3.out _ e.symm; have := lt_of_heap HO1.out; omega)
  have H4 := Lib.hid hown4
  have HU4 := Lib.hid hu4
  have HO4 := Lib.hid (ho4.trans HO3.out)
  clear hrun3 hown3 hgr3 hu3 ho3 hrun4 hown4 hgr4 hu4 ho4 hs1
  have hlen : (be n 4 ++ be turn 4 ++ [83, 65, 70, 69, 72, 79, 85, 83, 69] ++ List.replicate 43 (0 : UInt8)).length = 60 := by simp [length_be]
  have h60 : w4.ownsRow w1.heap.size 5 1 v4 60 (bvs (be n 4 ++ be turn 4 ++ [83, 65, 70, 69, 72, 79, 85, 83, 69] ++ List.replicate 43 (0 : UInt8))) := H4.out
  have R4 := Lib.hid (Rd.of_own h60)
  clear h60
  go_wp2_with (go_at_call 77; refine halted ?_)
  unfold Halted
  refine (walSealed w4 5 v4 (be n 4 ++ be turn 4 ++ [83, 65, 70, 69, 72, 79, 85, 83, 69] ++ List.replicate 43 (0 : UInt8)) (by rw [hlen]; exact R4.out) hlen).mono ?_
  rintro e w5 ⟨rfl, hu5⟩
  have HO5 := Lib.hid (hu5.heap HO4.out id)
  have hsz := length_sealOf hlen
  have HU5 := Lib.hid (HU4.out.tr hu5)
  have et : titleOf turn n = sealOf (be n 4 ++ be turn 4 ++ [83, 65, 70, 69, 72, 79, 85, 83, 69] ++ List.replicate 43 (0 : UInt8)) := rfl
  rw [← et] at hsz ⊢
  obtain ⟨tl, htl⟩ : ∃ tl, tl = titleOf turn n := ⟨_, rfl⟩
  rw [← htl] at hsz ⊢
  have HTL := Lib.hid htl
  clear htl
  have HSZ := Lib.hid (show (bvs tl).toArray.size = 64 by rw [List.size_toArray, length_bvs]; exact hsz)
  clear hsz hlen hu5 et
  go_wp2_with (refine wpList_store0 HO5.out sizeBlock HSZ.out (by rfl) (bvs_one tl) rfl (x := .tmp 4) (y := .tmp 14) rfl rfl rfl ?_; intro w6 hg6 hu6 hs6; clear hs6)
  refine bodyPost_ret (results_cell_row rfl _ _ w.heap.size _ _ _ _ rfl hg6 Try.underlying80 rfl (by rw [HSZ.out]; exact sizeBlock)) rfl ⟨by rw [HTL.out], ?_⟩
  exact HU5.out.trans hu6 (fun k hk e => absurd hk (by rw [show k = w.heap.size from e]; exact Nat.lt_irrefl _))
end Go.Proofs.Ytomgdfoahfhijaa

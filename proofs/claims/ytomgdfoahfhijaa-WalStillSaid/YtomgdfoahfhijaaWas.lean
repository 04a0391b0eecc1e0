/- wal: sealed, title. -/
import Derived.Test.YtomgdfoahfhijaaWal
set_option linter.unusedVariables false
set_option linter.unusedSimpArgs false
namespace Go.Proofs.Ytomgdfoahfhijaa
open Go.RowKit

theorem wpList_val {P : Program} {w w' : World} {ops : Array Oper} {rest : List Oper} {o : Oper} {a : Act} {Q : Exit → Act → World → Prop} {v : Value} (hgd : o.guard = none) (hrun : (execOp a.eval o).run P w = .ok (.value v) w') (h : wpList P ops Q rest (a.put o.dst v) w') : wpList P ops Q (o :: rest) a w :=
  wpList_plain hgd fun K hK => by unfold Oper.wp; rw [hrun]; exact hK _ _ h
def sealOf (l : List UInt8) : List UInt8 := (shaDigest l).drop 28 ++ l
theorem length_sealOf {l : List UInt8} (h : l.length = 60) : (sealOf l).length = 64 := by simp [sealOf, length_shaDigest, h]
set_option maxRecDepth 100000 in
set_option maxHeartbeats 2000000 in
theorem walSealed (w : World) (e : Nat) (b : Value) (l : List UInt8) (hb : Rd w e 1 b l.length (bvs l)) (hl : l.length = 60) :
    Calls Try.prog 77 #[b] w fun e w' => e = .returned (.agg (bvs (sealOf l)).toArray) ∧ Upd NoS w w' := by
  have HB := Lib.hid hb
  have HL := Lib.hid hl
  obtain ⟨a, c, rfl, hlc, hcm, _⟩ := hb.any
  obtain ⟨g, o, rfl⟩ : ∃ g o, a = some ⟨g, o, none⟩ := by
    rcases hb.shape with ⟨h1, h2⟩ | ⟨g, o, c', h1, _⟩
    · omega
    · exact ⟨g, o, by cases h1; rfl⟩
  have hl60 : (60 : Int) ≤ (l.length : Int) := by omega
  have hl61 : (l.length : Int) ≤ 60 := by omega
  clear hl hb
  go_enter Try.func77, Try.ntmps77
  go_wp2_with (first
    | (go_at_call 86; refine (shaSumIs _ e _ l (HB.out.updNo ((Upd.refl NoS w).alloc _)) (by have := HL.out; omega)).mono ?_; rintro e' w1 ⟨rfl, hu1⟩)
    | (refine wpList_store0 (heap_new _ _) sizeD (by simp [length_shaDigest]) (by rfl) (bvs_one (shaDigest l)) rfl (x := .tmp 3) (y := .tmp 5) rfl rfl rfl ?_; intro w2 hg2 hu2 hs2; clear hs2)
    | (at_builtin; refine halted ?_))
  unfold Halted
  obtain ⟨i0, hi, hz0, hz1, hz2⟩ := info_parts infoB
  have hL := HL.out
  have hu02 : Upd NoS w w2 := ((((Upd.refl NoS w).alloc _).tr hu1).alloc _).trans hu2 (fun k hk e => absurd hk (by have := hu1.size; simp at this; rw [show k = w1.heap.size from e]; omega))
  have hr2 := HB.out.updNo hu02
  have hol : ∀ j v, (bvs ((shaDigest l).drop 28))[j]? = some v → w2.cell? ((⟨w1.heap.size, 28, none⟩ : Addr).add j) = some v := fun j v hv => by
    rw [show (⟨w1.heap.size, 28, none⟩ : Addr).add j = ⟨w1.heap.size, 28 + j, none⟩ from by unfold Addr.add; split <;> simp_all, cell_at hg2]
    rw [bvs, List.map_drop, List.getElem?_drop] at hv
    rw [List.getElem?_toArray]
    exact hv
  have hd28 : ((shaDigest l).drop 28).length = 4 := by simp [length_shaDigest]
  have hrun := run_append_grow (P := Try.prog) w2 35 35 5 i0 (.int .u8 0) Try.underlying35 hi hz0 ⟨w1.heap.size, 28, none⟩ 4 4 (bvs ((shaDigest l).drop 28)) (by rw [hz1]; simp [hd28]) hol ⟨g, o, none⟩ l.length c (bvs l) (by rw [hz1]; simp) hr2.cells (by omega) (by omega) (by rw [hz2, hL]; decide)
  refine wpList_app rfl _ _ _ rfl rfl rfl hrun ?_
  obtain ⟨W4, hW4⟩ : ∃ W4, W4 = w2.drew.alloc (.cells ((bvs ((shaDigest l).drop 28)).toArray ++ (bvs l).toArray ++ Builtin.zeroCells (Value.int IntKind.u8 0).cells (grownCap w2 (4 + l.length) 4 5 - (4 + l.length))) 5) := ⟨_, rfl⟩
  rw [← hW4]
  have hu4 : Upd NoS w W4 := by rw [hW4]; exact hu02.drew.alloc _
  have hg4 : W4.heap[w2.heap.size]? = some (.cells ((bvs ((shaDigest l).drop 28)).toArray ++ (bvs l).toArray ++ Builtin.zeroCells (Value.int IntKind.u8 0).cells (grownCap w2 (4 + l.length) 4 5 - (4 + l.length))) 5 (0, 0)) := by rw [hW4]; exact heap_new _ _
  have ho4 : W4.heap[w.heap.size]? = some (.cells (bvs (List.replicate 64 0)).toArray 80 (0, 0)) := by
    have hlt : w.heap.size < w1.heap.size := by have := hu1.size; simp at this; omega
    have h1 := hu2.heap (heap_old (hu1.heap (heap_new _ _) id)) (show ¬ OneS w1.heap.size w.heap.size by simp only [OneS]; omega)
    rw [hW4]
    exact heap_old h1
  have e64 : ((((bvs ((shaDigest l).drop 28)).toArray ++ (bvs l).toArray ++ Builtin.zeroCells (Value.int IntKind.u8 0).cells (grownCap w2 (4 + l.length) 4 5 - (4 + l.length))).toList.drop 0).take 64).toArray = (bvs (sealOf l)).toArray := by
    rw [List.drop_zero, Array.toList_append, Array.toList_append, List.take_append_of_le_length (by simp [hd28, hL])]
    rw [List.take_of_length_le (by simp [hd28, hL])]
    unfold sealOf
    rw [bvs_append]
  have H4 := Lib.hid hg4
  have O4 := Lib.hid ho4
  have E64 := Lib.hid e64
  have HU4 := Lib.hid hu4
  have hsz : (bvs (sealOf l)).toArray.size = 64 := by rw [List.size_toArray, length_bvs]; exact length_sealOf hL
  have HSZ := Lib.hid hsz
  clear hsz hrun hol hr2 hu02 hu1 hu2 hg2 hW4 hu4 hg4 ho4 e64 hd28 hL
  go_wp2_with (first
    | (refine wpList_val rfl (exec_arrayAt Try.underlying80 (by have := HL.out; omega) rfl rfl) ?_)
    | (refine wpList_val rfl (exec_loadA (off := 0) H4.out Try.underlying80 rfl sizeBlock (by have := HL.out; simp [length_shaDigest]; omega) rfl rfl) ?_; rw [E64.out])
    | (refine wpList_store0 O4.out sizeBlock HSZ.out (by rfl) (bvs_one (sealOf l)) rfl (x := .tmp 2) (y := .tmp 10) rfl rfl rfl ?_; intro w5 hg5 hu5 hs5; clear hs5))
  refine bodyPost_ret (results_cell_row rfl _ _ w.heap.size _ _ _ _ rfl hg5 Try.underlying80 rfl (by rw [HSZ.out]; exact sizeBlock)) rfl ⟨rfl, ?_⟩
  exact HU4.out.trans hu5 (fun k hk e => absurd hk (by rw [show k = w.heap.size from e]; exact Nat.lt_irrefl _))
end Go.Proofs.Ytomgdfoahfhijaa

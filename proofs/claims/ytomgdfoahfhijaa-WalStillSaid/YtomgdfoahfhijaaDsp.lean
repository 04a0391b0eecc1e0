/- disk: Pending, Arm. -/
import Derived.Test.YtomgdfoahfhijaaDse
set_option linter.unusedVariables false
set_option linter.unusedSimpArgs false
namespace Go.Proofs.Ytomgdfoahfhijaa
open Go.RowKit

theorem infoI : (Try.prog.info? 3).map (fun i => (i.zero, i.size, i.bytes)) = some (some (.int .i64 0), 1, 8) := by kernel_rfl
theorem ints_one (l : List (Int × List UInt8)) : ∀ u ∈ l.map (fun p => Value.int .i64 p.1), u.oneCell' = true := by
  intro u hu
  obtain ⟨_, _, rfl⟩ := List.mem_map.1 hu
  rfl
set_option maxRecDepth 100000 in
set_option maxHeartbeats 2000000 in
theorem dskPending (w : World) (d : Nat) (D : Dk) (S : Nat → Prop) (h : IsDisk w d D S) (hl : D.loose.length ≤ 1000000000) :
    Calls Try.prog 38 #[.pointer (some ⟨d, 0, none⟩)] w fun e w' => (∃ a c, e = .returned (.slice a D.loose.length c)) ∧ Upd NoS w w' := by
  obtain ⟨i0, hi, hz0, hz1, hz2⟩ := info_parts infoI
  obtain ⟨m, v, hS, hd, hm, hv, ho⟩ := h
  obtain ⟨a, c, rfl⟩ := own_shape hv
  have c2 := cell_at hd 2
  simp only [Dk.cells, List.getElem?_toArray, List.getElem?_cons_zero, List.getElem?_cons_succ] at c2
  have HV := Lib.hid hv
  have HO := Lib.hid ho
  clear hS hd hm hv ho
  go_enter Try.func38, Try.ntmps38
  go_wp2
  go_loopw [14, 3] (fun kv ov wr => ∃ (k : Nat) (a' : Option Addr) (c' : Nat), k ≤ D.loose.length ∧ kv = .int .i64 k ∧ ov = .slice a' k c' ∧ wr.ownsRow w.heap.size 3 1 (.slice a' k c') k ((D.loose.take k).map fun p => .int .i64 p.1) ∧ Upd NoS w wr) (fun kv _ _ => D.loose.length - (intOf kv).toNat)
  case atStart => exact ⟨0, none, 0, Nat.zero_le _, rfl, rfl, World.ownsRow_nil _ _ _ _, Upd.refl _ _⟩
  case round =>
    obtain ⟨k, a', c', hk, rfl, rfl, hown, hu⟩ := hrel
    by_cases hlt : k < D.loose.length
    · obtain ⟨g, c0, he, _, hnc, hcm⟩ := own_pos HV.out (by omega)
      cases he
      have hrow : ∃ cur, wr.heap[g]? = some (.cells cur 108 (0, 0)) ∧ k * 65 + 65 ≤ cur.size ∧ ((cur.toList.drop (k * 65)).take 65) = wrote D.loose[k] := by
        rcases HV.out.2 with ⟨h1, _⟩ | ⟨g', cap', cur, hv, _, hg, hnc', _, hcs, ht⟩
        · cases h1
        · cases hv
          refine ⟨cur, hu.heap hg id, by rw [hcs]; omega, ?_⟩
          rw [← flat_at HO.out.loose hlt, ← ht, List.drop_take, List.take_take, Nat.min_eq_left (by omega)]
      obtain ⟨cur, hg, hcs, ht⟩ := hrow
      have HGR := Lib.hid hg
      have HT := Lib.hid ht
      have HOW := Lib.hid hown
      have HU := Lib.hid hu
      clear hg ht hown hu
      go_wp2_with (first
        | (refine wpList_loadA HGR.out Try.underlying108 rfl sizeWr hcs rfl (x := .tmp 17) rfl rfl ?_; rw [HT.out])
        | (refine wpList_loadA HGR.out Try.underlying108 rfl sizeWr hcs rfl (x := .tmp 16) rfl rfl ?_; rw [HT.out])
        | (refine wpList_store0 (heap_new _ _) sizeWr (size_wrote (HO.out.loose _ (List.getElem_mem hlt))) (by rfl) (one_wrote _) rfl (x := .tmp 5) (y := .tmp 17) rfl rfl rfl ?_; intro w1 hg1 hu1 hs1; clear hs1; have q0 := cell_at hg1 0; simp only [wrote, List.getElem?_toArray, List.getElem?_cons_zero] at q0)
        | (at_builtin; refine halted ?_))
      unfold Halted
      have hu1' : Upd NoS w w1 := (HU.out.alloc _).trans hu1 (fun k hk e => absurd hk (by have := HU.out.size; rw [show k = wr.heap.size from e]; omega))
      have hown1 := own_upd (HOW.out.alloc (.cells Try.zeroCells108 108)) hu1 (fun k hk e => by have := own_lt HOW.out k hk; rw [show k = wr.heap.size from e] at this; exact Nat.lt_irrefl _ this)
      obtain ⟨a2, c2', w2, hrun2, hown2, hgr2⟩ := run_append_rd (P := Try.prog) (t := 65) (ty := 65) Try.underlying65 hi hz0 hz1 hz2 rfl (by decide) (hown1.alloc (.cells #[.int .i64 D.loose[k].1] 3)) (rd_new w1 3 1 #[.int .i64 D.loose[k].1] rfl (by decide)) (by simp [Value.oneCell']) (by unfold maxLen; omega) (by omega) (by have := hu1'.size; simp; omega)
      refine wpList_app rfl _ _ _ rfl rfl rfl hrun2 ?_
      have hu2 : Upd NoS w w2 := (hu1'.alloc _).grown hgr2 (fun k hk hlt' => absurd hlt' (by have := own_ge HOW.out k hk; omega))
      have HO2 := Lib.hid (show w2.ownsRow w.heap.size 3 1 (.slice a2 (k + 1) c2') (k + 1) ((D.loose.take (k + 1)).map fun p => .int .i64 p.1) by rw [List.take_succ_eq_append_getElem hlt, List.map_append]; exact hown2)
      have HU2 := Lib.hid hu2
      clear hu1 hu1' hown1 hrun2 hown2 hgr2 hu2 hg1
      go_wp2
      exact ⟨⟨k + 1, a2, c2', by omega, by go_num, rfl, HO2.out, HU2.out⟩, by simp [intOf]; omega⟩
    · obtain rfl : k = D.loose.length := by omega
      have HU := Lib.hid hu
      clear hown hu
      go_wp2
      go_ret
      exact ⟨⟨_, _, rfl⟩, HU.out⟩
end Go.Proofs.Ytomgdfoahfhijaa

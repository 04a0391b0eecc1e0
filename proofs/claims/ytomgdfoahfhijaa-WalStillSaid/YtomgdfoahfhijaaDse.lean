/- disk: Read. -/
import Derived.Test.YtomgdfoahfhijaaDsr
set_option linter.unusedVariables false
set_option linter.unusedSimpArgs false
namespace Go.Proofs.Ytomgdfoahfhijaa
open Go.RowKit

theorem length_holds {D : Dk} (h : D.Ok) (at_ : Int) : (D.holds at_).length = 64 := by
  unfold Dk.holds
  split
  · rename_i p hp
    exact h.loose p (List.mem_reverse.1 (List.mem_of_find?_eq_some hp))
  · cases hlk : D.firm.look at_ with
    | none => simp
    | some v =>
      unfold Ents.look at hlk
      obtain ⟨p, hp, rfl⟩ := Option.map_eq_some_iff.1 hlk
      exact h.firm p (List.mem_of_find?_eq_some hp)
set_option maxRecDepth 100000 in
set_option maxHeartbeats 2000000 in
theorem dskRead1 (w : World) (d : Nat) (D : Dk) (S : Nat → Prop) (h : IsDisk w d D S) (b0 b1 b2 : Nat) (at_ : Int) (old : List UInt8) (hold : old.length = 64) (hl : D.loose.length ≤ 1000000000)
    (h0 : w.heap[b0]? = some (.cells #[.pointer (some ⟨d, 0, none⟩)] 26 (0, 0))) (h1 : w.heap[b1]? = some (.cells #[.int .i64 at_] 3 (0, 0))) (h2 : w.heap[b2]? = some (.cells (bvs old).toArray 80 (0, 0))) :
    Calls Try.prog 71 #[.pointer (some ⟨b0, 0, none⟩), .pointer (some ⟨b1, 0, none⟩), .pointer (some ⟨b2, 0, none⟩)] w fun e w' => e = .returned (.tuple #[]) ∧ Upd (OneS b2) w w' ∧ w'.heap[b2]? = some (.cells (bvs (D.holds at_)).toArray 80 (0, 0)) := by
  have h64 := length_holds h.ok at_
  have MK : Hid (∀ w', Upd NoS w w' → w'.cell? ⟨b0, 0, none⟩ = some (.pointer (some ⟨d, 0, none⟩)) ∧ w'.cell? ⟨b1, 0, none⟩ = some (.int .i64 at_)) := Lib.hid fun w' hu => ⟨cell_at (hu.heap h0 id) 0, cell_at (hu.heap h1 id) 0⟩
  have HI := Lib.hid h
  have H2 := Lib.hid h2
  clear h h0 h1 h2
  go_enter Try.func71, Try.ntmps71
  refine wp_region_canon (fun w' => Upd NoS w w') 5 1 [4] [0, 1, 2, 3, 4] rfl (by kernel_rfl) (by decide) (by kernel_rfl) (by kernel_rfl) (by kernel_rfl) (by kernel_rfl) (by kernel_rfl) ((Upd.refl _ _).drew) ?_
  simp only [List.take_succ_cons, List.take_zero, List.drop_succ_cons, List.drop_zero, pick, List.getElem?_cons_succ, List.getElem?_cons_zero, Nat.reduceBEq, List.contains_cons, List.contains_nil, Bool.or_self, Bool.or_false, Bool.or_true, Bool.true_or, Bool.false_or]
  iterate 4 (refine wpD_quiet ?_ (fun w' hS => ?_) ?_; rotate_left; (· obtain ⟨f0, f1⟩ := MK.out w' hS; go_simp; (try with_reducible rfl)); (try simp only [Act.put, List.setIfInBounds_toArray, List.set_cons_succ, List.set_cons_zero]))
  refine wpD_loud (fun K hK => ?_)
  go_wp2_with fail
  refine (dskHolds _ d D S (HI.out.updNo (Upd.refl NoS w).drew) at_ hl).mono ?_
  rintro e w2 ⟨rfl, hu2⟩
  go_wp2_with fail
  have hu02 : Upd NoS w w2 := (Upd.refl NoS w).drew.tr hu2
  refine hK _ _ hu02 ?_
  refine wpD_nil ?_
  have h22 := hu02.heap H2.out id
  go_wp2_with (refine wpList_store0 h22 sizeBlock (by simp [h64]) (by simp [hold]) (bvs_one (D.holds at_)) rfl (x := .tmp 2) (y := .tmp 7) rfl rfl rfl ?_; intro w3 hg3 hu3 hs3)
  refine NoPanic.normal ?_
  go_wp2
  go_end0
  exact ⟨rfl, (hu02.mono (fun _ _ h => h.elim)).tr hu3, hg3⟩
def Dk.read (D : Dk) (at_ : Int) : List UInt8 × Int × Dk := if (D.ask at_ false).1 = 0 then ((D.ask at_ false).2.holds at_, 0, (D.ask at_ false).2.op) else (List.replicate 64 0, D.ask at_ false)
set_option maxRecDepth 100000 in
set_option maxHeartbeats 2000000 in
theorem dskRead (w : World) (d : Nat) (D : Dk) (S : Nat → Prop) (h : IsDisk w d D S) (at_ : Int) (hl : D.loose.length ≤ 1000000000) :
    Calls Try.prog 46 #[.pointer (some ⟨d, 0, none⟩), .int .i64 at_] w fun e w' => e = .returned (.tuple #[.agg (bvs (D.read at_).1).toArray, .int .i64 (D.read at_).2.1]) ∧ DskTo w w' d (D.read at_).2.2 S := by
  have HI := Lib.hid h
  go_enter Try.func46, Try.ntmps46
  go_wp2_with (go_at_call 70; refine halted ?_)
  unfold Halted
  refine calls_name ?_
  intro W0 hW0
  have hu0 : Upd NoS w W0 := by rw [hW0]; exact (((Upd.refl NoS w).alloc _).alloc _).alloc _
  have hb0 : W0.heap[w.heap.size]? = some (.cells #[.pointer (some ⟨d, 0, none⟩)] 26 (0, 0)) := by rw [hW0]; exact heap_old (heap_old (heap_new _ _))
  have hb1 : W0.heap[w.heap.size + 1]? = some (.cells #[.int .i64 at_] 3 (0, 0)) := by rw [hW0]; exact heap_old (heap_new' (by simp))
  have hb2 : W0.heap[w.heap.size + 1 + 1]? = some (.cells (bvs (List.replicate 64 0)).toArray 80 (0, 0)) := by rw [hW0]; exact heap_new' (by simp)
  have hI0 := HI.out.updNo hu0
  clear hW0
  obtain ⟨hl1, _, _, _⟩ := Dk.ask_loose D at_ false
  have hdl := HI.out.lt d HI.out.self
  have hlt := HI.out.lt
  refine (dskAsked W0 d D S hI0 at_ false _ _ (fun w1 D2 S2 w2 => D2 = (D.ask at_ false).2 ∧ S2 = S ∧ Upd (OneS (w.heap.size + 1 + 1)) w1 w2 ∧ w2.heap[w.heap.size + 1 + 1]? = some (.cells (bvs ((D.ask at_ false).2.holds at_)).toArray 80 (0, 0)) ∧ SameMap d w1 w2) (callFunc_at (by kernel_rfl) _) (fun _ w1 hI1 hu1 hs1 => ?_)).mono ?_
  · refine (dskRead1 w1 d _ S hI1 _ _ _ at_ (List.replicate 64 0) (by simp) (by rw [hl1]; exact hl) (hu1.heap hb0 (by simp only [OneS]; omega)) (hu1.heap hb1 (by simp only [OneS]; omega)) (hu1.heap hb2 (by simp only [OneS]; omega))).mono ?_
    rintro e w2 ⟨rfl, h1, h2⟩
    exact ⟨rfl, _, S, hI1.upd h1 (fun k hk e => by have := hlt k hk; rw [show k = w.heap.size + 1 + 1 from e] at this; omega), rfl, rfl, h1, h2, sameMap_upd hI1 h1 (fun e => by rw [show d = w.heap.size + 1 + 1 from e] at hdl; omega)⟩
  · rintro e w3 ⟨rfl, hp⟩
    unfold AskPost at hp
    have hdS := HI.out.self
    have hm : ∀ {a b : World}, Upd (OneS d) a b → Upd S a b := fun h => h.mono (fun k _ e => by rw [show k = d from e]; exact hdS)
    have key : ∃ (bl : List UInt8), bl.length = 64 ∧ w3.heap[w.heap.size + 1 + 1]? = some (.cells (bvs bl).toArray 80 (0, 0)) ∧ (D.read at_).1 = bl ∧ (D.read at_).2.1 = (D.ask at_ false).1 ∧ IsDisk w3 d (D.read at_).2.2 S ∧ Upd S w w3 ∧ SameMap d w w3 := by
      unfold Dk.read
      by_cases h0 : (D.ask at_ false).1 = 0
      · rw [if_pos h0]
        obtain ⟨D2, S2, w1, w2, hu1, hs1, ⟨rfl, rfl, hu2, hh2, hm2⟩, hI3, hu3, hs3, hm1, hm3⟩ := hp.2 h0
        refine ⟨_, length_holds (Dk.ask_ok HI.out.ok at_ false) at_, hu3.heap hh2 (by simp only [OneS]; omega), rfl, h0.symm, hI3, ?_, ((hm3.trans hm2).trans hm1).trans (sameMap_upd HI.out hu0 id)⟩
        exact (((hu0.mono (fun _ _ h => h.elim)).tr (hm hu1)).trans hu2 (fun k hk e => absurd hk (by rw [show k = w.heap.size + 1 + 1 from e]; omega))).tr (hm hu3)
      · rw [if_neg h0]
        obtain ⟨h1, h2, h3, h4⟩ := hp.1 h0
        exact ⟨_, by simp, h2.heap hb2 (by simp only [OneS]; omega), rfl, rfl, h1, (hu0.mono (fun _ _ h => h.elim)).tr (hm h2), h4.trans (sameMap_upd HI.out hu0 id)⟩
    obtain ⟨bl, hbl, hg, e1, e2, hD, hD2, hD3⟩ := key
    have HG := Lib.hid hg
    have HE := Lib.hid (And.intro e1 e2)
    have HD := Lib.hid (And.intro hD (And.intro hD2 hD3))
    clear hp hm e1 e2 hg hD hD2 hD3 hb0 hb1 hb2
    go_wp2_with (first
      | (refine wpList_load0 HG.out Try.underlying80 rfl sizeBlock (by simp [hbl]) rfl (x := .tmp 4) rfl rfl ?_)
      | (refine wpList_store0 HG.out sizeBlock (by simp [hbl]) (by simp [hbl]) (bvs_one bl) rfl (x := .tmp 4) (y := .tmp 10) rfl rfl rfl ?_; intro w4 hg4 hu4 hs4))
    have hrow := run_loadVar_row (P := Try.prog) w4 (w.heap.size + 1 + 1) _ 80 _ (0, 0) _ hg4 Try.underlying80 rfl (by simpa [hbl] using sizeBlock)
    obtain ⟨h1, h3, h5⟩ := HD.out
    refine bodyPost_ret (v := .tuple #[.agg (bvs bl).toArray, .int .i64 (D.ask at_ false).1]) ?_ rfl ⟨by rw [HE.out.1, HE.out.2], S, h1.upd hu4 (fun k hk e => ?_), fun k hk => .inl hk, h3.trans hu4 (fun k hk e => absurd hk (by rw [show k = w.heap.size + 1 + 1 from e]; omega)), (sameMap_upd h1 hu4 (fun e => by rw [show d = w.heap.size + 1 + 1 from e] at hdl; omega)).trans h5⟩
    · simp [results, Try.results46, asAddr, hrow, Act.put]
      rfl
    · have := hlt k hk
      rw [show k = w.heap.size + 1 + 1 from e] at this
      omega
end Go.Proofs.Ytomgdfoahfhijaa

/- How a statement's row follows from the contract of its function: what is alike for every statement of this kind. Arguments that are acts, or rows of acts. -/
import Derived.Test.YtomgdfoahfhijaaFil
import Derived.ReadAgain
import Derived.ChangeStays
import Derived.Test.YtomgdfoahfhijaaAct
set_option linter.unusedVariables false
set_option linter.unusedSimpArgs false
namespace Go.Proofs.Ytomgdfoahfhijaa
open Go.RowKit Go.ChangeShapes

theorem Upd.sameAt {w w' : World} (h : Upd NoS w w') {p : MemPlace} (hb : p.block < w.heap.size) : w.sameAt w' p := by
  cases p with
  | cell b o =>
    show w'.cell? ⟨b, o, none⟩ = w.cell? ⟨b, o, none⟩
    have := h.block b hb id
    unfold World.cell?
    simp only [this]
  | map b => exact h.block b hb id
theorem kidsOf : Kids Try.prog (· < Try.prog.types.size) := kids_rows (by kernel_rfl) (by kernel_rfl)
theorem slicesFull : ∀ t e, t < Try.prog.types.size → Try.prog.underlying t = some (.slice e) → 0 < Try.prog.cellsOf e := slices_full_of _ (by kernel_rfl)
section
variable {H : Type} {enc : TypeId × Value → H}
/-- What was read is read where nothing that stood has turned. -/
theorem trodAll_stay {W W' : World} (hu : Upd NoS W W') (sp : Nat → Bool) : ∀ {ts : List TypeId} {vs : List Value} {ds : List (DataW H)} {ps : List MemPlace}, (∀ t ∈ ts, t < Try.prog.types.size) →
    DataW.TrodAll enc Try.prog W 0 (fun _ => true) true ts vs ds ps → (∀ p ∈ ps, p.block < W.heap.size) → (∀ p ∈ ps, sp p.block = true) → DataW.TrodAll enc Try.prog W' 0 sp true ts vs ds ps
  | [], _, _, _, _, h, _, _ => by
    obtain ⟨rfl, rfl, rfl⟩ := trodAll_nil h
    rfl
  | t :: ts, _, _, _, ht, h, hl, hs => by
    obtain ⟨v, vs1, d, ds1, a, b, rfl, rfl, rfl, ⟨n, h1⟩, h2⟩ := trodAll_cons h
    refine trodAll_cons_mk ⟨n, ?_⟩ (trodAll_stay hu sp (fun t h => ht t (List.mem_cons_of_mem _ h)) h2 (fun p hp => hl p (List.mem_append_right _ hp)) (fun p hp => hs p (List.mem_append_right _ hp)))
    exact DataW.trod_stays kidsOf (fun hT he => slicesFull _ _ hT he) (fun h => by cases h) (ht t (List.mem_cons_self ..)) h1 (fun p hp => hu.sameAt (hl p (List.mem_append_left _ hp))) (fun p hp => hs p (List.mem_append_left _ hp))
end
end Go.Proofs.Ytomgdfoahfhijaa
namespace Go.Proofs.Ytomgdfoahfhijaa
open Go.RowKit Go.ChangeShapes Go.WideShapes

section
variable {H : Type} {enc : TypeId × Value → H} {w : World} {base b0 : Nat} {r : Reach} {spare : Nat → Bool} {held : Bool} {v : Value} {d : DataW H} {ps : List MemPlace}
set_option maxRecDepth 100000 in
theorem open_acts (hval : Value.okWide Try.prog w r b0 25 v) (h : DataW.Trod enc Try.prog w base spare held 25 v d ps) : ∃ xs, IsActs w v xs := by
  obtain ⟨a1, n1, c1, rfl⟩ := okWide_slice Try.underlying25 hval
  obtain ⟨fu, hf1⟩ := h
  obtain ⟨v1', xs, hcs, hacts⟩ := acts_of_trod hf1
  obtain rfl : v1' = .slice a1 n1 c1 := by simpa [Value.cells] using hcs.symm
  exact ⟨xs, hacts⟩
set_option maxRecDepth 100000 in
theorem open_act (hval : Value.okWide Try.prog w r b0 33 v) (h : DataW.Trod enc Try.prog w base spare held 33 v d ps) : ∃ x : Ac, v = x.val ∧ x.Reads w := by
  obtain ⟨cs, rfl, _⟩ := okWide_struct Try.underlying33 hval
  obtain ⟨fu, hf1⟩ := h
  obtain ⟨x, hx, hr⟩ := act_of_trod hf1
  refine ⟨x, ?_, hr⟩
  have : cs.toList = x.cells := hx
  have h2 : cs = x.cells.toArray := by rw [← this]
  rw [h2]
  rfl
end
end Go.Proofs.Ytomgdfoahfhijaa

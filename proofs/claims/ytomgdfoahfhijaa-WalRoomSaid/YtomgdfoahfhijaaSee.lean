/- A slice that reads element by element, and how one is got from an argument that reads as data. -/
import Derived.Test.YtomgdfoahfhijaaOct
import Derived.ChangeArms
import Derived.ProofKit
import Derived.OpenShut
set_option linter.unusedVariables false
set_option linter.unusedSimpArgs false
namespace Go.Proofs.Ytomgdfoahfhijaa
open Go.RowKit

/-- A slice whose elements have these cells, whatever block they lie in. -/
def Sle (w : World) (size : Nat) (v : Value) (els : List (List Value)) : Prop :=
  ∃ a c, v = .slice a els.length c ∧ els.length ≤ c ∧ c ≤ maxLen ∧ (∀ l ∈ els, l.length = size) ∧
    (0 < els.length → ∃ g o, a = some ⟨g, o, none⟩ ∧ ∀ (i : Nat) (l : List Value), els[i]? = some l → ∀ (j : Nat) (u : Value), l[j]? = some u → w.cell? ⟨g, o + i * size + j, none⟩ = some u)
theorem Sle.upd {w w' : World} {size : Nat} {v : Value} {els : List (List Value)} (h : Sle w size v els) (hu : Upd NoS w w') : Sle w' size v els := by
  obtain ⟨a, c, h1, h2, h3, h4, h5⟩ := h
  refine ⟨a, c, h1, h2, h3, h4, fun h0 => ?_⟩
  obtain ⟨g, o, rfl, h6⟩ := h5 h0
  exact ⟨g, o, rfl, fun i l hl j u hj => hu.cell (h6 i l hl j u hj) id⟩
theorem Sle.shape {w : World} {size : Nat} {v : Value} {els : List (List Value)} (h : Sle w size v els) : ∃ a c, v = .slice a els.length c ∧ els.length ≤ c ∧ c ≤ maxLen := by
  obtain ⟨a, c, h1, h2, h3, _⟩ := h
  exact ⟨a, c, h1, h2, h3⟩
theorem Sle.at {w : World} {size : Nat} {a : Option Addr} {n c i : Nat} {els : List (List Value)} (h : Sle w size (.slice a n c) els) {l : List Value} (hl : els[i]? = some l) :
    ∃ g o, a = some ⟨g, o, none⟩ ∧ ∀ (j : Nat) (u : Value), l[j]? = some u → w.cell? ⟨g, o + i * size + j, none⟩ = some u := by
  obtain ⟨a', c', h1, h2, h3, h4, h5⟩ := h
  cases h1
  obtain ⟨g, o, rfl, h6⟩ := h5 (by have := (List.getElem?_eq_some_iff.1 hl).1; omega)
  exact ⟨g, o, rfl, h6 i l hl⟩
theorem list_of {α : Type} {P : Nat → α → Prop} : ∀ (n : Nat), (∀ i, i < n → ∃ x, P i x) → ∃ xs : List α, xs.length = n ∧ ∀ (i : Nat) (x : α), xs[i]? = some x → P i x
  | 0, _ => ⟨[], rfl, fun i x h => by simp at h⟩
  | n + 1, h => by
    obtain ⟨xs, h1, h2⟩ := list_of n fun i hi => h i (by omega)
    obtain ⟨x, hx⟩ := h n (by omega)
    refine ⟨xs ++ [x], by simp [h1], fun i y hy => ?_⟩
    by_cases hi : i < xs.length
    · rw [List.getElem?_append_left hi] at hy
      exact h2 i y hy
    · rw [List.getElem?_append_right (by omega)] at hy
      have : i - xs.length = 0 := by
        cases h : i - xs.length with
        | zero => rfl
        | succ k => rw [h] at hy; simp at hy
      rw [this] at hy
      have he : i = n := by omega
      rw [he]
      cases hy
      exact hx
theorem cells_all {w : World} {base : Nat} {a : Addr} {n : Nat} {l : List Value} (h : w.cells? base a n = some l) : l.length = n ∧ ∀ (j : Nat) (u : Value), l[j]? = some u → w.cell? (a.add j) = some u := by
  obtain ⟨_, h1, h2⟩ := World.cells?_some h
  refine ⟨h1, fun j u hj => ?_⟩
  have hlt := (List.getElem?_eq_some_iff.1 hj).1
  exact (h2 j (by omega)).trans hj
section
variable {H : Type} {enc : TypeId × Value → H} {P : Program} {w : World} {base : Nat} {spare : Nat → Bool} {held : Bool}
theorem sle_of_trod {α : Type} {t e size fuel : Nat} {cs : List Value} {x : DataW H × List MemPlace} (ht : P.underlying t = some (.slice e)) (hc : P.cellsOf e = size) (h0 : 0 < size) (cel : α → List Value) (Q : α → Prop)
    (each : ∀ fuel cs y, DataW.trod enc P w base spare held fuel e cs = some y → ∃ x, cs = cel x ∧ Q x) (h : DataW.trod enc P w base spare held fuel t cs = some x) :
    ∃ (v : Value) (xs : List α), cs = [v] ∧ Sle w size v (xs.map cel) ∧ ∀ x ∈ xs, Q x := by
  rcases DataW.trod_slice ht h with ⟨rfl, _⟩ | ⟨a, len, cap, elems, rest, n, _, rfl, _, hb, hl, hm, hlen, hel, _, _⟩
  · exact ⟨_, [], rfl, ⟨none, 0, rfl, Nat.le_refl _, by unfold maxLen; omega, fun l hl => by simp at hl, fun h => by simp at h⟩, fun x hx => by simp at hx⟩
  · have hx : ∀ i, i < len → ∃ x : α, w.cells? base (a.add (i * size)) size = some (cel x) ∧ Q x := fun i hi => by
      have h1 := hel i hi
      rw [hc, List.getElem?_eq_getElem (by omega), Option.bind_eq_some_iff] at h1
      obtain ⟨l, h2, h3⟩ := h1
      obtain ⟨x, rfl, h4⟩ := each _ _ _ h3
      exact ⟨x, h2, h4⟩
    obtain ⟨xs, h1, h2⟩ := list_of len hx
    refine ⟨_, xs, rfl, ⟨some a, cap, by simp [h1], by simpa [h1] using hl, hm, ?_, ?_⟩, ?_⟩
    · intro l hl
      obtain ⟨x, hx, rfl⟩ := List.mem_map.1 hl
      obtain ⟨i, hi⟩ := List.getElem?_of_mem hx
      exact (cells_all (h2 i x hi).1).1
    · intro hpos
      have hpos : 0 < xs.length := by simpa using hpos
      obtain ⟨h3, h4⟩ := cells_all (h2 0 _ (List.getElem?_eq_getElem hpos)).1
      have hp2 : 0 < (cel (xs[0]'hpos)).length := by omega
      obtain ⟨u, hu⟩ : ∃ u, (cel (xs[0]'hpos))[0]? = some u := ⟨_, List.getElem?_eq_getElem hp2⟩
      have h5 := World.cell?_spot (h4 0 u hu)
      obtain ⟨g, o, sp⟩ := a
      have : sp = none := by simpa [Addr.add] using h5
      subst this
      refine ⟨g, o, rfl, fun i l hl j v hv => ?_⟩
      rw [List.getElem?_map] at hl
      obtain ⟨x, hx, rfl⟩ := Option.map_eq_some_iff.1 hl
      have := (cells_all (h2 i x hx).1).2 j v hv
      rwa [addr_add, addr_add] at this
    · intro x hx
      obtain ⟨i, hi⟩ := List.getElem?_of_mem hx
      exact (h2 i x hi).2
end
end Go.Proofs.Ytomgdfoahfhijaa

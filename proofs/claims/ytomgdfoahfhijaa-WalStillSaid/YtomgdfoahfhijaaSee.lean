/- A slice that reads element by element, and how one is got from an argument that reads as data. bytes.Equal, and rows of bytes compared. -/
import Derived.Test.YtomgdfoahfhijaaOct
import Derived.ChangeArms
import Derived.ProofKit
import Derived.OpenShut
set_option linter.unusedVariables false
set_option linter.unusedSimpArgs false
namespace Go.Proofs.Ytomgdfoahfhijaa
open Go.RowKit

/-- A slice whose elements have these cells, whatever block they lie in. -/
def Sle (w : World) (size : Nat) (v : Value) (els : List (List Value)) : Prop :=
  ∃ a c, v = .slice a els.length c ∧ els.length ≤ c ∧ c ≤ maxLen ∧ ((a = none → c = 0) ∧ ∀ l ∈ els, l.length = size) ∧
    (0 < els.length → ∃ g o, a = some ⟨g, o, none⟩ ∧ ∀ (i : Nat) (l : List Value), els[i]? = some l → ∀ (j : Nat) (u : Value), l[j]? = some u → w.cell? ⟨g, o + i * size + j, none⟩ = some u)
theorem Sle.upd {w w' : World} {size : Nat} {v : Value} {els : List (List Value)} (h : Sle w size v els) (hu : Upd NoS w w') : Sle w' size v els := by
  obtain ⟨a, c, h1, h2, h3, h4, h5⟩ := h
  refine ⟨a, c, h1, h2, h3, h4, fun h0 => ?_⟩
  obtain ⟨g, o, rfl, h6⟩ := h5 h0
  exact ⟨g, o, rfl, fun i l hl j u hj => hu.cell (h6 i l hl j u hj) id⟩
theorem Sle.shape {w : World} {size : Nat} {v : Value} {els : List (List Value)} (h : Sle w size v els) : ∃ a c, v = .slice a els.length c ∧ els.length ≤ c ∧ c ≤ maxLen := by
  obtain ⟨a, c, h1, h2, h3, _⟩ := h
  exact ⟨a, c, h1, h2, h3⟩
theorem Sle.at {w : World} {size : Nat} {a : Option Addr} {n c i : Nat} {els : List (List Value)} (h : Sle w size (.slice a n c) els) {l : List Value} (hl : els[i]? = some l) :
    ∃ g o, a = some ⟨g, o, none⟩ ∧ ∀ (j : Nat) (u : Value), l[j]? = some u → w.cell? ⟨g, o + i * size + j, none⟩ = some u := by
  obtain ⟨a', c', h1, h2, h3, h4, h5⟩ := h
  cases h1
  obtain ⟨g, o, rfl, h6⟩ := h5 (by have := (List.getElem?_eq_some_iff.1 hl).1; omega)
  exact ⟨g, o, rfl, h6 i l hl⟩
theorem Sle.nil {w : World} {size n c : Nat} {els : List (List Value)} (h : Sle w size (.slice none n c) els) : els = [] ∧ n = 0 ∧ c = 0 := by
  obtain ⟨a', c', h1, h2, h3, h4, h5⟩ := h
  cases h1
  have h6 := h4.1 rfl
  have h7 : els = [] := List.eq_nil_of_length_eq_zero (by omega)
  exact ⟨h7, by rw [h7]; rfl, h6⟩
theorem list_of {α : Type} {P : Nat → α → Prop} : ∀ (n : Nat), (∀ i, i < n → ∃ x, P i x) → ∃ xs : List α, xs.length = n ∧ ∀ (i : Nat) (x : α), xs[i]? = some x → P i x
  | 0, _ => ⟨[], rfl, fun i x h => by simp at h⟩
  | n + 1, h => by
    obtain ⟨xs, h1, h2⟩ := list_of n fun i hi => h i (by omega)
    obtain ⟨x, hx⟩ := h n (by omega)
    refine ⟨xs ++ [x], by simp [h1], fun i y hy => ?_⟩
    by_cases hi : i < xs.length
    · rw [List.getElem?_append_left hi] at hy
      exact h2 i y hy
    · rw [List.getElem?_append_right (by omega)] at hy
      have : i - xs.length = 0 := by
        cases h : i - xs.length with
        | zero => rfl
        | succ k => rw [h] at hy; simp at hy
      rw [this] at hy
      have he : i = n := by omega
      rw [he]
      cases hy
      exact hx
theorem cells_all {w : World} {base : Nat} {a : Addr} {n : Nat} {l : List Value} (h : w.cells? base a n = some l) : l.length = n ∧ ∀ (j : Nat) (u : Value), l[j]? = some u → w.cell? (a.add j) = some u := by
  obtain ⟨_, h1, h2⟩ := World.cells?_some h
  refine ⟨h1, fun j u hj => ?_⟩
  have hlt := (List.getElem?_eq_some_iff.1 hj).1
  exact (h2 j (by omega)).trans hj
section
variable {H : Type} {enc : TypeId × Value → H} {P : Program} {w : World} {base : Nat} {spare : Nat → Bool} {held : Bool}
theorem sle_of_trod {α : Type} {t e size fuel : Nat} {cs : List Value} {x : DataW H × List MemPlace} (ht : P.underlying t = some (.slice e)) (hc : P.cellsOf e = size) (h0 : 0 < size) (cel : α → List Value) (Q : α → Prop)
    (each : ∀ fuel cs y, DataW.trod enc P w base spare held fuel e cs = some y → ∃ x, cs = cel x ∧ Q x) (h : DataW.trod enc P w base spare held fuel t cs = some x) :
    ∃ (v : Value) (xs : List α), cs = [v] ∧ Sle w size v (xs.map cel) ∧ ∀ x ∈ xs, Q x := by
  rcases DataW.trod_slice ht h with ⟨rfl, _⟩ | ⟨a, len, cap, elems, rest, n, _, rfl, _, hb, hl, hm, hlen, hel, _, _⟩
  · exact ⟨_, [], rfl, ⟨none, 0, rfl, Nat.le_refl _, by unfold maxLen; omega, ⟨fun _ => rfl, fun l hl => by simp at hl⟩, fun h => by simp at h⟩, fun x hx => by simp at hx⟩
  · have hx : ∀ i, i < len → ∃ x : α, w.cells? base (a.add (i * size)) size = some (cel x) ∧ Q x := fun i hi => by
      have h1 := hel i hi
      rw [hc, List.getElem?_eq_getElem (by omega), Option.bind_eq_some_iff] at h1
      obtain ⟨l, h2, h3⟩ := h1
      obtain ⟨x, rfl, h4⟩ := each _ _ _ h3
      exact ⟨x, h2, h4⟩
    obtain ⟨xs, h1, h2⟩ := list_of len hx
    refine ⟨_, xs, rfl, ⟨some a, cap, by simp [h1], by simpa [h1] using hl, hm, ⟨(fun e => by cases e), ?_⟩, ?_⟩, ?_⟩
    · intro l hl
      obtain ⟨x, hx, rfl⟩ := List.mem_map.1 hl
      obtain ⟨i, hi⟩ := List.getElem?_of_mem hx
      exact (cells_all (h2 i x hi).1).1
    · intro hpos
      have hpos : 0 < xs.length := by simpa using hpos
      obtain ⟨h3, h4⟩ := cells_all (h2 0 _ (List.getElem?_eq_getElem hpos)).1
      have hp2 : 0 < (cel (xs[0]'hpos)).length := by omega
      obtain ⟨u, hu⟩ : ∃ u, (cel (xs[0]'hpos))[0]? = some u := ⟨_, List.getElem?_eq_getElem hp2⟩
      have h5 := World.cell?_spot (h4 0 u hu)
      obtain ⟨g, o, sp⟩ := a
      have : sp = none := by simpa [Addr.add] using h5
      subst this
      refine ⟨g, o, rfl, fun i l hl j v hv => ?_⟩
      rw [List.getElem?_map] at hl
      obtain ⟨x, hx, rfl⟩ := Option.map_eq_some_iff.1 hl
      have := (cells_all (h2 i x hx).1).2 j v hv
      rwa [addr_add, addr_add] at this
    · intro x hx
      obtain ⟨i, hi⟩ := List.getElem?_of_mem hx
      exact (h2 i x hi).2
end
end Go.Proofs.Ytomgdfoahfhijaa
namespace Go.Proofs.Ytomgdfoahfhijaa
open Go.RowKit

set_option maxRecDepth 10000 in
theorem run_conv {w : World} {e n : Nat} {a : Option Addr} {c : Nat} {x : List UInt8} (hx : Rd w e 1 (.slice a n c) n (bvs x)) (hn : n = x.length) : (convert 35 9 (.slice a n c)).run Try.prog w = .ok (.string ⟨x.toArray⟩) w := by
  subst hn
  rcases hx.shape with ⟨h0, h1⟩ | ⟨g, o, c', h1, _⟩
  · have hx0 : x = [] := List.eq_nil_of_length_eq_zero h1
    obtain rfl : a = none := by injection h0
    rw [run_convert_bytes_nil w 35 5 Try.underlying35 Try.underlying5 _ _ _ Try.underlying9, hx0]
    rfl
  · cases h1
    exact run_convert_bytes_back w 35 9 5 ⟨g, o, none⟩ c x Try.underlying35 Try.underlying5 Try.underlying9 (fun j hj => hx.cells j _ (bvs_get hj))
def eqL (x y : List UInt8) : Bool := x == y
theorem eqL_iff (x y : List UInt8) : eqL x y = true ↔ x = y := by unfold eqL; exact beq_iff_eq
set_option maxRecDepth 100000 in
theorem bytesEqual (w : World) (e e' : Nat) (a a' : Option Addr) (n n' c c' : Nat) (x y : List UInt8) (hx : Rd w e 1 (.slice a n c) n (bvs x)) (hy : Rd w e' 1 (.slice a' n' c') n' (bvs y)) :
    Calls Try.prog 30 #[.slice a n c, .slice a' n' c'] w fun r w' => r = .returned (.bool (eqL x y)) ∧ w = w' := by
  have hnx : n = x.length := by simpa using hx.1.symm
  have hny : n' = y.length := by simpa using hy.1.symm
  have r1 := run_conv hx hnx
  have r2 := run_conv hy hny
  clear hx hy hnx hny
  go_enter Try.func30, Try.ntmps30
  go_wp2
  go_ret
  exact ⟨rfl, rfl⟩
/-- Rows of bytes: a slice of slices that reads as these, each of its blocks in T. -/
def Acc (w : World) (v : Value) (l : List (List UInt8)) (T : Nat → Prop) : Prop :=
  ∃ vals : List Value, Rd w 35 1 v l.length vals ∧ (∀ k, v.ownBlock = some k → T k) ∧
    ∀ (i : Nat) (u : Value) (b : List UInt8), vals[i]? = some u → l[i]? = some b → Rd w 5 1 u b.length (bvs b) ∧ ∀ k, u.ownBlock = some k → T k
theorem Acc.mono {w : World} {v : Value} {l : List (List UInt8)} {T T' : Nat → Prop} (h : Acc w v l T) (hT : ∀ k, k < w.heap.size → T k → T' k) : Acc w v l T' := by
  obtain ⟨vals, h1, h2, h3⟩ := h
  exact ⟨vals, h1, fun k hk => hT k (h1.lt k hk) (h2 k hk), fun i u b hu hb => ⟨(h3 i u b hu hb).1, fun k hk => hT k ((h3 i u b hu hb).1.lt k hk) ((h3 i u b hu hb).2 k hk)⟩⟩
theorem Acc.upd {w w' : World} {v : Value} {l : List (List UInt8)} {T S : Nat → Prop} (h : Acc w v l T) (hu : Upd S w w') (hS : ∀ k, k < w.heap.size → T k → ¬ S k) : Acc w' v l T := by
  obtain ⟨vals, h1, h2, h3⟩ := h
  exact ⟨vals, h1.upd hu fun k hk => hS k (h1.lt k hk) (h2 k hk), h2, fun i u b hv hb => ⟨(h3 i u b hv hb).1.upd hu fun k hk => hS k ((h3 i u b hv hb).1.lt k hk) ((h3 i u b hv hb).2 k hk), (h3 i u b hv hb).2⟩⟩
theorem Acc.updNo {w w' : World} {v : Value} {l : List (List UInt8)} {T : Nat → Prop} (h : Acc w v l T) (hu : Upd NoS w w') : Acc w' v l T := h.upd hu fun _ _ _ h => h
theorem Acc.shape {w : World} {v : Value} {l : List (List UInt8)} {T : Nat → Prop} (h : Acc w v l T) : ∃ a c, v = .slice a l.length c ∧ l.length ≤ c ∧ c ≤ maxLen ∧ (0 < l.length → ∃ g o, a = some ⟨g, o, none⟩) := by
  obtain ⟨vals, h1, _⟩ := h
  exact h1.open
theorem Acc.at {w : World} {g o n c : Nat} {l : List (List UInt8)} {T : Nat → Prop} (h : Acc w (.slice (some ⟨g, o, none⟩) n c) l T) {i : Nat} {b : List UInt8} (hb : l[i]? = some b) :
    ∃ a c', w.cell? ⟨g, o + i, none⟩ = some (.slice a b.length c') ∧ Rd w 5 1 (.slice a b.length c') b.length (bvs b) ∧ ∀ k, (Value.slice a b.length c').ownBlock = some k → T k := by
  obtain ⟨vals, h1, h2, h3⟩ := h
  have hn : n = l.length := by
    rcases h1.shape with ⟨h0, _⟩ | ⟨_, _, _, h0, _⟩ <;> cases h0
    rfl
  subst hn
  have hlt : i < l.length := (List.getElem?_eq_some_iff.1 hb).1
  have hvl : vals.length = l.length := by simpa using h1.1
  have hv : vals[i]? = some vals[i] := List.getElem?_eq_getElem (by omega)
  obtain ⟨h4, h5⟩ := h3 i _ b hv hb
  obtain ⟨a, c', he, _⟩ := h4.any
  have hc := h1.at i hv
  rw [he] at hc h4 h5
  exact ⟨a, c', hc, h4, h5⟩
def eqLL (x y : List (List UInt8)) : Bool := x == y
theorem eqLL_iff (x y : List (List UInt8)) : eqLL x y = true ↔ x = y := by unfold eqLL; exact beq_iff_eq
theorem eqLL_false {x y : List (List UInt8)} (h : x ≠ y) : eqLL x y = false := by
  cases hq : eqLL x y with
  | false => rfl
  | true => exact absurd ((eqLL_iff x y).1 hq) h
theorem eqL_false {x y : List UInt8} (h : x ≠ y) : eqL x y = false := by
  cases hq : eqL x y with
  | false => rfl
  | true => exact absurd ((eqL_iff x y).1 hq) h
set_option maxRecDepth 100000 in
set_option maxHeartbeats 1000000 in
theorem equalFunc (w : World) (v v' : Value) (l l' : List (List UInt8)) (T T' : Nat → Prop) (h : Acc w v l T) (h' : Acc w v' l' T') :
    Calls Try.prog 58 #[v, v', .func (.func 30) #[] #[]] w fun r w' => r = .returned (.bool (eqLL l l')) ∧ w = w' := by
  obtain ⟨a, c, rfl, hc1, hc2, hga⟩ := h.shape
  obtain ⟨a', c', rfl, hc1', hc2', hga'⟩ := h'.shape
  have H := Lib.hid h
  have H' := Lib.hid h'
  have hl1 : l.length ≤ 9223372036854775807 := by unfold maxLen at hc2; omega
  have hl2 : l'.length ≤ 9223372036854775807 := by unfold maxLen at hc2'; omega
  clear h h' hc1 hc2 hc1' hc2'
  by_cases hlen : l.length = l'.length
  · go_enter Try.func58, Try.ntmps58
    rw [← hlen] at H' ⊢
    have HL := Lib.hid hlen
    clear hlen
    go_wp2
    go_loopw [17] (fun kv wr => ∃ k : Nat, k ≤ l.length ∧ kv = .int .i64 (k : Int) ∧ l.take k = l'.take k ∧ wr = w) (fun kv _ => l.length - (intOf kv).toNat)
    case atStart => exact ⟨0, Nat.zero_le _, rfl, rfl, rfl⟩
    case round =>
      obtain ⟨k, hk, rfl, htk, rfl⟩ := hrel
      have HT := Lib.hid htk
      clear htk
      by_cases hlt : k < l.length
      · obtain ⟨x, hx⟩ : ∃ x, l[k]? = some x := ⟨_, List.getElem?_eq_getElem hlt⟩
        obtain ⟨y, hy⟩ : ∃ y, l'[k]? = some y := ⟨_, List.getElem?_eq_getElem (by have := HL.out; omega)⟩
        obtain ⟨g, o, rfl⟩ := hga (by omega)
        obtain ⟨g', o', rfl⟩ := hga' (by have := HL.out; omega)
        obtain ⟨ax, cx, q1, r1, _⟩ := H.out.at hx
        obtain ⟨ay, cy, q2, r2, _⟩ := H'.out.at hy
        have HX := Lib.hid hx
        have HY := Lib.hid hy
        have R1 := Lib.hid r1
        have R2 := Lib.hid r2
        clear hx hy r1 r2 hga hga'
        by_cases hxy : x = y
        · have hE : eqL x y = true := (eqL_iff x y).2 hxy
          have HXY := Lib.hid hxy
          clear hxy
          go_wp2_with (go_at_call 30; refine (bytesEqual _ _ _ _ _ _ _ _ _ _ _ R1.out R2.out).mono ?_; rintro e w' ⟨rfl, rfl⟩)
          refine ⟨⟨k + 1, by omega, by go_num, ?_, trivial⟩, by simp [intOf]; omega⟩
          rw [List.take_add_one, List.take_add_one, HT.out, HX.out, HY.out, HXY.out]
        · have hE : eqL x y = false := eqL_false hxy
          have HXY := Lib.hid hxy
          clear hxy
          go_wp2_with (go_at_call 30; refine (bytesEqual _ _ _ _ _ _ _ _ _ _ _ R1.out R2.out).mono ?_; rintro e w' ⟨rfl, rfl⟩)
          go_ret
          refine ⟨?_, rfl⟩
          rw [eqLL_false (fun e => HXY.out (by have h1 := HX.out; have h2 := HY.out; rw [e, h2] at h1; exact (Option.some.inj h1).symm))]
          rfl
      · have HK := Lib.hid (show k = l.length by omega)
        clear hlt
        have hnl : ¬ (k : Int) < l.length := by have := HK.out; omega
        go_wp2
        go_ret
        refine ⟨?_, rfl⟩
        have h1 := HT.out
        rw [HK.out, List.take_length, HL.out, List.take_length] at h1
        rw [(eqLL_iff l l').2 h1]
        rfl
  · have hne : ((l.length : Int) == (l'.length : Int)) = false := by simp; omega
    have hr : eqLL l l' = false := eqLL_false (fun e => hlen (by rw [e]))
    have HR := Lib.hid hr
    clear hr hlen
    go_enter Try.func58, Try.ntmps58
    go_wp2
    go_ret
    exact ⟨by rw [HR.out]; rfl, rfl⟩
theorem lawEqual (w : World) (v v' : Value) (l l' : List (List UInt8)) (T T' : Nat → Prop) (h : Acc w v l T) (h' : Acc w v' l' T') :
    Calls Try.prog 33 #[v, v'] w fun r w' => r = .returned (.bool (eqLL l l')) ∧ w = w' := by
  obtain ⟨a, c, rfl, _⟩ := h.shape
  obtain ⟨a', c', rfl, _⟩ := h'.shape
  have H := Lib.hid h
  have H' := Lib.hid h'
  clear h h'
  go_enter Try.func33, Try.ntmps33
  go_wp2_with (go_at_call 58; refine (equalFunc _ _ _ _ _ _ _ H.out H'.out).mono ?_; rintro e w' ⟨rfl, rfl⟩)
  go_ret
  exact ⟨rfl, rfl⟩
end Go.Proofs.Ytomgdfoahfhijaa

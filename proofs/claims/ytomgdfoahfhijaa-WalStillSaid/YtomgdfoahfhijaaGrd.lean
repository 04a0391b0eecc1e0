/- A region that draws its order and holds guarded operations: one order for all. -/
import Derived.Test.YtomgdfoahfhijaaCut
set_option linter.unusedVariables false
set_option linter.unusedSimpArgs false
namespace Go.Proofs.Ytomgdfoahfhijaa
open Go.RowKit

section
variable {P : Program} {Q : Exit → Act → World → Prop}
def wantG (gd : Option (Option Nat × Bool)) (a : Act) : Bool :=
  match gd with
  | none => true
  | some (t, b) => (match t.bind (a.tmps[·]?) with | some (.bool c) => some c | _ => none) == some b
def wpG (P : Program) (Q : Exit → Act → World → Prop) (S : World → Prop) : List (Bool × Option (Option Nat × Bool) × Oper) → Act → World → Prop
  | [], a, w => Q .normal a w
  | (true, gd, o) :: rest, a, w => if wantG gd a then o.wp P a w (fun a' w' => S w' ∧ wpG P Q S rest a' w') Q else S w ∧ wpG P Q S rest (a.put o.dst undef) w
  | (false, gd, o) :: rest, a, w => if wantG gd a then ∃ v, (∀ w', S w' → (execOp a.eval o).run P w' = .ok (.value v) w') ∧ wpG P Q S rest (a.put o.dst v) w else wpG P Q S rest (a.put o.dst undef) w
def pickG (loud : List Nat) (l : List Oper) : List Nat → List (Bool × Option (Option Nat × Bool) × Oper)
  | [] => []
  | i :: rest => match l[i]? with
    | some o => (loud.contains i, o.guard.map (fun gb => ((l[gb.1]?).bind (·.dst), gb.2)), o) :: pickG loud l rest
    | none => []
def thereB (l : List Oper) (order : List Nat) : Bool := order.all fun i => (l[i]?).isSome
theorem wanted_wantG {l : List Oper} {o : Oper} {a : Act} : Region.wanted o (yielded l.toArray a.tmps) = wantG (o.guard.map (fun gb => ((l[gb.1]?).bind (·.dst), gb.2))) a := by
  unfold Region.wanted wantG
  cases h : o.guard with
  | none => rfl
  | some gb =>
    obtain ⟨g, b⟩ := gb
    simp only [Option.map_some, yielded, List.getElem?_toArray]
    cases ((l[g]?).bind fun x => x.dst).bind fun x => a.tmps[x]? with
    | none => rfl
    | some v => cases v <;> rfl
theorem wpC_of_pickG {S : World → Prop} {loud : List Nat} {l : List Oper} : ∀ (order : List Nat) (a : Act) (w : World), thereB l order = true → wpG P Q S (pickG loud l order) a w → wpC P l.toArray Q S loud order a w
  | [], a, w, _, h => h
  | i :: rest, a, w, hb, h => by
    unfold thereB at hb
    rw [List.all_cons, Bool.and_eq_true] at hb
    obtain ⟨h1, h2⟩ := hb
    cases ho : l[i]? with
    | none => rw [ho] at h1; cases h1
    | some o =>
      have hoa : l.toArray[i]? = some o := by simpa using ho
      have hw := wanted_wantG (l := l) (o := o) (a := a)
      unfold pickG at h
      rw [ho] at h
      simp only at h
      unfold wpC
      cases hl : loud.contains i with
      | true =>
        rw [if_pos rfl]
        rw [hl] at h
        unfold wpG at h
        unfold wpOp
        rw [hoa]
        simp only
        by_cases hwt : wantG (o.guard.map (fun gb => ((l[gb.1]?).bind (·.dst), gb.2))) a = true
        · rw [if_pos hwt] at h
          rw [if_pos (hw.trans hwt)]
          exact .inl (Oper.wp_mono (fun a' w' h3 => ⟨h3.1, wpC_of_pickG rest a' w' h2 h3.2⟩) h)
        · rw [if_neg hwt] at h
          rw [if_neg (by rw [hw]; exact hwt)]
          exact ⟨h.1, wpC_of_pickG rest _ w h2 h.2⟩
      | false =>
        rw [if_neg (by decide)]
        rw [hl] at h
        unfold wpG at h
        by_cases hwt : wantG (o.guard.map (fun gb => ((l[gb.1]?).bind (·.dst), gb.2))) a = true
        · rw [if_pos hwt] at h
          obtain ⟨v, hv, hr⟩ := h
          exact ⟨o, v, hoa, .inl ⟨hw.trans hwt, hv⟩, wpC_of_pickG rest _ w h2 hr⟩
        · rw [if_neg hwt] at h
          exact ⟨o, undef, hoa, .inr ⟨by rw [hw]; simpa using hwt, rfl⟩, wpC_of_pickG rest _ w h2 h⟩
structure GW (P : Program) (Q : Exit → Act → World → Prop) (S : World → Prop) (l : List (Bool × Option (Option Nat × Bool) × Oper)) (a : Act) (w : World) : Prop where
  out : wpG P Q S l a w
theorem wpG_quiet {S : World → Prop} {rest : List (Bool × Option (Option Nat × Bool) × Oper)} {gd : Option (Option Nat × Bool)} {o : Oper} (v : Value) {a : Act} {w : World} (hw : wantG gd a = true) (hv : ∀ w', S w' → (execOp a.eval o).run P w' = .ok (.value v) w') (h : GW P Q S rest (a.put o.dst v) w) :
    GW P Q S ((false, gd, o) :: rest) a w := by
  refine ⟨?_⟩; unfold wpG; rw [if_pos hw]; exact ⟨v, hv, h.out⟩
theorem wpG_skip {S : World → Prop} {rest : List (Bool × Option (Option Nat × Bool) × Oper)} {gd : Option (Option Nat × Bool)} {o : Oper} {a : Act} {w : World} (hw : wantG gd a = false) (h : GW P Q S rest (a.put o.dst undef) w) :
    GW P Q S ((false, gd, o) :: rest) a w := by
  refine ⟨?_⟩; unfold wpG; rw [if_neg (by rw [hw]; decide)]; exact h.out
theorem wpG_loud {S : World → Prop} {rest : List (Bool × Option (Option Nat × Bool) × Oper)} {gd : Option (Option Nat × Bool)} {o : Oper} {a : Act} {w : World} (hw : wantG gd a = true) (h : ∀ K : Act → World → Prop, (∀ a w, S w → GW P Q S rest a w → K a w) → o.wp P a w K Q) :
    GW P Q S ((true, gd, o) :: rest) a w := by
  refine ⟨?_⟩; unfold wpG; rw [if_pos hw]; exact h _ fun _ _ h1 h2 => ⟨h1, h2.out⟩
theorem wpG_loudskip {S : World → Prop} {rest : List (Bool × Option (Option Nat × Bool) × Oper)} {gd : Option (Option Nat × Bool)} {o : Oper} {a : Act} {w : World} (hw : wantG gd a = false) (hS : S w) (h : GW P Q S rest (a.put o.dst undef) w) :
    GW P Q S ((true, gd, o) :: rest) a w := by
  refine ⟨?_⟩; unfold wpG; rw [if_neg (by rw [hw]; decide)]; exact ⟨hS, h.out⟩
theorem wpG_nil {S : World → Prop} {a : Act} {w : World} (h : Q .normal a w) : GW P Q S [] a w := ⟨h⟩
theorem wp_region_canonG {id : Nat} {l : List Oper} {a : Act} {w : World} (S : World → Prop) (n m : Nat) (loud order : List Nat) (hmix : P.follows .mixedOrders = true) (hlen : l.length = n + m) (hm : 0 < m)
    (hB : cutB l.toArray n m = true) (hsel : Region.noSelect (l.take n).toArray = true) (hol : order.length = n) (hok : canonOk .any (l.take n).toArray loud order (Array.replicate n false) = true)
    (hba : thereB (l.take n) order = true) (hS : S w.drew)
    (h : GW P (Exit.then (fun a w => wpList P l.toArray (NoPanic Q) (l.drop n) a w) (NoPanic Q)) S (pickG loud (l.take n) order) a w.drew) :
    (Code.region id l.toArray true).wp P Q a w := by
  refine wp_region_noPanic ?_
  refine wp_region_cut n m hmix hlen hm hB ?_
  have hsz : (l.take n).toArray.size = n := by simp; omega
  rw [hsz]
  have := wpAny_of_held _ _ _ _ (wpAnyH_of_canon (P := P) (Q := Exit.then (fun a w => wpList P l.toArray (NoPanic Q) (l.drop n) a w) (NoPanic Q)) (md := .any) hsel (fun c d v a w h => h) order (Array.replicate n false) a w.drew hok hS (wpC_of_pickG order a w.drew hba h.out))
  rwa [hol] at this
end
end Go.Proofs.Ytomgdfoahfhijaa

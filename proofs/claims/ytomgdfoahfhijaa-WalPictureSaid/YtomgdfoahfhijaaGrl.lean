/- A region that draws and holds calls, inside a round of a range over a function: one canonical order. -/
import Derived.Test.YtomgdfoahfhijaaGrn
set_option linter.unusedVariables false
set_option linter.unusedSimpArgs false
namespace Go.Proofs.Ytomgdfoahfhijaa
open Go.RowKit

def noDefer (o : Oper) : Bool := match o.op with | .defer _ => false | _ => true
section
variable {P : Program} {rl n : Nat}
theorem plain_wpIn {o : Oper} {a : Act} {w : World} {K : Act → World → Prop} {K0 : Act → World → Prop} (hb : noDefer o = true) (h : o.wp P a w K (OnlyN K0)) : o.wpIn (Fence.wide.inRound rl) n P a w K (OnlyN K0) := by
  unfold Oper.wpIn
  refine ⟨fun f _ => trivial, ?_⟩
  rw [Oper.semAt_plain _ _ _ (fun c e => by unfold noDefer at hb; rw [e] at hb; cases hb)]
  unfold Oper.wp at h
  cases hr : (execOp a.eval o).run P w with
  | ok x w1 =>
    rw [hr] at h
    cases x
    case value v => exact h
    case skip => exact h
    case defer d => exact h
    case enter f args =>
      have h' : Calls P f args w1 _ := h
      exact ⟨(fun e => by cases e), CallsIn.inRound rl (callsIn_wide.2 h')⟩
    case row r args =>
      have h' : Rows P r args w1 _ := h
      refine ⟨(fun e => by cases e), fun c cs _ => ?_⟩
      obtain ⟨v, w2, h1, h2⟩ := h' c cs
      exact ⟨v, w2, h1, stepsIn_wide.2 h2⟩
    all_goals exact (h : False).elim
  | halt x w1 =>
    rw [hr] at h
    cases x <;> first | exact h | exact (h : False).elim
theorem wpAnyIn_plain {ops : Array Oper} {K0 : Act → World → Prop} (hall : ∀ (i : Nat) (o : Oper), ops[i]? = some o → noDefer o = true) : ∀ (fuel : Nat) (listed : Array Bool) (a : Act) (w : World), wpAny P .any ops (OnlyN K0) fuel listed a w → wpAnyIn (Fence.wide.inRound rl) n P .any ops (OnlyN K0) fuel listed a w
  | 0, listed, a, w, h => h
  | fuel + 1, listed, a, w, h => by
    refine ⟨h.1, fun i hi => ?_⟩
    have h1 := h.2 i hi
    unfold wpOp at h1
    unfold wpOpIn
    cases ho : ops[i]? with
    | none =>
      rw [ho] at h1
      exact wpAnyIn_plain hall fuel _ a w h1
    | some o =>
      rw [ho] at h1
      simp only at h1 ⊢
      have hb := hall i o ho
      by_cases hw : Region.wanted o (yielded ops a.tmps) = true
      · rw [if_pos hw] at h1 ⊢
        rcases h1 with h1 | ⟨_, _, _, h2⟩
        · exact plain_wpIn hb (Oper.wp_mono (fun a' w' h' => wpAnyIn_plain hall fuel _ a' w' h') h1)
        · exact (h2 : False).elim
      · rw [if_neg hw] at h1 ⊢
        exact ⟨fun f _ => trivial, wpAnyIn_plain hall fuel _ _ w h1⟩
theorem wpIn_region_canon {id : Nat} {l : List Oper} {Q : Exit → Act → World → Prop} {a : Act} {w : World} (S : World → Prop) (n1 m : Nat) (loud order : List Nat) (hmix : P.follows .mixedOrders = true) (hin : l.all noDefer = true) (hlen : l.length = n1 + m) (hm : 0 < m)
    (hB : cutB l.toArray n1 m = true) (hsel : Region.noSelect (l.take n1).toArray = true) (hol : order.length = n1) (hok : canonOk .any (l.take n1).toArray loud order (Array.replicate n1 false) = true)
    (hba : bare (l.take n1) order = true) (hS : S w.drew)
    (h : wpD P (Exit.then (fun a w => wpList P l.toArray (OnlyN fun a w => Q .normal a w) (l.drop n1) a w) (OnlyN fun a w => Q .normal a w)) S (pick loud (l.take n1) order) a w.drew) :
    (Code.region id l.toArray true).wpIn (Fence.wide.inRound rl) n P Q a w := by
  refine wpIn_mono (Q := OnlyN fun a w => Q .normal a w) ?_ (fun e a w h => by cases e <;> first | exact h | exact (h : False).elim)
  refine wpIn_region_any hmix (wpAnyIn_plain (fun i o ho => ?_) _ _ _ _ ?_)
  · have ho' : l[i]? = some o := by simpa using ho
    exact List.all_eq_true.1 hin o (List.mem_of_getElem? ho')
  · refine wpAny_cut n1 m hlen hm hB ?_
    have hsz : (l.take n1).toArray.size = n1 := by simp; omega
    rw [hsz]
    have := wpAny_of_held _ _ _ _ (wpAnyH_of_canon (P := P) (Q := Exit.then (fun a w => wpList P l.toArray (OnlyN fun a w => Q .normal a w) (l.drop n1) a w) (OnlyN fun a w => Q .normal a w)) (md := .any) hsel (fun c d v a w h => h) order (Array.replicate n1 false) a w.drew hok hS (wpC_of_pick order a w.drew hba h))
    rwa [hol] at this
end
end Go.Proofs.Ytomgdfoahfhijaa

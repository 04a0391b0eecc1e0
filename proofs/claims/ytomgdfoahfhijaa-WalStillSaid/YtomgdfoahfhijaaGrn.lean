/- A region that draws, of plain readings alone, inside a round (or whatever fence). -/
import Derived.Test.YtomgdfoahfhijaaGrd
import Derived.Test.YtomgdfoahfhijaaRng
set_option linter.unusedVariables false
set_option linter.unusedSimpArgs false
namespace Go.Proofs.Ytomgdfoahfhijaa
open Go.RowKit

def OnlyN (K : Act → World → Prop) : Exit → Act → World → Prop
  | .normal, a, w => K a w
  | _, _, _ => False
def innocentB (o : Oper) : Bool := match o.op with | .load .. | .indexAddr .. | .fieldAddr .. | .binOp .. => true | _ => false
section
variable {P : Program} {F : Fence} {n : Nat}
theorem val_of {m : Sem Value} {w w' : World} {x : Next} (h : (do let y ← m; pure (Next.value y) : Sem Next).run P w = .ok x w') : ∃ v, x = .value v := by
  rw [Sem.run_bind] at h
  cases hr : m.run P w with
  | ok y w1 =>
    rw [hr] at h
    simp only [Result.andThen_ok, Sem.run_pure] at h
    exact ⟨y, by cases h; rfl⟩
  | halt y w1 =>
    rw [hr] at h
    simp [Result.andThen] at h
theorem innocent_value {o : Oper} {ρ : Operand → Value} {w w' : World} {x : Next} (hb : innocentB o = true) (h : (execOp ρ o).run P w = .ok x w') : ∃ v, x = .value v := by
  unfold innocentB at hb
  unfold execOp at h
  cases ho : o.op <;> rw [ho] at hb h <;> simp only [Bool.false_eq_true] at hb
  all_goals exact val_of h
theorem innocent_about {o : Oper} {ρ : Operand → Value} {w : World} (hb : innocentB o = true) : o.about P w ρ = none := by
  unfold innocentB at hb
  unfold Oper.about
  cases ho : o.op <;> rw [ho] at hb <;> simp only [Bool.false_eq_true] at hb
theorem innocent_wpIn {o : Oper} {a : Act} {w : World} {K : Act → World → Prop} {K0 : Act → World → Prop} (hb : innocentB o = true) (h : o.wp P a w K (OnlyN K0)) : o.wpIn F n P a w K (OnlyN K0) := by
  unfold Oper.wpIn
  refine ⟨fun f hf => (by rw [innocent_about hb] at hf; cases hf), ?_⟩
  rw [Oper.semAt_plain F _ _ (fun c e => by unfold innocentB at hb; rw [e] at hb; cases hb)]
  unfold Oper.wp at h
  cases hr : (execOp a.eval o).run P w with
  | ok x w1 =>
    obtain ⟨v, rfl⟩ := innocent_value hb hr
    rw [hr] at h
    exact h
  | halt x w1 =>
    rw [hr] at h
    cases x <;> first | exact h | exact (h : False).elim
theorem wpAnyIn_of {ops : Array Oper} {K0 : Act → World → Prop} (hall : ∀ (i : Nat) (o : Oper), ops[i]? = some o → innocentB o = true) : ∀ (fuel : Nat) (listed : Array Bool) (a : Act) (w : World), wpAny P .any ops (OnlyN K0) fuel listed a w → wpAnyIn F n P .any ops (OnlyN K0) fuel listed a w
  | 0, listed, a, w, h => h
  | fuel + 1, listed, a, w, h => by
    refine ⟨h.1, fun i hi => ?_⟩
    have h1 := h.2 i hi
    unfold wpOp at h1
    unfold wpOpIn
    cases ho : ops[i]? with
    | none =>
      rw [ho] at h1
      exact wpAnyIn_of hall fuel _ a w h1
    | some o =>
      rw [ho] at h1
      simp only at h1 ⊢
      have hb := hall i o ho
      by_cases hw : Region.wanted o (yielded ops a.tmps) = true
      · rw [if_pos hw] at h1 ⊢
        rcases h1 with h1 | ⟨_, _, _, h2⟩
        · exact innocent_wpIn hb (Oper.wp_mono (fun a' w' h' => wpAnyIn_of hall fuel _ a' w' h') h1)
        · exact (h2 : False).elim
      · rw [if_neg hw] at h1 ⊢
        exact ⟨fun f hf => (by rw [innocent_about hb] at hf; cases hf), wpAnyIn_of hall fuel _ _ w h1⟩
theorem wpAny_cut {l : List Oper} {a : Act} {w : World} {Q : Exit → Act → World → Prop} (n m : Nat) (hlen : l.length = n + m) (hm : 0 < m) (hB : cutB l.toArray n m = true)
    (h : wpAny P .any (l.take n).toArray (Exit.then (fun a w => wpList P l.toArray Q (l.drop n) a w) Q) (l.take n).toArray.size (Array.replicate (l.take n).toArray.size false) a w) :
    wpAny P .any l.toArray Q l.toArray.size (Array.replicate l.toArray.size false) a w := by
  simp only [cutB, Bool.and_eq_true] at hB
  obtain ⟨⟨⟨h1, h2⟩, h3⟩, h4⟩ := hB
  have hsz : (l.take n).toArray.size = n := by simp; omega
  rw [hsz] at h
  have := cut_head (hd := (l.take n).toArray) (tl := l.drop n) (n := n) (m := m) (fun i hi => by simp [List.getElem?_take, hi]) hsz (by simpa using hlen) hm (fun j => by simp [List.getElem?_drop]) (by simp; omega) h1 h2 h3 h4
    n (Array.replicate n false) a w ⟨by simp [fullOf, hlen], fun j oj hj hl' e he hb => ?_, fun t ht htl => ?_⟩ (by simp) h
  · have e : fullOf (Array.replicate n false) m = Array.replicate (l.toArray.size) false := by simp [fullOf, hlen]
    have e2 : l.toArray.size = n + m := by simpa using hlen
    rw [e, e2] at this
    rw [e2]
    exact this
  · exfalso
    have e : fullOf (Array.replicate n false) m = Array.replicate (n + m) false := by simp [fullOf]
    rw [e, getD_replicate_false] at hl'
    cases hl'
  · have e : fullOf (Array.replicate n false) m = Array.replicate (n + m) false := by simp [fullOf]
    rw [e]
    have : t < n + m := by simpa [hlen] using htl
    simp [this]
/-- The region, behind whatever fence. -/
theorem wpIn_region_still {id : Nat} {l : List Oper} {Q : Exit → Act → World → Prop} {a : Act} {w : World} (S : World → Prop) (n1 m : Nat) (order : List Nat) (hmix : P.follows .mixedOrders = true) (hin : l.all innocentB = true) (hlen : l.length = n1 + m) (hm : 0 < m)
    (hB : cutB l.toArray n1 m = true) (hsel : Region.noSelect (l.take n1).toArray = true) (hol : order.length = n1) (hok : canonOk .any (l.take n1).toArray [] order (Array.replicate n1 false) = true)
    (hba : bare (l.take n1) order = true) (hS : S w.drew)
    (h : wpD P (Exit.then (fun a w => wpList P l.toArray (OnlyN fun a w => Q .normal a w) (l.drop n1) a w) (OnlyN fun a w => Q .normal a w)) S (pick [] (l.take n1) order) a w.drew) :
    (Code.region id l.toArray true).wpIn F n P Q a w := by
  refine wpIn_mono (Q := OnlyN fun a w => Q .normal a w) ?_ (fun e a w h => by cases e <;> first | exact h | exact (h : False).elim)
  refine wpIn_region_any hmix (wpAnyIn_of (fun i o ho => ?_) _ _ _ _ ?_)
  · have ho' : l[i]? = some o := by simpa using ho
    exact List.all_eq_true.1 hin o (List.mem_of_getElem? ho')
  · refine wpAny_cut n1 m hlen hm hB ?_
    have hsz : (l.take n1).toArray.size = n1 := by simp; omega
    rw [hsz]
    have := wpAny_of_held _ _ _ _ (wpAnyH_of_canon (P := P) (Q := Exit.then (fun a w => wpList P l.toArray (OnlyN fun a w => Q .normal a w) (l.drop n1) a w) (OnlyN fun a w => Q .normal a w)) (md := .any) hsel (fun c d v a w h => h) order (Array.replicate n1 false) a w.drew hok hS (wpC_of_pick order a w.drew hba h))
    rwa [hol] at this
end
end Go.Proofs.Ytomgdfoahfhijaa

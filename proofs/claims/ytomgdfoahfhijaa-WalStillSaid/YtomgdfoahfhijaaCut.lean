/- A region that draws its order, whose last operations wait for all the others: the others in whatever order, then those, one by one. -/
import Derived.Test.YtomgdfoahfhijaaLib
import Derived.StillTail
set_option linter.unusedVariables false
set_option linter.unusedSimpArgs false
namespace Go.Proofs.Ytomgdfoahfhijaa
open Go.RowKit

section
variable {P : Program} {ops hd : Array Oper} {md : Region.Mode} {Q : Exit → Act → World → Prop} {n : Nat}

/-- Each operation of the head waits for earlier ones alone, and asks its guard of earlier ones. -/
def fwdB (md : Region.Mode) (ops : Array Oper) (n : Nat) : Bool :=
  (List.range n).all fun i => match ops[i]? with
    | some o => o.after.all (fun e => !Region.binds md e || decide (e.on < i)) && (match o.guard with | some (g, _) => decide (g < n) | none => true)
    | none => false

def fullOf (listed : Array Bool) (m : Nat) : Array Bool := listed ++ Array.replicate m false

theorem getD_full {listed : Array Bool} {m i : Nat} (h : i < listed.size) (d : Bool) : (fullOf listed m).getD i d = listed.getD i d := by
  simp [fullOf, Array.getElem?_append, h]
theorem getD_full_ge {listed : Array Bool} {m i : Nat} (h : listed.size ≤ i) : (fullOf listed m).getD i false = false := by
  simp only [fullOf, Array.getD_eq_getD_getElem?, Array.getElem?_append]
  rw [if_neg (by omega)]
  rcases Nat.lt_or_ge (i - listed.size) m with h' | h'
  · simp [h']
  · simp [Array.getElem?_eq_none, h']
theorem set_full {listed : Array Bool} {m i : Nat} (h : i < listed.size) : (fullOf listed m).setIfInBounds i true = fullOf (listed.setIfInBounds i true) m := by
  apply Array.ext_getElem?
  intro j
  simp only [fullOf, Array.getElem?_setIfInBounds, Array.getElem?_append, Array.size_append, Array.size_replicate, Array.size_setIfInBounds]
  by_cases hj : j = i
  · subst hj; simp [h]; omega
  · have : ¬ i = j := fun e => hj e.symm
    simp [this]

theorem yielded_eq {tmps : Array Value} (hh : ∀ i, i < n → hd[i]? = ops[i]?) {g : Nat} (hg : g < n) : yielded hd tmps g = yielded ops tmps g := by
  unfold yielded; rw [hh g hg]
theorem wanted_eq {o : Oper} {tmps : Array Value} (hh : ∀ i, i < n → hd[i]? = ops[i]?) (hg : ∀ g b, o.guard = some (g, b) → g < n) : Region.wanted o (yielded hd tmps) = Region.wanted o (yielded ops tmps) := by
  unfold Region.wanted
  cases h : o.guard with
  | none => rfl
  | some gb =>
    obtain ⟨g, b⟩ := gb
    simp only [yielded_eq hh (hg g b h)]

theorem wpAny_more : ∀ (fuel d : Nat) (listed : Array Bool) (a : Act) (w : World), wpAny P md ops Q fuel listed a w → wpAny P md ops Q (fuel + d) listed a w
  | 0, 0, _, _, _, h => h
  | 0, d + 1, listed, a, w, h => ⟨fun _ => h.2, fun i hi => by rw [h.1] at hi; cases hi⟩
  | fuel + 1, d, listed, a, w, h => by
    rw [show fuel + 1 + d = (fuel + d) + 1 by omega]
    exact ⟨h.1, fun i hi => wpOp_mono (fun a' w' h' => wpAny_more fuel d _ a' w' h') (h.2 i hi)⟩

theorem cut_head {m : Nat} {tl : List Oper} (hh : ∀ i, i < n → hd[i]? = ops[i]?) (hsz : hd.size = n) (hops : ops.size = n + m) (hm : 0 < m) (htl : ∀ j, tl[j]? = ops[n + j]?) (htlen : tl.length = m)
    (hf : fwdB md ops n = true) (hs : Region.sinkB md ops n = true) (hc : Region.chainB md ops n = true)
    (hseq : Region.seqB md ops m n (fullOf (Array.replicate n true) m) = true) :
    ∀ (fuel : Nat) (listed : Array Bool) (a : Act) (w : World), HeadInv md ops n (fullOf listed m) → listed.size = n →
      wpAny P md hd (Exit.then (fun a w => wpList P ops Q tl a w) Q) fuel listed a w → wpAny P md ops Q (fuel + m) (fullOf listed m) a w := by
  have hedge : ∀ i o, i < n → ops[i]? = some o → (∀ e ∈ o.after, Region.binds md e = true → e.on < i) ∧ (∀ g b, o.guard = some (g, b) → g < n) := by
    intro i o hi ho
    have h1 := List.all_eq_true.1 hf i (List.mem_range.2 hi)
    rw [ho] at h1
    simp only [Bool.and_eq_true] at h1
    refine ⟨fun e he hb => ?_, fun g b hg => ?_⟩
    · have := Array.all_eq_true_iff_forall_mem.1 h1.1 e he
      simpa [hb] using this
    · rw [hg] at h1; simpa using h1.2
  -- an operation of the head may come up in both
  have hready : ∀ (listed : Array Bool), listed.size = n → ∀ i, i < n → (i ∈ Region.ready md hd listed ↔ i ∈ Region.ready md ops (fullOf listed m)) := by
    intro listed hl i hi
    rw [mem_ready, mem_ready, hh i hi, getD_full (by omega)]
    constructor
    · rintro ⟨h0, o, ho, hall⟩
      exact ⟨h0, o, ho, fun e he hb => by rw [getD_full (by have := (hedge i o hi ho).1 e he hb; omega)]; exact hall e he hb⟩
    · rintro ⟨h0, o, ho, hall⟩
      exact ⟨h0, o, ho, fun e he hb => by have := hall e he hb; rwa [getD_full (by have := (hedge i o hi ho).1 e he hb; omega)] at this⟩
  -- where none of the head may come up, all of it has
  have hall : ∀ (listed : Array Bool), listed.size = n → (∀ i, i < n → i ∉ Region.ready md ops (fullOf listed m)) → listed = Array.replicate n true := by
    intro listed hl hno
    have key : ∀ k i, i < k → i < n → listed.getD i true = true := by
      intro k
      induction k with
      | zero => intro i hi; omega
      | succ k ih =>
        intro i hi hin
        by_cases hik : i < k
        · exact ih i hik hin
        · cases hq : listed.getD i true with
          | true => rfl
          | false =>
            exfalso
            have hilt : i < ops.size := by omega
            refine hno i hin (mem_ready.2 ⟨by rw [getD_full (by omega)]; exact hq, ops[i], Array.getElem?_eq_getElem hilt, fun e he hb => ?_⟩)
            have hlt := (hedge i ops[i] hin (Array.getElem?_eq_getElem hilt)).1 e he hb
            rw [getD_full (by omega)]
            have := ih e.on (by omega) (by omega)
            have hlt2 : e.on < listed.size := by omega
            simpa [hlt2] using this
    apply Array.ext_getElem?
    intro j
    by_cases hj : j < n
    · have := key (j + 1) j (by omega) hj
      have hlt : j < listed.size := by omega
      simp [hlt, hj] at this ⊢
      exact this
    · simp [Array.getElem?_eq_none, hl, hj, Nat.le_of_not_lt hj]
  have htail : ∀ (listed : Array Bool) (a : Act) (w : World), listed = Array.replicate n true → wpList P ops Q tl a w → wpAny P md ops Q m (fullOf listed m) a w := by
    rintro listed a w rfl h
    have := wpAny_of_seq (md := md) (Q' := Q) tl n (fullOf (Array.replicate n true) m) a w htl (by rw [htlen]; exact hseq) h
    rwa [htlen] at this
  intro fuel
  induction fuel with
  | zero =>
    intro listed a w inv hl h
    rw [Nat.zero_add]
    refine htail listed a w (hall listed hl fun i hi hr => ?_) h.2
    have := (hready listed hl i hi).2 hr
    rw [h.1] at this
    cases this
  | succ fuel ih =>
    intro listed a w inv hl h
    by_cases hemp : Region.ready md hd listed = []
    · have hq := h.1 hemp
      have := htail listed a w (hall listed hl fun i hi hr => by have := (hready listed hl i hi).2 hr; rw [hemp] at this; cases this) hq
      rw [show fuel + 1 + m = m + (fuel + 1) by omega]
      exact wpAny_more m (fuel + 1) _ _ _ this
    · obtain ⟨i0, hi0⟩ := List.exists_mem_of_ne_nil _ hemp
      have hi0n : i0 < n := by
        obtain ⟨_, o, ho, _⟩ := mem_ready.1 hi0
        have := (Array.getElem?_eq_some_iff.1 ho).1
        omega
      rw [show fuel + 1 + m = (fuel + m) + 1 by omega]
      have hr0 := (hready listed hl i0 hi0n).1 hi0
      refine ⟨fun h0 => (by rw [h0] at hr0; cases hr0), fun i hi => ?_⟩
      have hin : i < n := by
        rcases Nat.lt_or_ge i n with h' | h'
        · exact h'
        · exact absurd hi (tail_waits hs hc (by omega) inv _ i0 rfl hi0n (mem_ready.1 hr0).1 i h')
      have hstep := h.2 i ((hready listed hl i hin).2 hi)
      have inv2 := inv.set hi hin
      rw [set_full (by omega)] at inv2 ⊢
      have hnext : ∀ a' w', wpAny P md hd (Exit.then (fun a w => wpList P ops Q tl a w) Q) fuel (listed.setIfInBounds i true) a' w' → wpAny P md ops Q (fuel + m) (fullOf (listed.setIfInBounds i true) m) a' w' :=
        fun a' w' h' => ih _ a' w' inv2 (by simpa using hl) h'
      have hstep2 := wpOp_mono hnext hstep
      unfold wpOp at hstep2 ⊢
      rw [hh i hin] at hstep2
      cases ho : ops[i]? with
      | none => rw [ho] at hstep2; exact hstep2
      | some o =>
        rw [ho] at hstep2
        simp only at hstep2 ⊢
        rw [wanted_eq hh (hedge i o hin ho).2] at hstep2
        split at hstep2
        · rename_i hw
          rw [if_pos hw]
          rcases hstep2 with h1 | ⟨h1, h2⟩
          · left
            unfold Oper.wp at h1 ⊢
            generalize (execOp a.eval o).run P w = r at h1 ⊢
            cases r with
            | ok x w' => cases x <;> exact h1
            | halt x w' => cases x <;> exact h1
          · exact .inr ⟨h1, h2⟩
        · rename_i hw
          rw [if_neg hw]
          exact hstep2

def cutB (ops : Array Oper) (n m : Nat) : Bool :=
  fwdB .any ops n && Region.sinkB .any ops n && Region.chainB .any ops n && Region.seqB .any ops m n (fullOf (Array.replicate n true) m)

theorem wp_region_cut {id : Nat} {l : List Oper} {a : Act} {w : World} (n m : Nat) (hmix : P.follows .mixedOrders = true) (hlen : l.length = n + m) (hm : 0 < m) (hB : cutB l.toArray n m = true)
    (h : wpAny P .any (l.take n).toArray (Exit.then (fun a w => wpList P l.toArray Q (l.drop n) a w) Q) (l.take n).toArray.size (Array.replicate (l.take n).toArray.size false) a { w with drawn := w.drawn + 1 }) :
    (Code.region id l.toArray true).wp P Q a w := by
  simp only [cutB, Bool.and_eq_true] at hB
  obtain ⟨⟨⟨h1, h2⟩, h3⟩, h4⟩ := hB
  refine wp_region_any hmix ?_
  have hsz : (l.take n).toArray.size = n := by simp; omega
  rw [hsz] at h
  have := cut_head (hd := (l.take n).toArray) (tl := l.drop n) (n := n) (m := m) (fun i hi => by simp [List.getElem?_take, hi]) hsz (by simpa using hlen) hm (fun j => by simp [List.getElem?_drop]) (by simp; omega) h1 h2 h3 h4
    n (Array.replicate n false) a { w with drawn := w.drawn + 1 } ⟨by simp [fullOf, hlen], fun j oj hj hl' e he hb => ?_, fun t ht htl => ?_⟩ (by simp) h
  · have e : fullOf (Array.replicate n false) m = Array.replicate (l.toArray.size) false := by
      simp [fullOf, hlen]
    have e2 : l.toArray.size = n + m := by simpa using hlen
    rw [e, e2] at this
    rw [e2]
    exact this
  · exfalso
    have e : fullOf (Array.replicate n false) m = Array.replicate (n + m) false := by simp [fullOf]
    rw [e, getD_replicate_false] at hl'
    cases hl'
  · have e : fullOf (Array.replicate n false) m = Array.replicate (n + m) false := by simp [fullOf]
    rw [e]
    have : t < n + m := by simpa [hlen] using htl
    simp [this]


/-! ### One order for all: quiet operations as soon as they may come, loud ones alone -/
def canonOk (md : Region.Mode) (ops : Array Oper) (loud : List Nat) : List Nat → Array Bool → Bool
  | [], listed => (Region.ready md ops listed).isEmpty
  | i :: rest, listed =>
    if loud.contains i then decide (Region.ready md ops listed = [i]) && canonOk md ops loud rest (listed.setIfInBounds i true)
    else (Region.ready md ops listed).contains i && Region.free md ops listed i && canonOk md ops loud rest (listed.setIfInBounds i true)

/-- The walk in that order: a quiet operation yields its value in every world that meets S; behind a loud one S holds. -/
def wpC (P : Program) (ops : Array Oper) (Q : Exit → Act → World → Prop) (S : World → Prop) (loud : List Nat) : List Nat → Act → World → Prop
  | [], a, w => Q .normal a w
  | i :: rest, a, w =>
    if loud.contains i then wpOp P ops Q i (fun a' w' => S w' ∧ wpC P ops Q S loud rest a' w') a w
    else ∃ o v, ops[i]? = some o ∧ YieldsIf P ops S o v a ∧ wpC P ops Q S loud rest (a.put o.dst v) w

theorem wpAnyH_of_canon {S : World → Prop} {loud : List Nat} (hsel : Region.noSelect ops = true) (hQ : ∀ c d v a w, Q (.panic c) (Act.put a d v) w → Q (.panic c) a w) :
    ∀ (l : List Nat) (listed : Array Bool) (a : Act) (w : World), canonOk md ops loud l listed = true → S w → wpC P ops Q S loud l a w → wpAnyH P md ops Q S l.length listed a w
  | [], listed, a, w, hok, _, h => ⟨by simpa [canonOk] using hok, h⟩
  | i :: rest, listed, a, w, hok, hS, h => by
    unfold canonOk at hok
    unfold wpC at h
    by_cases hl : loud.contains i = true
    · rw [if_pos hl] at hok h
      simp only [Bool.and_eq_true, decide_eq_true_eq] at hok
      refine ⟨fun h0 => (by rw [hok.1] at h0; cases h0), fun j hj => ?_⟩
      rw [hok.1] at hj
      obtain rfl : j = i := by simpa using hj
      exact wpOp_mono (fun a' w' h' => ⟨h'.1, wpAnyH_of_canon hsel hQ rest _ a' w' hok.2 h'.1 h'.2⟩) h
    · rw [if_neg hl] at hok h
      simp only [Bool.and_eq_true] at hok
      obtain ⟨o, v, ho, hy, hrest⟩ := h
      exact wpAnyH_first ho (Region.noSelect_spec hsel) (fun c a w => hQ c o.dst v a w) rest.length listed a w (Region.free_spec ho hok.1.2) (by simpa using hok.1.1) hy hS
        (wpAnyH_of_canon hsel hQ rest _ _ w hok.2 hS hrest)

theorem wpC_quiet {S : World → Prop} {loud rest : List Nat} {i : Nat} {o : Oper} {v : Value} {a : Act} {w : World} (ho : ops[i]? = some o) (hl : loud.contains i = false)
    (hw : Region.wanted o (yielded ops a.tmps) = true) (hv : ∀ w', S w' → (execOp a.eval o).run P w' = .ok (.value v) w') (h : wpC P ops Q S loud rest (a.put o.dst v) w) :
    wpC P ops Q S loud (i :: rest) a w := by
  unfold wpC
  rw [if_neg (by rw [hl]; decide)]
  exact ⟨o, v, ho, .inl ⟨hw, hv⟩, h⟩
theorem wpC_skip {S : World → Prop} {loud rest : List Nat} {i : Nat} {o : Oper} {a : Act} {w : World} (ho : ops[i]? = some o) (hl : loud.contains i = false)
    (hw : Region.wanted o (yielded ops a.tmps) = false) (h : wpC P ops Q S loud rest (a.put o.dst undef) w) :
    wpC P ops Q S loud (i :: rest) a w := by
  unfold wpC
  rw [if_neg (by rw [hl]; decide)]
  exact ⟨o, undef, ho, .inr ⟨hw, rfl⟩, h⟩
theorem wpC_loud {S : World → Prop} {loud rest : List Nat} {i : Nat} {o : Oper} {a : Act} {w : World} (ho : ops[i]? = some o) (hl : loud.contains i = true) (hw : Region.wanted o (yielded ops a.tmps) = true)
    (h : ∀ K : Act → World → Prop, (∀ a w, S w → wpC P ops Q S loud rest a w → K a w) → o.wp P a w K Q) :
    wpC P ops Q S loud (i :: rest) a w := by
  unfold wpC
  rw [if_pos hl]
  unfold wpOp
  rw [ho]
  simp only
  rw [if_pos hw]
  exact .inl (h _ fun a' w' h1 h2 => ⟨h1, h2⟩)

/-- The order that canonOk takes. -/
def canonOf (md : Region.Mode) (ops : Array Oper) (loud : List Nat) : Nat → Array Bool → List Nat
  | 0, _ => []
  | f + 1, listed =>
    match (Region.ready md ops listed).find? fun i => !loud.contains i with
    | some i => i :: canonOf md ops loud f (listed.setIfInBounds i true)
    | none => match Region.ready md ops listed with
      | i :: _ => i :: canonOf md ops loud f (listed.setIfInBounds i true)
      | [] => []

/-- The same walk on the operations written out in that order (true: loud). -/
def wpD (P : Program) (Q : Exit → Act → World → Prop) (S : World → Prop) : List (Bool × Oper) → Act → World → Prop
  | [], a, w => Q .normal a w
  | (true, o) :: rest, a, w => o.wp P a w (fun a' w' => S w' ∧ wpD P Q S rest a' w') Q
  | (false, o) :: rest, a, w => ∃ v, (∀ w', S w' → (execOp a.eval o).run P w' = .ok (.value v) w') ∧ wpD P Q S rest (a.put o.dst v) w
def pick (loud : List Nat) (l : List Oper) : List Nat → List (Bool × Oper)
  | [] => []
  | i :: rest => match l[i]? with
    | some o => (loud.contains i, o) :: pick loud l rest
    | none => []
def bare (l : List Oper) (order : List Nat) : Bool := order.all fun i => match l[i]? with | some o => o.guard.isNone | none => false

theorem wpC_of_pick {S : World → Prop} {loud : List Nat} {l : List Oper} : ∀ (order : List Nat) (a : Act) (w : World), bare l order = true → wpD P Q S (pick loud l order) a w → wpC P l.toArray Q S loud order a w
  | [], a, w, _, h => h
  | i :: rest, a, w, hb, h => by
    unfold bare at hb
    rw [List.all_cons, Bool.and_eq_true] at hb
    obtain ⟨h1, h2⟩ := hb
    cases ho : l[i]? with
    | none => rw [ho] at h1; cases h1
    | some o =>
      rw [ho] at h1
      have hgu : o.guard = none := by simpa using h1
      have hw : ∀ a : Act, Region.wanted o (yielded l.toArray a.tmps) = true := fun a => by unfold Region.wanted; rw [hgu]
      unfold pick at h
      rw [ho] at h
      unfold wpC
      by_cases hl : loud.contains i = true
      · rw [if_pos hl]
        simp only [hl] at h
        unfold wpOp
        rw [show l.toArray[i]? = some o by simpa using ho]
        simp only
        rw [if_pos (hw a)]
        refine .inl ?_
        have h' : o.wp P a w (fun a' w' => S w' ∧ wpD P Q S (pick loud l rest) a' w') Q := h
        exact Oper.wp_mono (fun a' w' h3 => ⟨h3.1, wpC_of_pick rest a' w' h2 h3.2⟩) h'
      · rw [if_neg hl]
        have hl' : loud.contains i = false := by simpa using hl
        rw [hl'] at h
        obtain ⟨v, hv, hr⟩ := h
        exact ⟨o, v, by simpa using ho, .inl ⟨hw a, hv⟩, wpC_of_pick rest _ w h2 hr⟩

theorem wpD_quiet {S : World → Prop} {rest : List (Bool × Oper)} {o : Oper} (v : Value) {a : Act} {w : World} (hv : ∀ w', S w' → (execOp a.eval o).run P w' = .ok (.value v) w') (h : wpD P Q S rest (a.put o.dst v) w) :
    wpD P Q S ((false, o) :: rest) a w := ⟨v, hv, h⟩
theorem wpD_loud {S : World → Prop} {rest : List (Bool × Oper)} {o : Oper} {a : Act} {w : World} (h : ∀ K : Act → World → Prop, (∀ a w, S w → wpD P Q S rest a w → K a w) → o.wp P a w K Q) :
    wpD P Q S ((true, o) :: rest) a w := h _ fun _ _ h1 h2 => ⟨h1, h2⟩
theorem wpD_nil {S : World → Prop} {a : Act} {w : World} (h : Q .normal a w) : wpD P Q S [] a w := h

/-- A region that draws: its first n operations in that one order, the m others behind them, one by one; it is shown not to panic. -/
theorem wp_region_canon {id : Nat} {l : List Oper} {a : Act} {w : World} (S : World → Prop) (n m : Nat) (loud order : List Nat) (hmix : P.follows .mixedOrders = true) (hlen : l.length = n + m) (hm : 0 < m)
    (hB : cutB l.toArray n m = true) (hsel : Region.noSelect (l.take n).toArray = true) (hol : order.length = n) (hok : canonOk .any (l.take n).toArray loud order (Array.replicate n false) = true)
    (hba : bare (l.take n) order = true) (hS : S w.drew)
    (h : wpD P (Exit.then (fun a w => wpList P l.toArray (NoPanic Q) (l.drop n) a w) (NoPanic Q)) S (pick loud (l.take n) order) a w.drew) :
    (Code.region id l.toArray true).wp P Q a w := by
  refine wp_region_noPanic ?_
  refine wp_region_cut n m hmix hlen hm hB ?_
  have hsz : (l.take n).toArray.size = n := by simp; omega
  rw [hsz]
  have := wpAny_of_held _ _ _ _ (wpAnyH_of_canon (P := P) (Q := Exit.then (fun a w => wpList P l.toArray (NoPanic Q) (l.drop n) a w) (NoPanic Q)) (md := .any) hsel (fun c d v a w h => h) order (Array.replicate n false) a w.drew hok hS (wpC_of_pick order a w.drew hba h))
  rwa [hol] at this
end
end Go.Proofs.Ytomgdfoahfhijaa

/- ranges over functions: the kit's fifth law at the wide fence, in plain words. -/
import Derived.Test.YtomgdfoahfhijaaDss
import Derived.RangeFuncNested
import Derived.RangeFuncBound
import Derived.RangeFuncCalls
import Derived.RangeFuncLeaves
import Derived.OwnWalkIn
import Derived.TacticsInMore
import Derived.LoopNIn
import Derived.LoopIn
set_option linter.unusedVariables false
set_option linter.unusedSimpArgs false
namespace Go.Proofs.Ytomgdfoahfhijaa
open Go.RowKit

theorem calls_of_wp_marks {P : Program} {f : FuncId} {fn : Func} {c : Code} {args : Array Value} {w : World} {R : Ending → World → Prop} (hf : P.funcs[f]? = some fn) (hb : fn.body = some c)
    (h : c.wp P (bodyPostM Fence.wide 9 P fn R) { tmps := args ++ Array.replicate (fn.ntmps - args.size) undef, defers := [] } w) : Calls P f args w R :=
  (callsIn_wide (n := 9)).1 (callsIn_of_wp_marks hf hb trivial (wpIn_wide.2 h))
/-- The blocks of K lie as they lay. -/
def Stay (K : Nat → Prop) (W W' : World) : Prop := ∀ k, K k → W'.heap[k]? = W.heap[k]?
theorem wpListIn_val {F : Fence} {n : Nat} {P : Program} {w w' : World} {ops : Array Oper} {rest : List Oper} {o : Oper} {a : Act} {Q : Exit → Act → World → Prop} {v : Value} (hg : o.guard = none) (hab : o.about P w a.eval = none) (hnd : ∀ c, o.op ≠ .defer c)
    (hrun : (execOp a.eval o).run P w = .ok (.value v) w') (h : wpListIn F n P ops Q rest (a.put o.dst v) w') : wpListIn F n P ops Q (o :: rest) a w :=
  wpListIn_plain hg fun K hK => ⟨fun f hf => (by rw [hab] at hf; cases hf), by rw [Oper.semAt_plain _ _ _ hnd, hrun]; exact hK _ _ h⟩
/-- An iterator's contract: it tells the list xs, whatever a body does that keeps the blocks of K. -/
abbrev Tells {α : Type} (P : Program) (g : Nat) (lb : Array Value) (encs : α → Array Value) (K : Nat → Prop) (xs : List α) (w : World) : Prop :=
  SeqStopsK Fence.wide 8 P g lb encs (Stay K) (fun ys => ys = xs) (fun ys => ys <+: xs) xs.length w
theorem wp_rangeFunc {α : Type} {P : Program} {g : Operand} {ps : Array Tmp} {assign body : Code} {Q : Exit → Act → World → Prop} {a : Act} {w : World} {gf : Nat} {lb : Array Value} (hg : a.eval g = .func (.func gf) #[] lb) (eg : entersAt P gf = true)
    {encs : α → Array Value} {K : Nat → Prop} {xs : List α} (hseq : Tells P gf lb encs K xs w) (hK : ∀ k, K k → k < w.heap.size) (hps : ∀ x, (encs x).size = ps.size)
    (I : List α → World → Prop) (Ix : Code → List α → World → Prop) (hI : OwnFrom w.heap.size I) (hIx : ∀ c, OwnFrom w.heap.size (Ix c)) (h0 : I [] w) (Ax : α → Act → World → Prop) (hAx : ∀ x a', OwnFrom w.heap.size (fun (_ : Unit) W => Ax x a' W))
    (hassign : ∀ (l : Nat) (pre : List α) (x : α) (W : World) (K' : Act → World → Prop), I pre W → (∀ a' W', KeepsFrom w.heap.size W W' → Stay K W W' → I pre W' → Ax x a' W' → K' a' W') →
      assign.wpIn (Fence.wide.inRound l) 7 P (Exit.then K' (fun _ _ _ => False)) { tmps := (ps.zip (encs x)).foldl (fun t (p, v) => t.setIfInBounds p v) a.tmps, defers := [] } W)
    (hbody : ∀ (l : Nat) (pre : List α) (x : α) (a' : Act) (W : World), w.heap.size ≤ l → (∃ r, W.heap[l]? = some (.loop r)) → I pre W → Ax x a' W → pre.length < xs.length → body.wpIn (Fence.wide.inRound l) 7 P (ownPostG w.heap.size (Stay K) I Ix (pre ++ [x]) W) a' W)
    (hdone : ∀ (D : Nat) (W : World), w.heap.size ≤ D → I xs W → W.heap[D]? = some (.deferred (some [])) → Q .normal { a with defers := { target := .collected D, args := #[] } :: a.defers } W)
    (hstop : ∀ (D : Nat) (c : Code) (pre : List α) (W : World), w.heap.size ≤ D → pre <+: xs → Ix c pre W → W.heap[D]? = some (.deferred (some [])) → c.wp P Q { a with defers := { target := .collected D, args := #[] } :: a.defers } W) :
    (Code.rangeFunc g ps assign body).wp P Q a w := by
  refine (wpIn_wide (n := 9)).1 (wpIn_rangeFunc_ownH rfl (by decide) hg trivial (fun args w => callFunc_at eg args w) hseq (fun h1 h2 k hk => (h2 k hk).trans (h1 k hk))
    (fun W l o o' hl ho _ _ k hk => (grownBy_putObj' W l o').block k ?_ (fun e => ?_)) (Below.refl _ _) hps I Ix hI hIx h0 Ax hAx hassign hbody (fun D ys W h1 h2 h3 h4 => hdone D W h1 (h2 ▸ h3) h4) (fun D c pre W h1 h2 h3 h4 => (wpIn_wide (n := 9)).2 (hstop D c pre W h1 h2 h3 h4)))
  · have := hK k hk; have := lt_of_block ho; omega
  · cases e; have := hK _ hk; omega

theorem updOwn {β : Type} {w : World} {S : Nat → Prop} : OwnFrom w.heap.size (fun (_ : β) W => Upd S w W) := fun s W W' row h hg hr => h.grown hg (fun k hk hlt => absurd (hr k hk).1 (by omega))
theorem heapOwn {β : Type} {B : Nat} {k : Nat} {cs : β → Array Value} {t : TypeId} : OwnFrom B (fun (s : β) W => W.heap[k]? = some (.cells (cs s) t (0, 0))) := fun s W W' row h hg hr =>
  (hg.block k (lt_of_heap h) (fun e => by obtain ⟨_, o, ho, hc⟩ := hr k e.symm; rw [show W.heap[k]? = _ from h] at ho; cases ho; cases hc)).trans h
theorem constOwn {β : Type} {B : Nat} {p : β → Prop} : OwnFrom B (fun (s : β) (_ : World) => p s) := fun _ _ _ _ h _ _ => h

theorem exec_store0 {P : Program} {w : World} {o : Oper} {ev : Operand → Value} {g n : Nat} {t ty : TypeId} {cs cur : Array Value} {x y : Operand} (hg : w.heap[g]? = some (.cells cur t (0, 0))) (hi : (P.info? ty).map (·.size) = some n) (hc : cs.size = n) (hn : cur.size = n)
    (h1 : ∀ v ∈ cs.toList, v.oneCell' = true) (ho : o.op = .store ty x y) (hx : ev x = .pointer (some ⟨g, 0, none⟩)) (hy : ev y = .agg cs) :
    ∃ w', (execOp ev o).run P w = .ok .skip w' ∧ w'.heap[g]? = some (.cells cs t (0, 0)) ∧ Upd (OneS g) w w' ∧ w'.heap.size = w.heap.size := by
  refine ⟨w.setRow g (cur.toList.take 0 ++ cs.toList ++ cur.toList.drop (0 + n)).toArray, ?_, ?_, (Upd.refl _ w).setRow g _ (fun _ => rfl), by simp⟩
  · unfold execOp
    simp only [ho, hx, hy, Instr.storeAt, Instr.sureAddr, Sem.run_bind, Sem.run_pure, Result.andThen_ok, run_storeVar_at hg hi hc (show 0 + n ≤ cur.size by omega) h1]
  · rw [setRow_heap w g cur _ t _ hg]
    have e : (cur.toList.take 0 ++ cs.toList ++ cur.toList.drop (0 + n)).toArray = cs := by
      rw [List.take_zero, List.nil_append, List.drop_of_length_le (by simp; omega), List.append_nil, Array.toArray_toList]
    rw [e]
theorem wpListIn_skipv {F : Fence} {n : Nat} {P : Program} {w w' : World} {ops : Array Oper} {rest : List Oper} {o : Oper} {a : Act} {Q : Exit → Act → World → Prop} (hg : o.guard = none) (hab : o.about P w a.eval = none) (hnd : ∀ c, o.op ≠ .defer c)
    (hrun : (execOp a.eval o).run P w = .ok .skip w') (h : wpListIn F n P ops Q rest (a.put o.dst undef) w') : wpListIn F n P ops Q (o :: rest) a w :=
  wpListIn_plain hg fun K hK => ⟨fun f hf => (by rw [hab] at hf; cases hf), by rw [Oper.semAt_plain _ _ _ hnd, hrun]; exact hK _ _ h⟩
theorem wpListIn_store0 {F : Fence} {n : Nat} {P : Program} {w : World} {ops : Array Oper} {rest : List Oper} {o : Oper} {a : Act} {Q : Exit → Act → World → Prop} {g N : Nat} {t ty : TypeId} {cs cur : Array Value} {x y : Operand} (hg : w.heap[g]? = some (.cells cur t (0, 0))) (hi : (P.info? ty).map (·.size) = some N) (hc : cs.size = N) (hn : cur.size = N)
    (h1 : ∀ v ∈ cs.toList, v.oneCell' = true) (hgd : o.guard = none) (hab : o.about P w a.eval = none) (ho : o.op = .store ty x y) (hx : a.eval x = .pointer (some ⟨g, 0, none⟩)) (hy : a.eval y = .agg cs)
    (h : ∀ w', w'.heap[g]? = some (.cells cs t (0, 0)) → Upd (OneS g) w w' → w'.heap.size = w.heap.size → wpListIn F n P ops Q rest (a.put o.dst undef) w') : wpListIn F n P ops Q (o :: rest) a w := by
  obtain ⟨w', h2, h3, h4, h5⟩ := exec_store0 hg hi hc hn h1 ho hx hy
  exact wpListIn_skipv hgd hab (fun c e => by rw [ho] at e; cases e) h2 (h w' h3 h4 h5)
theorem keepsOf {B : Nat} {S : Nat → Prop} {W W' : World} (h : Upd S W W') (hS : ∀ k o, S k → W.heap[k]? = some o → B ≤ k → o.isCells = true) : KeepsFrom B W W' :=
  ⟨h.size, fun k o hB hk ho => (h.block k (lt_of_block hk) (fun hs => by rw [hS k o hs hk hB] at ho; cases ho)).trans hk⟩
theorem stayOf {K S : Nat → Prop} {W W' : World} (h : Upd S W W') (hK : ∀ k, K k → k < W.heap.size ∧ ¬ S k) : Stay K W W' := fun k hk => h.block k (hK k hk).1 (hK k hk).2
end Go.Proofs.Ytomgdfoahfhijaa

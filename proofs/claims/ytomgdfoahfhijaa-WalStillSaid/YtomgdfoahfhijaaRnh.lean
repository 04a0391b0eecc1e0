/- A range over a function whose iterator says, at each round, what holds of what it tells (own law, of the kit's second law of such ranges). -/
import Derived.Test.YtomgdfoahfhijaaRng
set_option linter.unusedVariables false
set_option linter.unusedSimpArgs false
namespace Go.Proofs.Ytomgdfoahfhijaa
open Go.RowKit

/-- An iterator's contract: G says what holds of the next one in the world where it is told. -/
def Gives {α : Type} (P : Program) (gf : Nat) (lb : Array Value) (encs : α → Array Value) (K : Nat → Prop) (G : List α → α → World → Prop) (Dn : List α → Prop) (w : World) : Prop :=
  ∀ (l : Nat) (J Jx : List α → World → Prop) (W : World), Below w.heap.size w W → AbidesFrom W.heap.size J → AbidesFrom W.heap.size Jx →
    (∀ pre x W1, J pre W1 → G pre x W1 → YieldAt Fence.wide 7 P l (encs x) W1 fun e W' => (e = .returned (.bool true) ∧ J (pre ++ [x]) W' ∧ Stay K W1 W') ∨ (e = .returned (.bool false) ∧ Jx (pre ++ [x]) W')) →
    J [] W → CallsIn Fence.wide 8 P gf (#[.func (.yield l) #[] #[]] ++ lb) W fun e W' => (∃ v, e = .returned v) ∧ ((∃ xs, Dn xs ∧ J xs W') ∨ (∃ pre, Jx pre W'))
theorem Gives.upd {α : Type} {P : Program} {g : Nat} {lb : Array Value} {encs : α → Array Value} {K : Nat → Prop} {G : List α → α → World → Prop} {Dn : List α → Prop} {w w' : World} (h : Gives P g lb encs K G Dn w) (hu : Upd NoS w w') : Gives P g lb encs K G Dn w' :=
  fun l J Jx W hW hJ hJx hY h0 => h l J Jx W ((Upd.mono (T := FromS w.heap.size) hu (fun _ _ h => h.elim)).toBelow.trans (hW.mono hu.size)) hJ hJx hY h0
/-- The two blocks that a loop keeps its books in. -/
structure Book (B : Nat) (o : Obj) (W : World) : Prop where
  rcd : W.heap[B + 1]? = some o
  dfr : W.heap[B]? = some (.deferred (some []))
theorem Book.grown {B : Nat} {o : Obj} {W W' : World} {row : Option Nat} (h : Book B o W) (hg : W.grownBy W' row) (hr : ∀ r, row = some r → B + 2 ≤ r) : Book B o W' :=
  ⟨(hg.block _ (lt_of_block h.rcd) (fun e => by have := hr _ e.symm; omega)).trans h.rcd, (hg.block _ (lt_of_block h.dfr) (fun e => by have := hr _ e.symm; omega)).trans h.dfr⟩
theorem Book.turn {B : Nat} {o : Obj} {W : World} (h : Book B o W) (o' : Obj) : Book B o' (W.putObj (B + 1) o') :=
  ⟨World.putObj_heap_same (lt_of_block h.rcd), (World.putObj_heap_other (by omega)).trans h.dfr⟩
theorem Book.keeps {B : Nat} {o : Obj} {W W' : World} (h : Book B o W) (hk : KeepsFrom B W W') (ho : o.isCells = false) : Book B o W' :=
  ⟨hk.same _ _ (by omega) h.rcd ho, hk.same _ _ (Nat.le_refl _) h.dfr rfl⟩
theorem stay_put {K : Nat → Prop} {W : World} {l : Nat} (o' : Obj) (hK : ∀ k, K k → k ≠ l) : Stay K W (W.putObj l o') := fun k hk => World.putObj_heap_other (fun e => hK k hk (by omega))
theorem Stay.tr {K : Nat → Prop} {A B C : World} (h : Stay K A B) (h' : Stay K B C) : Stay K A C := fun k hk => (h' k hk).trans (h k hk)

theorem wp_rangeGives {α : Type} {P : Program} {g : Operand} {ps : Array Tmp} {assign body : Code} {Q : Exit → Act → World → Prop} {a : Act} {w : World} {gf : Nat} {lb : Array Value} (hg : a.eval g = .func (.func gf) #[] lb) (eg : entersAt P gf = true)
    {encs : α → Array Value} {K : Nat → Prop} {G : List α → α → World → Prop} {Dn : List α → Prop} (hseq : Gives P gf lb encs K G Dn w) (hK : ∀ k, K k → k < w.heap.size) (hps : ∀ x, (encs x).size = ps.size)
    (I : List α → World → Prop) (Ix : Code → List α → World → Prop) (hI : OwnFrom w.heap.size I) (hIx : ∀ c, OwnFrom w.heap.size (Ix c)) (h0 : I [] w) (Ax : List α → α → Act → World → Prop) (hAx : ∀ pre x a', OwnFrom w.heap.size (fun (_ : Unit) W => Ax pre x a' W))
    (hassign : ∀ (l : Nat) (pre : List α) (x : α) (W : World) (K' : Act → World → Prop), I pre W → G pre x W → (∀ a' W', KeepsFrom w.heap.size W W' → Stay K W W' → I pre W' → Ax pre x a' W' → K' a' W') →
      assign.wpIn (Fence.wide.inRound l) 7 P (Exit.then K' (fun _ _ _ => False)) { tmps := (ps.zip (encs x)).foldl (fun t (p, v) => t.setIfInBounds p v) a.tmps, defers := [] } W)
    (hbody : ∀ (l : Nat) (pre : List α) (x : α) (a' : Act) (W : World), w.heap.size ≤ l → (∃ r, W.heap[l]? = some (.loop r)) → I pre W → Ax pre x a' W → body.wpIn (Fence.wide.inRound l) 7 P (ownPostG w.heap.size (Stay K) I Ix (pre ++ [x]) W) a' W)
    (hdone : ∀ (D : Nat) (xs : List α) (W : World), w.heap.size ≤ D → Dn xs → I xs W → W.heap[D]? = some (.deferred (some [])) → Q .normal { a with defers := { target := .collected D, args := #[] } :: a.defers } W)
    (hstop : ∀ (D : Nat) (c : Code) (pre : List α) (W : World), w.heap.size ≤ D → Ix c pre W → W.heap[D]? = some (.deferred (some [])) → c.wp P Q { a with defers := { target := .collected D, args := #[] } :: a.defers } W) :
    (Code.rangeFunc g ps assign body).wp P Q a w := by
  refine (wpIn_wide (n := 9)).1 (wpIn_rangeFunc fun fn hfn => ?_)
  obtain ⟨B, hB⟩ : ∃ B, B = w.heap.size := ⟨_, rfl⟩
  rw [← hB] at hK hI hAx hassign hbody hdone hstop
  have hIx : ∀ c, OwnFrom B (Ix c) := fun c => by rw [hB]; exact hIx c
  obtain ⟨R, hR⟩ : ∃ R : LoopState → Option Code → Loop, R = fun st pe => { state := st, pending := pe, fn, tmps := a.tmps, params := ps, assign, body, defers := B } := ⟨_, rfl⟩
  obtain ⟨W1, hW1⟩ : ∃ W1, W1 = (w.alloc (.deferred (some []))).alloc (.loop (R .ready none)) := ⟨_, rfl⟩
  have hb1 : Book B (.loop (R .ready none)) W1 := by
    rw [hW1, hB]
    exact ⟨by have := World.alloc_heap_new (w.alloc (.deferred (some []))) (.loop (R .ready none)); rwa [World.size_alloc] at this, (Below.heap_alloc _ _ _ (by simp)).trans (World.alloc_heap_new w _)⟩
  have hz1 : W1.heap.size = B + 2 := by rw [hW1, hB]; simp
  have hKB : ∀ k, K k → k ≠ B + 1 := fun k hk => by have := hK k hk; omega
  have hwalk : ∀ {A : World} {row : Option Nat}, (∀ r, row = some r → W1.heap.size ≤ r ∧ ∃ o : Obj, A.heap[r]? = some o ∧ o.isWalk = true) → ∀ r, row = some r → B ≤ r ∧ ∃ o : Obj, A.heap[r]? = some o ∧ o.isCells = false :=
    fun hr r e => by obtain ⟨h1, o, h2, h3⟩ := hr r e; exact ⟨by omega, o, h2, Obj.not_cells_of_walk h3⟩
  have hrow : ∀ {A : World} {row : Option Nat}, (∀ r, row = some r → W1.heap.size ≤ r ∧ ∃ o : Obj, A.heap[r]? = some o ∧ o.isWalk = true) → ∀ r, row = some r → B + 2 ≤ r :=
    fun hr r e => by have := (hr r e).1; omega
  have hcall := hseq (B + 1) (fun pre W => I pre W ∧ Book B (.loop (R .ready none)) W) (fun pre W => ∃ c, Ix c pre W ∧ Book B (.loop (R .done (some c))) W) W1
    (by rw [hW1]; exact ((Below.refl _ w).alloc (Nat.le_refl _) _).alloc (by simp) _)
    (fun s X Y row hs hgr hr => ⟨hI s X Y row hs.1 hgr (hwalk hr), hs.2.grown hgr (hrow hr)⟩)
    (fun s X Y row hs hgr hr => by obtain ⟨c, h1, h2⟩ := hs; exact ⟨c, hIx c s X Y row h1 hgr (hwalk hr), h2.grown hgr (hrow hr)⟩)
    ?_ ⟨by rw [hW1]; exact hI.alloc _ (hI.alloc _ h0), hb1⟩
  · refine ⟨B + 1, [{ target := .collected B, args := #[] }], W1, { target := .fn (.func gf) lb, args := #[.func (.yield (B + 1)) #[] #[]] }, W1, gf, #[.func (.yield (B + 1)) #[] #[]] ++ lb, W1, ?_, ?_, ?_, ?_, (fun h => by cases h), ?_⟩
    · rw [hW1, hB, hR, hB]; exact run_enterLoop_outer _ _ _ _ _
    · simp only [resolve, hg]
      simp [go_sem]
    · intro f' hf'; simp [Target.leads] at hf'; subst hf'; exact trivial
    · simp [invoke, go_sem, callFunc_at eg]
    · refine CallsIn.mono hcall ?_
      rintro e W2 ⟨⟨v, rfl⟩, (⟨xs, hS, hi, hb⟩ | ⟨pre, c, hi, hb⟩)⟩
      · refine ⟨none, _, ?_, hdone B xs _ (Nat.le_refl _) hS (hI.putObj _ hi (by omega) hb.rcd rfl) (hb.turn (.loop { R .ready none with state := .exhausted })).dfr⟩
        have := run_endLoop (P := P) hb.rcd (by rw [hR]; simp)
        rw [hR] at this ⊢
        exact this
      · refine ⟨some c, _, ?_, (wpIn_wide (n := 9)).2 (hstop B c pre _ (Nat.le_refl _) ((hIx c).putObj _ hi (by omega) hb.rcd rfl) (hb.turn (.loop { R .done (some c) with state := .exhausted })).dfr)⟩
        have := run_endLoop (P := P) hb.rcd (by rw [hR]; simp)
        rw [hR] at this ⊢
        exact this
  · rintro pre x W ⟨hi, hb⟩ hG
    have hy := run_yield (P := P) (args := encs x) hb.rcd (by rw [hR]; exact hps x)
    rw [hR] at hy
    refine ⟨fn, _, assign, body, hy, roundIn_of_wpIn hfn (hassign _ pre x W _ hi hG ?_)⟩
    intro a' Wa hka hsa hia hax
    have hba := hb.keeps hka rfl
    obtain ⟨Wb, hWb⟩ : ∃ Wb, Wb = Wa.putObj (B + 1) (.loop { R .ready none with state := .busy }) := ⟨_, rfl⟩
    have hbb : Book B (.loop { R .ready none with state := .busy }) Wb := by rw [hWb]; exact hba.turn _
    refine ⟨Wb, by rw [hWb]; exact run_beginRound hba.rcd (by rw [hR]), ?_⟩
    refine wpIn_mono (hbody (B + 1) pre x a' Wb (by omega) ⟨_, hbb.rcd⟩ (by rw [hWb]; exact hI.putObj _ hia (by omega) hba.rcd rfl) (by rw [hWb]; exact (hAx pre x a').putObj (s := ()) _ hax (by omega) hba.rcd rfl)) ?_
    have fin : ∀ (jump : Option Code) (W3 : World), KeepsFrom B Wb W3 → (Instr.endRound (B + 1) jump).run P W3 = .ok (.bool jump.isNone) (W3.putObj (B + 1) (.loop (R (if jump.isNone then .ready else .done) jump))) ∧
        Book B (.loop { R .ready none with state := .busy }) W3 := fun jump W3 hk3 => by
      have hb3 := hbb.keeps hk3 rfl
      refine ⟨?_, hb3⟩
      have := run_endRound (P := P) jump hb3.rcd
      rw [hR] at this ⊢
      exact this
    rintro e a3 W3 hp
    cases e with
    | normal =>
      obtain ⟨hk3, hs3, hi3⟩ := hp
      obtain ⟨hr, hb3⟩ := fin none W3 hk3
      exact ⟨_, _, hr, .inl ⟨rfl, ⟨hI.putObj _ hi3 (by omega) hb3.rcd rfl, hb3.turn _⟩, ((hsa.tr (by rw [hWb]; exact stay_put _ hKB)).tr hs3).tr (stay_put _ hKB)⟩⟩
    | ret =>
      obtain ⟨hk3, hi3⟩ := hp
      obtain ⟨hr, hb3⟩ := fin (some .ret) W3 hk3
      exact ⟨_, _, hr, .inr ⟨rfl, .ret, (hIx _).putObj _ hi3 (by omega) hb3.rcd rfl, hb3.turn _⟩⟩
    | exit id =>
      obtain ⟨hk3, hi3⟩ := hp
      obtain ⟨hr, hb3⟩ := fin (some (.exit id)) W3 hk3
      exact ⟨_, _, hr, .inr ⟨rfl, .exit id, (hIx _).putObj _ hi3 (by omega) hb3.rcd rfl, hb3.turn _⟩⟩
    | goto t =>
      obtain ⟨hk3, hi3⟩ := hp
      obtain ⟨hr, hb3⟩ := fin (some (.goto t)) W3 hk3
      exact ⟨_, _, hr, .inr ⟨rfl, .goto t, (hIx _).putObj _ hi3 (by omega) hb3.rcd rfl, hb3.turn _⟩⟩
    | panic ch => exact hp.elim
    | outgrown => exact hp.elim
end Go.Proofs.Ytomgdfoahfhijaa

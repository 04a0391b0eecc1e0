/- General words: what a step of the program may change in memory, and how a slice reads. No program stands here. -/
import Derived.WalkKit
import Derived.Deep.RegionHeld3
import Derived.Deep.QuietTactic
import Derived.BigQuiet
import Derived.Laws.CopyOwn
import Derived.StillTailTactics
import Derived.Deep.DeepCutAuto
import Derived.Deep.LoopGhost
import Derived.Deep.Light
import Derived.Lib.Hide
import Derived.WalkSpells
import Derived.WalkLawsBesides
import Derived.Laws.EntriesVeiled
import Derived.Handy
import Derived.Deep.DeepFit
set_option linter.unusedVariables false
set_option linter.unusedSimpArgs false
namespace Go.Proofs.Ytomgdfoahfhijaa
open Go.RowKit

/-- Of the blocks that were there only those in S may have changed. -/
structure Upd (S : Nat → Prop) (w w' : World) : Prop where
  os : w'.os = w.os
  tape : w'.tape = w.tape
  output : w'.output = w.output
  size : w.heap.size ≤ w'.heap.size
  block : ∀ k, k < w.heap.size → ¬ S k → w'.heap[k]? = w.heap[k]?

def NoS : Nat → Prop := fun _ => False
def OneS (g : Nat) : Nat → Prop := fun k => k = g
def FromS (n : Nat) : Nat → Prop := fun k => n ≤ k

section
variable {S T : Nat → Prop} {w w1 w2 w' : World}
theorem Upd.refl (S : Nat → Prop) (w : World) : Upd S w w := ⟨rfl, rfl, rfl, Nat.le_refl _, fun _ _ _ => rfl⟩
theorem Upd.mono (h : Upd S w w') (hs : ∀ k, k < w.heap.size → S k → T k) : Upd T w w' :=
  ⟨h.os, h.tape, h.output, h.size, fun k hk ht => h.block k hk fun hk' => ht (hs k hk hk')⟩
theorem Upd.of_no (h : Upd NoS w w') : Upd T w w' := h.mono fun _ _ h => h.elim
theorem Upd.trans (h : Upd S w w1) (h' : Upd T w1 w2) (hs : ∀ k, k < w.heap.size → T k → S k) : Upd S w w2 :=
  ⟨h'.os.trans h.os, h'.tape.trans h.tape, h'.output.trans h.output, Nat.le_trans h.size h'.size, fun k hk hn =>
    (h'.block k (Nat.lt_of_lt_of_le hk h.size) fun ht => hn (hs k hk ht)).trans (h.block k hk hn)⟩
theorem Upd.tr (h : Upd S w w1) (h' : Upd S w1 w2) : Upd S w w2 := h.trans h' fun _ _ h => h
theorem Upd.trNo (h : Upd S w w1) (h' : Upd NoS w1 w2) : Upd S w w2 := h.trans h' fun _ _ h => h.elim
theorem Upd.alloc (h : Upd S w w1) (o : Obj) : Upd S w (w1.alloc o) :=
  h.trNo ⟨rfl, rfl, rfl, by simp, fun k hk _ => Below.heap_alloc _ _ _ hk⟩
theorem Upd.drew (h : Upd S w w1) : Upd S w w1.drew := ⟨h.os, h.tape, h.output, h.size, h.block⟩
theorem Upd.drewN (h : Upd S w w1) (n : Nat) : Upd S w (w1.drewN n) := ⟨h.os, h.tape, h.output, h.size, h.block⟩
theorem Upd.setCell (h : Upd S w w1) (a : Addr) (v : Value) (hs : a.block < w.heap.size → S a.block) : Upd S w (w1.setCell a v) :=
  ⟨h.os, h.tape, h.output, by simpa [World.setCell] using h.size, fun k hk hn =>
    (Below.heap_setCell w1 a v k fun e => hn (e ▸ hs (e ▸ hk))).trans (h.block k hk hn)⟩
theorem Upd.setRow (h : Upd S w w1) (g : Nat) (cs : Array Value) (hs : g < w.heap.size → S g) : Upd S w (w1.setRow g cs) :=
  ⟨h.os, h.tape, h.output, by simpa using h.size, fun k hk hn =>
    (setRow_other w1 g k cs fun e => hn (e ▸ hs (e ▸ hk))).trans (h.block k hk hn)⟩
theorem Upd.grown (h : Upd S w w1) {row : Option Nat} (hg : w1.grownBy w2 row) (hs : ∀ k, row = some k → k < w.heap.size → S k) : Upd S w w2 :=
  ⟨hg.os.trans h.os, hg.tape.trans h.tape, hg.output.trans h.output, Nat.le_trans h.size hg.size, fun k hk hn =>
    (hg.block k (Nat.lt_of_lt_of_le hk h.size) fun e => hn (hs k e.symm hk)).trans (h.block k hk hn)⟩
theorem Upd.below (h : Upd S w w1) {B : Nat} (hb : Below B w1 w2) (hs : ∀ k, B ≤ k → k < w.heap.size → S k) : Upd S w w2 :=
  ⟨hb.os.trans h.os, hb.tape.trans h.tape, hb.output.trans h.output, Nat.le_trans h.size hb.size, fun k hk hn =>
    (hb.block k (Nat.lt_of_not_le fun e => hn (hs k e hk))).trans (h.block k hk hn)⟩
theorem Upd.cell (h : Upd S w w') {a : Addr} {v : Value} (hc : w.cell? a = some v) (hn : ¬ S a.block) : w'.cell? a = some v :=
  (World.cell?_of_block (h.block a.block (block_lt_of_cell hc) hn)).trans hc
theorem lt_of_heap {g : Nat} {o : Obj} (h : w.heap[g]? = some o) : g < w.heap.size := lt_of_block h
theorem Upd.heap (h : Upd S w w') {g : Nat} {o : Obj} (hg : w.heap[g]? = some o) (hn : ¬ S g) : w'.heap[g]? = some o :=
  (h.block g (lt_of_heap hg) hn).trans hg
theorem Upd.toBelow (h : Upd (FromS w.heap.size) w w') : Below w.heap.size w w' :=
  ⟨h.os, h.tape, h.output, h.size, fun k hk => h.block k hk (Nat.not_le_of_lt hk)⟩
theorem Upd.toGrown (h : Upd NoS w w') (row : Option Nat) : w.grownBy w' row :=
  ⟨h.os, h.tape, h.output, h.size, fun k hk _ => h.block k hk id⟩
theorem Upd.toGrown1 {g : Nat} (h : Upd (OneS g) w w') : w.grownBy w' (some g) :=
  ⟨h.os, h.tape, h.output, h.size, fun k hk hn => h.block k hk fun e => hn (by rw [show k = g from e])⟩
theorem Below.toUpd {B : Nat} (hb : Below B w w') (hB : w.heap.size ≤ B) : Upd S w w' :=
  ⟨hb.os, hb.tape, hb.output, hb.size, fun k hk _ => hb.block k (Nat.lt_of_lt_of_le hk hB)⟩
end

/-! ### blocks -/
section
variable {w : World} {g : Nat} {cs : Array Value} {t : TypeId} {fr : Nat × Nat}
theorem cell_at (h : w.heap[g]? = some (.cells cs t fr)) (i : Nat) : w.cell? ⟨g, i, none⟩ = cs[i]? := cell_of_row w g i cs t fr h
theorem free_at (h : w.heap[g]? = some (.cells cs t (0, 0))) (i : Nat) : w.frozen? ⟨g, i, none⟩ = false := frozen_of_row w g i cs t h
theorem heap_set (h : w.heap[g]? = some (.cells cs t fr)) (i : Nat) (v : Value) :
    (w.setCell ⟨g, i, none⟩ v).heap[g]? = some (.cells (cs.setIfInBounds i v) t fr) := by
  simp [World.setCell, Array.getElem?_modify, h]
theorem heap_set_ne {o : Obj} (h : w.heap[g]? = some o) {a : Addr} (hne : g ≠ a.block) (v : Value) : (w.setCell a v).heap[g]? = some o :=
  (heap_setCell_other w a g v hne).trans h
theorem heap_new (w : World) (o : Obj) : (w.alloc o).heap[w.heap.size]? = some o := heap_alloc_new w o
theorem heap_new' {w : World} {o : Obj} {n : Nat} (h : w.heap.size = n) : (w.alloc o).heap[n]? = some o := h ▸ heap_new w o
theorem heap_old {o o' : Obj} (h : w.heap[g]? = some o) : (w.alloc o').heap[g]? = some o := (Below.heap_alloc w o' g (lt_of_heap h)).trans h
end

/-! ### bytes -/
def bv (b : UInt8) : Value := .int .u8 (b.toNat : Int)
def bvs (l : List UInt8) : List Value := l.map bv
@[simp] theorem length_bvs (l : List UInt8) : (bvs l).length = l.length := by simp [bvs]
theorem bvs_append (a b : List UInt8) : bvs (a ++ b) = bvs a ++ bvs b := by simp [bvs]
theorem bvs_one : ∀ l : List UInt8, ∀ u ∈ bvs l, u.oneCell' = true := by
  intro l u hu
  obtain ⟨x, _, rfl⟩ := List.mem_map.1 hu
  rfl
theorem bvs_get {l : List UInt8} {i : Nat} (h : i < l.length) : (bvs l)[i]? = some (.int .u8 (l[i].toNat : Int)) := by simp [bvs, bv, h]

/-- A slice that reads as these cells (n elements of so many cells each); its block is of element type e. -/
def Rd (w : World) (e size : Nat) (v : Value) (n : Nat) (xs : List Value) : Prop :=
  xs.length = n * size ∧ ((v = .slice none 0 0 ∧ n = 0) ∨
    ∃ g o c cur fr, v = .slice (some ⟨g, o, none⟩) n c ∧ n ≤ c ∧ c ≤ maxLen ∧ w.heap[g]? = some (.cells cur e fr) ∧ (cur.toList.drop o).take (n * size) = xs)

section
variable {w w' : World} {e size n : Nat} {v : Value} {xs : List Value} {S : Nat → Prop}
theorem Rd.nil (w : World) (e size : Nat) : Rd w e size (.slice none 0 0) 0 [] := ⟨by simp, .inl ⟨rfl, rfl⟩⟩
theorem Rd.of_own {base : Nat} (h : w.ownsRow base e size v n xs) : Rd w e size v n xs := by
  obtain ⟨h1, h2 | ⟨g, cap, cur, rfl, hb, hh, hn, hm, hs, ht⟩⟩ := h
  · exact ⟨h1, .inl h2⟩
  · exact ⟨h1, .inr ⟨g, 0, cap, cur, (0, 0), rfl, hn, hm, hh, by simpa using ht⟩⟩
theorem Rd.upd (h : Rd w e size v n xs) (hu : Upd S w w') (hs : ∀ k, v.ownBlock = some k → ¬ S k) : Rd w' e size v n xs := by
  obtain ⟨h1, h2 | ⟨g, o, c, cur, fr, rfl, hn, hm, hh, ht⟩⟩ := h
  · exact ⟨h1, .inl h2⟩
  · exact ⟨h1, .inr ⟨g, o, c, cur, fr, rfl, hn, hm, hu.heap hh (hs g rfl), ht⟩⟩
theorem Rd.updNo (h : Rd w e size v n xs) (hu : Upd NoS w w') : Rd w' e size v n xs := h.upd hu fun _ _ h => h.elim
theorem Rd.lt (h : Rd w e size v n xs) : ∀ k, v.ownBlock = some k → k < w.heap.size := by
  obtain ⟨h1, h2 | ⟨g, o, c, cur, fr, rfl, hn, hm, hh, ht⟩⟩ := h
  · rintro k hk; rw [h2.1] at hk; cases hk
  · rintro k hk; cases hk; exact lt_of_heap hh
theorem Rd.cells {g o c : Nat} (h : Rd w e size (.slice (some ⟨g, o, none⟩) n c) n xs) : ∀ j u, xs[j]? = some u → w.cell? ((⟨g, o, none⟩ : Addr).add j) = some u := by
  obtain ⟨h1, h2 | ⟨g', o', c', cur, fr, hv, hn, hm, hh, ht⟩⟩ := h
  · cases h2.1
  · cases hv
    intro j u hu
    have hadd : (⟨g, o, none⟩ : Addr).add j = ⟨g, o + j, none⟩ := by unfold Addr.add; split <;> simp_all
    rw [hadd, cell_at hh]
    rw [← ht, List.getElem?_take] at hu
    split at hu
    · simpa using hu
    · cases hu
/-- Its length, as the program asks for it. -/
theorem Rd.shape (h : Rd w e size v n xs) : (v = .slice none 0 0 ∧ n = 0) ∨ ∃ g o c, v = .slice (some ⟨g, o, none⟩) n c ∧ n ≤ c ∧ c ≤ maxLen := by
  obtain ⟨h1, h2 | ⟨g, o, c, cur, fr, rfl, hn, hm, hh, ht⟩⟩ := h
  · exact .inl h2
  · exact .inr ⟨g, o, c, rfl, hn, hm⟩
theorem Rd.any (h : Rd w e size v n xs) : ∃ a c, v = .slice a n c ∧ n ≤ c ∧ c ≤ maxLen ∧ (0 < n → ∃ ad, a = some ad ∧ ∀ j u, xs[j]? = some u → w.cell? (ad.add j) = some u) := by
  have h' := h
  obtain ⟨h1, h2 | ⟨g, o, c, cur, fr, rfl, hn, hm, hh, ht⟩⟩ := h
  · exact ⟨none, 0, by rw [h2.1, h2.2], by omega, by unfold maxLen; omega, by omega⟩
  · exact ⟨_, c, rfl, hn, hm, fun _ => ⟨_, rfl, h'.cells⟩⟩
end

theorem Rd.at {w : World} {e size n g o c : Nat} {xs : List Value} (h : Rd w e size (.slice (some ⟨g, o, none⟩) n c) n xs) (j : Nat) {u : Value} (hu : xs[j]? = some u) : w.cell? ⟨g, o + j, none⟩ = some u := by
  have := h.cells j u hu
  rwa [show (⟨g, o, none⟩ : Addr).add j = ⟨g, o + j, none⟩ from by unfold Addr.add; split <;> simp_all] at this
theorem Rd.open {w : World} {e size n : Nat} {v : Value} {xs : List Value} (h : Rd w e size v n xs) : ∃ a c, v = .slice a n c ∧ n ≤ c ∧ c ≤ maxLen ∧ (0 < n → ∃ g o, a = some ⟨g, o, none⟩) := by
  rcases h.shape with ⟨rfl, rfl⟩ | ⟨g, o, c, rfl, hn, hm⟩
  · exact ⟨none, 0, rfl, by omega, by unfold maxLen; omega, by omega⟩
  · exact ⟨_, c, rfl, hn, hm, fun _ => ⟨g, o, rfl⟩⟩

theorem Rd.ne {w : World} {e size n r : Nat} {v : Value} {xs : List Value} (h : Rd w e size v n xs) {cs : Array Value} {t : TypeId} {fr : Nat × Nat} (hr : w.heap[r]? = some (.cells cs t fr)) (hne : t ≠ e) : ∀ k, v.ownBlock = some k → ¬ OneS r k := by
  rintro k hk rfl
  obtain ⟨h1, ⟨rfl, _⟩ | ⟨g, o, c, cur, fr', rfl, hn, hm, hh, ht⟩⟩ := h
  · cases hk
  · cases hk
    rw [hh] at hr
    cases hr
    exact hne rfl

theorem Rd.take {w : World} {e n N g o c : Nat} {xs : List Value} (h : Rd w e 1 (.slice (some ⟨g, o, none⟩) N c) N xs) (hn : n ≤ N) : Rd w e 1 (.slice (some ⟨g, o, none⟩) n c) n (xs.take n) := by
  obtain ⟨h1, ⟨h2, _⟩ | ⟨g', o', c', cur, fr, hv, hN, hm, hh, ht⟩⟩ := h
  · cases h2
  · cases hv
    refine ⟨by simp at h1 ⊢; omega, .inr ⟨_, _, _, cur, fr, rfl, by omega, hm, hh, ?_⟩⟩
    rw [← ht, List.take_take]
    congr 1
    omega
theorem Rd.drop {w : World} {e n N g o c : Nat} {xs : List Value} (h : Rd w e 1 (.slice (some ⟨g, o, none⟩) N c) N xs) (hn : n ≤ N) : Rd w e 1 (.slice (some ⟨g, o + n, none⟩) (N - n) (c - n)) (N - n) (xs.drop n) := by
  obtain ⟨h1, ⟨h2, _⟩ | ⟨g', o', c', cur, fr, hv, hN, hm, hh, ht⟩⟩ := h
  · cases h2
  · cases hv
    refine ⟨by simp at h1 ⊢; omega, .inr ⟨_, _, _, cur, fr, rfl, by omega, by unfold maxLen at *; omega, hh, ?_⟩⟩
    rw [← ht, ← List.drop_drop, List.drop_take]
    congr 1
    omega
theorem Rd.dropEnd {w : World} {e n N g o c : Nat} {xs : List Value} (h : Rd w e 1 (.slice (some ⟨g, o, none⟩) N c) N xs) (hn : n ≤ N) (hc : c = n) : Rd w e 1 (.slice (some ⟨g, o, none⟩) (N - n) (c - n)) (N - n) (xs.drop n) := by
  obtain ⟨h1, ⟨h2, _⟩ | ⟨g', o', c', cur, fr, hv, hN, hm, hh, ht⟩⟩ := h
  · cases h2
  · cases hv
    obtain rfl : N = n := by omega
    have h1' : xs.length = N := by simpa using h1
    have h0 : xs.drop N = [] := List.drop_eq_nil_of_le (by omega)
    rw [h0]
    exact ⟨by simp, .inr ⟨_, _, _, cur, fr, rfl, by omega, by unfold maxLen at *; omega, hh, by simp⟩⟩

/-! ### copy(dst, src): dst is the call's own row, src as long as it at most -/
theorem run_copy_own {P : Program} {w : World} {base e e' n c m : Nat} {g : Nat} {xs ys : List Value} {s : Value} {dT sT ty : TypeId}
    (hu : P.underlying dT = some (.slice e)) (hz : (P.info? e).map (·.size) = some 1)
    (ho : w.ownsRow base e 1 (.slice (some ⟨g, 0, none⟩) n c) n xs) (hr : Rd w e' 1 s m ys) (hm : m ≤ n) (h1 : ∀ u ∈ ys, u.oneCell' = true) :
    ∃ w', (Builtin.copy_ #[dT, sT] ty #[.slice (some ⟨g, 0, none⟩) n c, s]).run P w = .ok (goInt m) w' ∧
      w'.ownsRow base e 1 (.slice (some ⟨g, 0, none⟩) n c) n (ys ++ xs.drop m) ∧ w.grownBy w' (some g) := by
  obtain ⟨a, cap, rfl, hmc, hcm, hcells⟩ := hr.any
  have hyl : ys.length = m := by simpa using hr.1
  by_cases hm0 : m = 0
  · subst hm0
    obtain rfl : ys = [] := List.eq_nil_of_length_eq_zero hyl
    exact ⟨w, run_copy_none (P := P) w dT sT ty e _ _ _ _ _ _ hu hz (by simp), by simpa using ho, ⟨rfl, rfl, rfl, Nat.le_refl _, fun _ _ _ => rfl⟩⟩
  · obtain ⟨ad, rfl, hc⟩ := hcells (by omega)
    obtain ⟨h1', h2 | ⟨g', cap', cur, hv, hb, hh, hn, hmx, hs, ht⟩⟩ := ho
    · cases h2.1
    · cases hv
      have hsz : cur.size = c := by omega
      have hrun := run_copy_row (P := P) w dT sT ty e g 0 n c ad m cap cur e ys hu hz hh (by rw [hyl, show Nat.min m n = m from Nat.min_eq_left hm]) hc (by omega) h1
      rw [hyl] at hrun
      refine ⟨_, hrun, ⟨?_, .inr ⟨g, c, _, rfl, hb, setRow_heap w g cur _ e _ hh, hn, hmx, ?_, ?_⟩⟩, ⟨rfl, rfl, rfl, by simp, fun k hk hne => setRow_other w g k _ (fun e => hne (by rw [e]))⟩⟩
      · simp [hyl]; omega
      · simp; omega
      · simp only [List.take_zero, List.nil_append, Nat.zero_add, Nat.mul_one]
        rw [List.take_append, List.take_of_length_le (by omega), hyl, ← ht, List.drop_take]
        congr 1
        simp

theorem own_put {w : World} {base e g n c j : Nat} {A tl : List Value} {y : Value} (h : w.ownsRow base e 1 (.slice (some ⟨g, 0, none⟩) n c) n (A ++ y :: tl)) (hj : A.length = j) (u : Value) :
    (w.setCell ⟨g, j, none⟩ u).ownsRow base e 1 (.slice (some ⟨g, 0, none⟩) n c) n (A ++ u :: tl) ∧ w.grownBy (w.setCell ⟨g, j, none⟩ u) (some g) := by
  obtain ⟨h1, h2⟩ := h.stored j u
  refine ⟨?_, h2⟩
  rwa [List.set_append_right _ _ (by omega), hj, Nat.sub_self, List.set_cons_zero] at h1
theorem grownBy_tr {a b c : World} {row : Option Nat} (h : a.grownBy b row) (h' : b.grownBy c row) : a.grownBy c row :=
  ⟨h'.os.trans h.os, h'.tape.trans h.tape, h'.output.trans h.output, Nat.le_trans h.size h'.size, fun k hk hn => (h'.block k (Nat.lt_of_lt_of_le hk h.size) hn).trans (h.block k hk hn)⟩
theorem bv_mod (y : Int) : bv (UInt8.ofNat (y % 256).toNat) = .int .u8 (y % 256) := by
  have h0 := Int.emod_nonneg y (show (256 : Int) ≠ 0 by decide)
  have h1 := Int.emod_lt_of_pos y (show (0 : Int) < 256 by decide)
  have : ((UInt8.ofNat (y % 256).toNat).toNat : Int) = y % 256 := by
    rw [UInt8.toNat_ofNat']; omega
  simp only [bv, this]

theorem own_shape {w : World} {base e size n : Nat} {v : Value} {xs : List Value} (h : w.ownsRow base e size v n xs) : ∃ a c, v = .slice a n c := by
  rcases h.2 with ⟨rfl, rfl⟩ | ⟨g, cap, cur, rfl, _⟩
  · exact ⟨_, _, rfl⟩
  · exact ⟨_, _, rfl⟩
theorem own_pos {w : World} {base e size n : Nat} {v : Value} {xs : List Value} (h : w.ownsRow base e size v n xs) (hn : 0 < n) : ∃ g c, v = .slice (some ⟨g, 0, none⟩) n c ∧ base ≤ g ∧ n ≤ c ∧ c ≤ maxLen := by
  rcases h.2 with ⟨rfl, rfl⟩ | ⟨g, cap, cur, rfl, hb, _, h1, h2, _⟩
  · exact absurd hn (Nat.lt_irrefl _)
  · exact ⟨_, _, rfl, hb, h1, h2⟩
/-! ### append(v, s...): v is the call's own row (or nil), s whatever reads -/
theorem run_append_rd {P : Program} {w : World} {base e e' n m size bytes t ty : Nat} {i : TypeInfo} {z v s : Value} {xs ys : List Value} (ht : P.underlying t = some (.slice e)) (hi : P.info? e = some i) (hz : i.zero = some z)
    (hsize : i.size = size) (hby : i.bytes = bytes) (hzs : z.cells.size = size) (hsz : 0 < size)
    (hown : w.ownsRow base e size v n xs) (hr : Rd w e' size s m ys) (h1 : ∀ u ∈ ys, u.oneCell' = true)
    (h63 : n + m ≤ maxLen) (hbytes : (n + m) * bytes ≤ 140737488355328) (hbase : base ≤ w.heap.size) :
    ∃ a c w', (Builtin.append_ #[t, t] ty #[v, s]).run P w = .ok (.slice a (n + m) c) w' ∧ w'.ownsRow base e size (.slice a (n + m) c) (n + m) (xs ++ ys) ∧ w.grownBy w' v.ownBlock := by
  have hr' := hr
  obtain ⟨hl, ⟨rfl, rfl⟩ | ⟨g, o, c, cur, fr, rfl, hn, hm, hh, ht'⟩⟩ := hr
  · obtain rfl : ys = [] := List.eq_nil_of_length_eq_zero (by simpa using hl)
    obtain ⟨a, c, rfl⟩ := own_shape hown
    exact ⟨a, c, w, run_append_owned_none (P := P) w base t ty e i size ht hi _ n xs hown, by simpa using hown, ⟨rfl, rfl, rfl, Nat.le_refl _, fun _ _ _ => rfl⟩⟩
  · obtain ⟨v', w', hrun, ho, hg, _⟩ := run_append_own (P := P) w base t ty e i z size bytes ht hi hz hsize hby hzs hsz v n xs hown ⟨g, o, none⟩ m c ys hl hr'.cells h1 h63 hbytes hbase
    obtain ⟨a, c, rfl⟩ := own_shape ho
    exact ⟨a, c, w', hrun, ho, hg⟩
/-- .. onto nil: a new row. -/
theorem run_append_nil_rd {P : Program} {w : World} {e e' m size bytes t ty : Nat} {i : TypeInfo} {z s : Value} {ys : List Value} (ht : P.underlying t = some (.slice e)) (hi : P.info? e = some i) (hz : i.zero = some z)
    (hsize : i.size = size) (hby : i.bytes = bytes) (hzs : z.cells.size = size) (hsz : 0 < size)
    (hr : Rd w e' size s m ys) (h1 : ∀ u ∈ ys, u.oneCell' = true) (h63 : m ≤ maxLen) (hbytes : m * bytes ≤ 140737488355328) :
    ∃ a c w', (Builtin.append_ #[t, t] ty #[.slice none 0 0, s]).run P w = .ok (.slice a m c) w' ∧ w'.ownsRow w.heap.size e size (.slice a m c) m ys ∧ Upd NoS w w' := by
  obtain ⟨a, c, w', hrun, ho, hg⟩ := run_append_rd (ty := ty) ht hi hz hsize hby hzs hsz (World.ownsRow_nil w w.heap.size e size) hr h1 (by simpa using h63) (by simpa using hbytes) (Nat.le_refl _)
  rw [Nat.zero_add] at hrun ho
  exact ⟨a, c, w', hrun, by simpa using ho, (Upd.refl NoS w).grown hg (by simp [Value.ownBlock])⟩

/-! ### an operation whose run is known -/
theorem wpList_append {P : Program} {ops : Array Oper} {Q : Exit → Act → World → Prop} {a : Act} {w w' : World} {rest : List Oper} {o : Oper} {t t' : TypeId} {vs vx v : Value} {s x : Operand}
    (hr : (Builtin.append_ #[t, t'] o.type #[vs, vx]).run P w = .ok v w') (hg : o.guard = none)
    (ho : o.op = .call { callee := .builtin .append, args := #[s, x], argTypes := #[t, t'] }) (hs : a.eval s = vs) (hx : a.eval x = vx)
    (h : wpList P ops Q rest (a.put o.dst v) w') : wpList P ops Q (o :: rest) a w := by
  refine wpList_plain hg fun K hK => ?_
  unfold Oper.wp
  simp [execOp, ho, resolve, invoke, builtin, hs, hx, hr, Result.andThen]
  exact hK _ _ h
def Halted (p : Prop) : Prop := p
theorem halted {p : Prop} (h : Halted p) : p := h
theorem wp_name {P : Program} {c : Code} {Q : Exit → Act → World → Prop} {a : Act} {w : World} (h : ∀ W, W = w → c.wp P Q a W) : c.wp P Q a w := h w rfl
theorem heap_alloc_if (w : World) (o : Obj) (k : Nat) : (w.alloc o).heap[k]? = if k = w.heap.size then some o else w.heap[k]? := by
  simp only [World.alloc, Array.getElem?_push]

/-! ### arrays in a block -/
theorem addr_add (g o i : Nat) : (⟨g, o, none⟩ : Addr).add i = ⟨g, o + i, none⟩ := by unfold Addr.add; split <;> simp_all
theorem run_loadVar_at {P : Program} {w : World} {g o n : Nat} {t ty : TypeId} {cs : Array Value} {fr : Nat × Nat} {d : TypeDesc} (hg : w.heap[g]? = some (.cells cs t fr))
    (hu : P.underlying ty = some d) (hd : (match d with | .struct _ | .array _ _ => true | _ => false) = true) (hi : (P.info? ty).map (·.size) = some n) (hn : o + n ≤ cs.size) :
    (loadVar ty ⟨g, o, none⟩).run P w = .ok (.agg ((cs.toList.drop o).take n).toArray) w := by
  have hlen : ((cs.toList.drop o).take n).length = n := by simp; omega
  have hl := run_loadCells_list (P := P) (w := w) ⟨g, o, none⟩ ((cs.toList.drop o).take n) (fun j v hv => by
      rw [addr_add, cell_at hg]
      rw [List.getElem?_take] at hv
      split at hv
      · simpa using hv
      · cases hv)
  rw [hlen] at hl
  cases hq : P.info? ty with
  | none => simp [hq] at hi
  | some i =>
    have hs : i.size = n := by simpa [hq] using hi
    have hagg : (isAgg ty).run P w = .ok true w := by
      unfold isAgg
      rw [Sem.run_bind, run_underlying hu w]
      cases d <;> simp_all
    simp [loadVar, Sem.run_bind, hagg, sizeOf, typeInfo, hq, hs, hl]
theorem run_storeVar_at {P : Program} {w : World} {g o n : Nat} {t ty : TypeId} {cur cs : Array Value} (hg : w.heap[g]? = some (.cells cur t (0, 0)))
    (hi : (P.info? ty).map (·.size) = some n) (hc : cs.size = n) (hn : o + n ≤ cur.size) (h1 : ∀ v ∈ cs.toList, v.oneCell' = true) :
    (storeVar ty ⟨g, o, none⟩ (.agg cs)).run P w = .ok () (w.setRow g (cur.toList.take o ++ cs.toList ++ cur.toList.drop (o + n)).toArray) := by
  cases hq : P.info? ty with
  | none => simp [hq] at hi
  | some i =>
    have hs : i.size = n := by simpa [hq] using hi
    have hst := run_storeCells_at P g o t cs.toList 0 cur w hg (by simp [hc]; omega) h1
    simp only [Nat.add_zero, Array.length_toList, hc] at hst
    simp [storeVar, sizeOf, typeInfo, hq, hs, Value.cells, hc, hst]
section
variable {P : Program} {ops : Array Oper} {Q : Exit → Act → World → Prop} {a : Act} {w : World} {rest : List Oper} {o : Oper} {g off n : Nat} {t ty : TypeId} {cs cur : Array Value} {fr : Nat × Nat} {d : TypeDesc} {x y : Operand}
theorem wp_loadA {K : Act → World → Prop} (hg : w.heap[g]? = some (.cells cs t fr)) (hu : P.underlying ty = some d) (hd : (match d with | .struct _ | .array _ _ => true | _ => false) = true)
    (hi : (P.info? ty).map (·.size) = some n) (hn : off + n ≤ cs.size) (ho : o.op = .load ty x) (hx : a.eval x = .pointer (some ⟨g, off, none⟩))
    (h : K (a.put o.dst (.agg ((cs.toList.drop off).take n).toArray)) w) : o.wp P a w K Q := by
  unfold Oper.wp execOp
  simp only [ho, hx, Instr.loadAt, Instr.sureAddr, Sem.run_bind, Sem.run_pure, Result.andThen_ok, run_loadVar_at hg hu hd hi hn]
  exact h
/-- A whole block is loaded. -/
theorem wpList_load0 (hg : w.heap[g]? = some (.cells cs t fr)) (hu : P.underlying ty = some d) (hd : (match d with | .struct _ | .array _ _ => true | _ => false) = true)
    (hi : (P.info? ty).map (·.size) = some n) (hn : cs.size = n) (hgd : o.guard = none) (ho : o.op = .load ty x) (hx : a.eval x = .pointer (some ⟨g, 0, none⟩))
    (h : wpList P ops Q rest (a.put o.dst (.agg cs)) w) : wpList P ops Q (o :: rest) a w := by
  refine wpList_plain hgd fun K hK => wp_loadA hg hu hd hi (by omega) ho hx ?_
  have e : ((cs.toList.drop 0).take n).toArray = cs := by
    rw [List.drop_zero, List.take_of_length_le (by simp; omega), Array.toArray_toList]
  rw [e]
  exact hK _ _ h
theorem wpList_loadA (hg : w.heap[g]? = some (.cells cs t fr)) (hu : P.underlying ty = some d) (hd : (match d with | .struct _ | .array _ _ => true | _ => false) = true)
    (hi : (P.info? ty).map (·.size) = some n) (hn : off + n ≤ cs.size) (hgd : o.guard = none) (ho : o.op = .load ty x) (hx : a.eval x = .pointer (some ⟨g, off, none⟩))
    (h : wpList P ops Q rest (a.put o.dst (.agg ((cs.toList.drop off).take n).toArray)) w) : wpList P ops Q (o :: rest) a w :=
  wpList_plain hgd fun K hK => wp_loadA hg hu hd hi hn ho hx (hK _ _ h)
theorem wp_storeA {K : Act → World → Prop} (hg : w.heap[g]? = some (.cells cur t (0, 0))) (hi : (P.info? ty).map (·.size) = some n) (hc : cs.size = n) (hn : off + n ≤ cur.size) (h1 : ∀ v ∈ cs.toList, v.oneCell' = true)
    (ho : o.op = .store ty x y) (hx : a.eval x = .pointer (some ⟨g, off, none⟩)) (hy : a.eval y = .agg cs)
    (h : ∀ w', w'.heap[g]? = some (.cells (cur.toList.take off ++ cs.toList ++ cur.toList.drop (off + n)).toArray t (0, 0)) → Upd (OneS g) w w' → w'.heap.size = w.heap.size → K (a.put o.dst undef) w') : o.wp P a w K Q := by
  unfold Oper.wp execOp
  simp only [ho, hx, hy, Instr.storeAt, Instr.sureAddr, Sem.run_bind, Sem.run_pure, Result.andThen_ok, run_storeVar_at hg hi hc hn h1]
  exact h _ (setRow_heap w g cur _ t _ hg) ((Upd.refl _ w).setRow g _ (fun _ => rfl)) (by simp)
/-- A whole block is stored. -/
theorem wpList_store0 (hg : w.heap[g]? = some (.cells cur t (0, 0))) (hi : (P.info? ty).map (·.size) = some n) (hc : cs.size = n) (hn : cur.size = n) (h1 : ∀ v ∈ cs.toList, v.oneCell' = true)
    (hgd : o.guard = none) (ho : o.op = .store ty x y) (hx : a.eval x = .pointer (some ⟨g, 0, none⟩)) (hy : a.eval y = .agg cs)
    (h : ∀ w', w'.heap[g]? = some (.cells cs t (0, 0)) → Upd (OneS g) w w' → w'.heap.size = w.heap.size → wpList P ops Q rest (a.put o.dst undef) w') : wpList P ops Q (o :: rest) a w := by
  refine wpList_plain hgd fun K hK => wp_storeA hg hi hc (by omega) h1 ho hx hy fun w' h2 h3 h4 => hK _ _ (h w' ?_ h3 h4)
  rw [h2]
  have e : (cur.toList.take 0 ++ cs.toList ++ cur.toList.drop (0 + n)).toArray = cs := by
    rw [List.take_zero, List.nil_append, List.drop_of_length_le (by simp; omega), List.append_nil, Array.toArray_toList]
  rw [e]
end
section
variable {P : Program} {ops : Array Oper} {Q : Exit → Act → World → Prop} {a : Act} {w : World} {rest : List Oper} {o : Oper} {ty : TypeId} {z v : Value} {cs : Array Value} {parts : Array (Nat × Operand)}
/-- A new variable: its block is laid, zero. -/
theorem wpList_allocA (hz : (P.info? ty).map (·.zero) = some (some z)) (hc : z.cells = cs) (hgd : o.guard = none) (ho : o.op = .alloc ty)
    (h : wpList P ops Q rest (a.put o.dst (.pointer (some ⟨w.heap.size, 0, none⟩))) (w.alloc (.cells cs ty))) : wpList P ops Q (o :: rest) a w := by
  refine wpList_plain hgd fun K hK => ?_
  cases hq : P.info? ty with
  | none => simp [hq] at hz
  | some i =>
    have hs : i.zero = some z := by simpa [hq] using hz
    unfold Oper.wp execOp
    simp [ho, Instr.alloc, zeroValue, typeInfo, hq, hs, newVar, newRow, hc]
    exact hK _ _ h
/-- A value is built. -/
theorem wpList_build (hgd : o.guard = none) (ho : o.op = .build ty parts) (hr : (Instr.build ty (parts.map fun (i, x) => (i, a.eval x))).run P w = .ok v w)
    (h : wpList P ops Q rest (a.put o.dst v) w) : wpList P ops Q (o :: rest) a w := by
  refine wpList_plain hgd fun K hK => ?_
  unfold Oper.wp execOp
  simp only [ho, Sem.run_bind, hr, Result.andThen_ok, Sem.run_pure]
  exact hK _ _ h
end
theorem run_index_one {P : Program} {T e : TypeId} {len i : Nat} {d : TypeDesc} {cs : Array Value} {v : Value} {k : IntKind} (hT : P.underlying T = some (.array len e)) (he : P.underlying e = some d)
    (hd : (match d with | .struct _ | .array _ _ => false | _ => true) = true) (hs : (P.info? e).map (·.size) = some 1) (hi : i < len) (hv : cs[i]? = some v) (w : World) :
    (Instr.index T (.agg cs) (.int k (i : Int))).run P w = .ok v w := by
  cases hq : P.info? e with
  | none => simp [hq] at hs
  | some inf =>
    have hsz : inf.size = 1 := by simpa [hq] using hs
    have hagg : (isAgg e).run P w = .ok false w := by
      unfold isAgg
      rw [Sem.run_bind, run_underlying he w]
      cases d <;> simp_all
    simp [Instr.index, asIntOf, run_underlying hT, hi, sizeOf, typeInfo, hq, hsz, part, hagg, hv]
theorem cell_upd {S : Nat → Prop} {w w' wr : World} {a : Addr} (h : Upd NoS w w') (hc : w.cell? a = wr.cell? a) (hb : (wr.cell? a).isSome) : w'.cell? a = wr.cell? a := by
  obtain ⟨v, hv⟩ := Option.isSome_iff_exists.1 hb
  rw [hv] at hc ⊢
  exact h.cell hc id
theorem Upd.free {S : Nat → Prop} {w w' : World} (h : Upd S w w') {a : Addr} {v : Value} (hc : w.cell? a = some v) (hf : w.frozen? a = false) (hn : ¬ S a.block) : w'.frozen? a = false :=
  (World.frozen?_of_block (h.block a.block (block_lt_of_cell hc) hn)).trans hf
theorem cell_set_ne {w : World} {a b : Addr} (h : a ≠ b) (v : Value) : (w.setCell a v).cell? b = w.cell? b := World.cell?_setCell_other w a b v h
end Go.Proofs.Ytomgdfoahfhijaa

/- disk: how it stands, its counts. -/
import Derived.Test.YtomgdfoahfhijaaMap
set_option linter.unusedVariables false
set_option linter.unusedSimpArgs false
namespace Go.Proofs.Ytomgdfoahfhijaa
open Go.RowKit

/-- How a disk stands. -/
structure Dk where
  size : Int
  firm : Ents
  loose : List (Int × List UInt8)
  out : Bool
  arms : Bool × Int
  fails : Bool × Int
  ops : Int

def CountOk (c : Bool × Int) : Prop := (c.1 = true → 0 ≤ c.2) ∧ -9223372036854775808 ≤ c.2 ∧ c.2 ≤ 9223372036854775807
structure Dk.Ok (D : Dk) : Prop where
  size1 : 1 ≤ D.size
  size2 : D.size ≤ 2048
  firm : ∀ p ∈ D.firm, p.2.length = 64
  loose : ∀ p ∈ D.loose, p.2.length = 64
  arms : CountOk D.arms
  fails : CountOk D.fails
  ops : -9223372036854775808 ≤ D.ops ∧ D.ops ≤ 9223372036854775807

def wrote (p : Int × List UInt8) : List Value := .int .i64 p.1 :: bvs p.2
def Dk.cells (D : Dk) (m : Nat) (v : Value) : Array Value :=
  #[.int .i64 D.size, .map (some m), v, .bool D.out, .bool D.arms.1, .int .i64 D.arms.2, .bool D.fails.1, .int .i64 D.fails.2, .int .i64 D.ops]
/-- Block d is a disk that stands as D; S: the blocks that it lies in. -/
def IsDisk (w : World) (d : Nat) (D : Dk) (S : Nat → Prop) : Prop :=
  ∃ m v, (∀ k, S k ↔ k = d ∨ k = m ∨ v.ownBlock = some k) ∧ w.heap[d]? = some (.cells (D.cells m v) 102 (0, 0)) ∧ IsMap w m D.firm ∧ w.ownsRow 0 108 65 v D.loose.length (D.loose.flatMap wrote) ∧ D.Ok

theorem own_upd {w w' : World} {base e size n : Nat} {v : Value} {xs : List Value} {S : Nat → Prop} (h : w.ownsRow base e size v n xs) (hu : Upd S w w') (hs : ∀ k, v.ownBlock = some k → ¬ S k) : w'.ownsRow base e size v n xs := by
  rcases h.2 with h2 | ⟨g, cap, cur, rfl, hb, hh, hr⟩
  · exact ⟨h.1, .inl h2⟩
  · exact ⟨h.1, .inr ⟨g, cap, cur, rfl, hb, hu.heap hh (hs g rfl), hr⟩⟩
theorem IsMap.upd {w w' : World} {m : Nat} {es : Ents} {S : Nat → Prop} (h : IsMap w m es) (hu : Upd S w w') (hs : ¬ S m) : IsMap w' m es := by
  obtain ⟨arr, clock, hh, he⟩ := h
  exact ⟨arr, clock, hu.heap hh hs, he⟩
theorem IsMap.lt {w : World} {m : Nat} {es : Ents} (h : IsMap w m es) : m < w.heap.size := by
  obtain ⟨arr, clock, hh, he⟩ := h
  exact lt_of_heap hh
theorem own_lt {w : World} {base e size n : Nat} {v : Value} {xs : List Value} (h : w.ownsRow base e size v n xs) : ∀ k, v.ownBlock = some k → k < w.heap.size := by
  rcases h.2 with h2 | ⟨g, cap, cur, rfl, hb, hh, hr⟩
  · rintro k hk; rw [h2.1] at hk; cases hk
  · rintro k hk; cases hk; exact lt_of_heap hh
theorem own_ne {w : World} {base e size n r : Nat} {v : Value} {xs : List Value} (h : w.ownsRow base e size v n xs) {cs : Array Value} {t : TypeId} {fr : Nat × Nat} (hr : w.heap[r]? = some (.cells cs t fr)) (hne : t ≠ e) : ∀ k, v.ownBlock = some k → k ≠ r := by
  rcases h.2 with h2 | ⟨g, cap, cur, rfl, hb, hh, _⟩
  · rintro k hk; rw [h2.1] at hk; cases hk
  · rintro k hk rfl; cases hk; rw [hh] at hr; cases hr; exact hne rfl

/-- The disk stands, whatever else is turned. -/
theorem IsDisk.upd {w w' : World} {d : Nat} {D : Dk} {S T : Nat → Prop} (h : IsDisk w d D S) (hu : Upd T w w') (hs : ∀ k, S k → ¬ T k) : IsDisk w' d D S := by
  obtain ⟨m, v, hS, hd, hm, hv, ho⟩ := h
  exact ⟨m, v, hS, hu.heap hd (hs d ((hS d).2 (.inl rfl))), hm.upd hu (hs m ((hS m).2 (.inr (.inl rfl)))), own_upd hv hu (fun k hk => hs k ((hS k).2 (.inr (.inr hk)))), ho⟩
theorem IsDisk.updNo {w w' : World} {d : Nat} {D : Dk} {S : Nat → Prop} (h : IsDisk w d D S) (hu : Upd NoS w w') : IsDisk w' d D S := h.upd hu fun _ _ h => h
theorem IsDisk.lt {w : World} {d : Nat} {D : Dk} {S : Nat → Prop} (h : IsDisk w d D S) : ∀ k, S k → k < w.heap.size := by
  obtain ⟨m, v, hS, hd, hm, hv, ho⟩ := h
  intro k hk
  rcases (hS k).1 hk with rfl | rfl | h3
  · exact lt_of_heap hd
  · exact hm.lt
  · exact own_lt hv k h3
theorem IsDisk.ok {w : World} {d : Nat} {D : Dk} {S : Nat → Prop} (h : IsDisk w d D S) : D.Ok := by
  obtain ⟨m, v, hS, hd, hm, hv, ho⟩ := h; exact ho
theorem IsDisk.self {w : World} {d : Nat} {D : Dk} {S : Nat → Prop} (h : IsDisk w d D S) : S d := by
  obtain ⟨m, v, hS, hd, hm, hv, ho⟩ := h; exact (hS d).2 (.inl rfl)
/-- Its struct alone is turned. -/
theorem IsDisk.put {w w' : World} {d : Nat} {D D' : Dk} {m : Nat} {v : Value} {S : Nat → Prop} (hS : ∀ k, S k ↔ k = d ∨ k = m ∨ v.ownBlock = some k) (hd : w.heap[d]? = some (.cells (D.cells m v) 102 (0, 0))) (hm : IsMap w m D.firm)
    (hv : w.ownsRow 0 108 65 v D.loose.length (D.loose.flatMap wrote)) (hu : Upd (OneS d) w w') (hd' : w'.heap[d]? = some (.cells (D'.cells m v) 102 (0, 0))) (h1 : D'.firm = D.firm) (h2 : D'.loose = D.loose) (ho : D'.Ok) : IsDisk w' d D' S := by
  refine ⟨m, v, hS, hd', ?_, ?_, ho⟩
  · rw [h1]
    refine hm.upd hu ?_
    intro e
    obtain ⟨arr, clock, hh, _⟩ := hm
    rw [show m = d from e, hd] at hh
    cases hh
  · rw [h2]
    exact own_upd hv hu (fun k hk e => own_ne hv hd (by decide) k hk e)

theorem set_same {cs : Array Value} {i : Nat} {v : Value} (h : cs[i]? = some v) : cs.setIfInBounds i v = cs := by
  obtain ⟨hi, hv⟩ := Array.getElem?_eq_some_iff.1 h
  apply Array.ext_getElem?
  intro j
  rw [Array.getElem?_setIfInBounds]
  split
  · subst_vars; simp [hi]
  · rfl
def metB (c : Bool × Int) : Bool := c.1 && (c.2 == 0)
def metC (c : Bool × Int) : Bool × Int := if c.1 then (if c.2 = 0 then (false, 0) else (true, c.2 - 1)) else c
theorem metC_ok {c : Bool × Int} (h : CountOk c) : CountOk (metC c) := by
  obtain ⟨b, n⟩ := c
  obtain ⟨h1, h2, h3⟩ := h
  simp only [metC, CountOk] at *
  split
  · split <;> simp_all <;> omega
  · exact ⟨h1, h2, h3⟩

set_option maxRecDepth 100000 in
theorem dskMet (w : World) (g i : Nat) (c : Bool × Int) (cs : Array Value) (t : TypeId) (hg : w.heap[g]? = some (.cells cs t (0, 0))) (h0 : cs[i]? = some (.bool c.1)) (h1 : cs[i + 1]? = some (.int .i64 c.2)) (hc : CountOk c) :
    Calls Try.prog 82 #[.pointer (some ⟨g, i, none⟩)] w fun e w' => e = .returned (.bool (metB c)) ∧ w'.heap[g]? = some (.cells ((cs.setIfInBounds i (.bool (metC c).1)).setIfInBounds (i + 1) (.int .i64 (metC c).2)) t (0, 0)) ∧ Upd (OneS g) w w' ∧ w'.heap.size = w.heap.size := by
  obtain ⟨b, n⟩ := c
  obtain ⟨hc1, hc2, hc3⟩ := hc
  simp only at hc1 hc2 hc3 h0 h1
  have c0 : w.cell? ⟨g, i, none⟩ = some (.bool b) := by rw [cell_at hg]; exact h0
  have c1 : w.cell? ⟨g, i + 1, none⟩ = some (.int .i64 n) := by rw [cell_at hg]; exact h1
  have f0 := free_at hg i
  have f1 := free_at hg (i + 1)
  have HG := Lib.hid hg
  have H0 := Lib.hid h0
  have H1 := Lib.hid h1
  clear hg h0 h1
  cases b with
  | false =>
    go_enter Try.func82, Try.ntmps82
    go_wp2
    go_ret
    refine ⟨rfl, ?_, Upd.refl _ _, rfl⟩
    rw [HG.out]
    simp only [metC, Bool.false_eq_true, if_false]
    rw [set_same H0.out, set_same H1.out]
  | true =>
    have hn0 := hc1 rfl
    by_cases hn : n = 0
    · subst hn
      go_enter Try.func82, Try.ntmps82
      go_wp2
      go_ret
      exact ⟨rfl, heap_set (heap_set HG.out _ _) _ _, ((Upd.refl (OneS g) w).setCell ⟨g, i, none⟩ _ (fun _ => rfl)).setCell ⟨g, i + 1, none⟩ _ (fun _ => rfl), by simp [World.setCell]⟩
    · have hnn : (n == 0) = false := by simpa using hn
      have hpos : 0 < n := by omega
      go_enter Try.func82, Try.ntmps82
      go_wp2
      go_ret
      have em : metC (true, n) = (true, n - 1) := by simp [metC, hn]
      rw [em, set_same H0.out]
      exact ⟨by simp [metB, hnn], heap_set HG.out _ _, (Upd.refl (OneS g) w).setCell ⟨g, i + 1, none⟩ _ (fun _ => rfl), by simp [World.setCell]⟩

theorem infoBlock : (Try.prog.info? 80).map (·.zero) = some (some (blockV (List.replicate 64 0))) := by kernel_rfl
theorem zeroBlock (w : World) : (zeroValue 80).run Try.prog w = .ok (blockV (List.replicate 64 0)) w := by
  obtain ⟨i, hi, hz⟩ := Option.map_eq_some_iff.1 infoBlock
  simp [zeroValue, typeInfo, hi, hz]
def Dk.new (n : Int) : Dk := ⟨n, [], [], false, (false, 0), (false, 0), 0⟩
set_option maxRecDepth 100000 in
theorem dskNew (w : World) (n : Int) (hn1 : 1 ≤ n) (hn2 : n ≤ 2048) :
    Calls Try.prog 40 #[.int .i64 n] w fun e w' => e = .returned (.tuple #[.pointer (some ⟨w.heap.size + 1, 0, none⟩), .int .i64 0]) ∧ IsDisk w' (w.heap.size + 1) (Dk.new n) (fun k => k = w.heap.size + 1 ∨ k = w.heap.size) ∧ Upd NoS w w' := by
  go_enter Try.func40, Try.ntmps40
  go_wp2
  rw [run_makeMap]
  go_wp2
  go_ret2
  refine ⟨by simp, ⟨w.heap.size, .slice none 0 0, ?_, heap_new' (by simp), ⟨#[], 0, heap_old (heap_new _ _), rfl⟩, ⟨rfl, .inl ⟨rfl, rfl⟩⟩, ?_⟩, ((Upd.refl NoS w).alloc _).alloc _⟩
  · intro k; simp [Value.ownBlock]
  · exact ⟨hn1, hn2, (fun p hp => by cases hp), (fun p hp => by cases hp), by simp [Dk.new, CountOk], by simp [Dk.new, CountOk], by simp [Dk.new]⟩
set_option maxRecDepth 100000 in
theorem dskLen (w : World) (d : Nat) (D : Dk) (S : Nat → Prop) (h : IsDisk w d D S) :
    Calls Try.prog 61 #[.pointer (some ⟨d, 0, none⟩)] w fun e w' => e = .returned (.int .i64 D.size) ∧ w' = w := by
  obtain ⟨m, v, hS, hd, hm, hv, ho⟩ := h
  have c0 := cell_at hd 0
  simp only [Dk.cells, List.getElem?_toArray, List.getElem?_cons_zero, List.getElem?_cons_succ] at c0
  clear hS hd hm hv ho
  go_enter Try.func61, Try.ntmps61
  go_wp2
  go_ret
  exact ⟨rfl, rfl⟩
set_option maxRecDepth 100000 in
theorem dskPowered (w : World) (d : Nat) (D : Dk) (S : Nat → Prop) (h : IsDisk w d D S) :
    Calls Try.prog 55 #[.pointer (some ⟨d, 0, none⟩)] w fun e w' => e = .returned (.int .i64 (if D.out then 9 else 0)) ∧ w' = w := by
  obtain ⟨m, v, hS, hd, hm, hv, ho⟩ := h
  have c3 := cell_at hd 3
  simp only [Dk.cells, List.getElem?_toArray, List.getElem?_cons_zero, List.getElem?_cons_succ] at c3
  obtain ⟨b, hb⟩ : ∃ b, b = D.out := ⟨_, rfl⟩
  rw [← hb] at c3 ⊢
  clear hS hd hm hv ho hb
  cases b <;>
  · go_enter Try.func55, Try.ntmps55
    go_wp2
    go_ret
    exact ⟨rfl, rfl⟩
set_option maxRecDepth 100000 in
theorem dskDead (w : World) (d : Nat) (D : Dk) (S : Nat → Prop) (h : IsDisk w d D S) :
    Calls Try.prog 39 #[.pointer (some ⟨d, 0, none⟩)] w fun e w' => e = .returned (.bool D.out) ∧ w' = w := by
  obtain ⟨m, v, hS, hd, hm, hv, ho⟩ := h
  have c3 := cell_at hd 3
  simp only [Dk.cells, List.getElem?_toArray, List.getElem?_cons_zero, List.getElem?_cons_succ] at c3
  clear hS hd hm hv ho
  go_enter Try.func39, Try.ntmps39
  go_wp2
  go_ret
  exact ⟨rfl, rfl⟩

/-- Why something is not done, or 0; and how the disk stands then. -/
def Dk.ask (D : Dk) (at_ : Int) (lays : Bool) : Int × Dk :=
  if D.out then (9, D)
  else if at_ < 0 ∨ D.size ≤ at_ then (2, D)
  else if metB D.fails then (8, { D with fails := metC D.fails })
  else if lays then (if metB D.arms then (9, { D with fails := metC D.fails, arms := metC D.arms, out := true }) else (0, { D with fails := metC D.fails, arms := metC D.arms }))
  else (0, { D with fails := metC D.fails })
theorem Dk.ask_ok {D : Dk} (h : D.Ok) (at_ : Int) (lays : Bool) : (D.ask at_ lays).2.Ok := by
  obtain ⟨h1, h2, h3, h4, h5, h6, h7⟩ := h
  unfold Dk.ask
  repeat' split
  all_goals exact ⟨h1, h2, h3, h4, by first | exact h5 | exact metC_ok h5, by first | exact h6 | exact metC_ok h6, h7⟩
def Dk.op (D : Dk) : Dk := { D with ops := IntKind.i64.wrap (D.ops + 1) }
def Dk.row (D : Dk) : Ents × List (Int × List UInt8) := (D.firm, D.loose)
end Go.Proofs.Ytomgdfoahfhijaa

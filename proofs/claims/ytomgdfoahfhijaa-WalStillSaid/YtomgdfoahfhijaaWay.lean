/- wal: what a log tells of itself; refuses, breaks. -/
import Derived.Test.YtomgdfoahfhijaaWax
set_option linter.unusedVariables false
set_option linter.unusedSimpArgs false
namespace Go.Proofs.Ytomgdfoahfhijaa
open Go.RowKit

theorem IsWal.cells {w : World} {p d : Nat} {D : Dk} {S : Nat → Prop} {L : Wl} (h : IsWal w p d D S L) : ∃ a n c, w.heap[p]? = some (.cells (walC d L (.slice a n c)) 73 (0, 0)) ∧ IsSaid w (.slice a n c) L.said (fun k => S k ∨ k = p) ∧ n = L.said.length ∧ n ≤ c := by
  obtain ⟨_, _, _, vs, h4, h5⟩ := h
  obtain ⟨vals, h6, h7⟩ := h5
  obtain ⟨a, c, rfl, hc, _⟩ := h6.any
  exact ⟨a, L.said.length, c, h4, ⟨vals, h6, h7⟩, rfl, hc⟩
theorem IsWal.ok {w : World} {p d : Nat} {D : Dk} {S : Nat → Prop} {L : Wl} (h : IsWal w p d D S L) : L.Ok := h.2.2.1
theorem IsWal.disk {w : World} {p d : Nat} {D : Dk} {S : Nat → Prop} {L : Wl} (h : IsWal w p d D S L) : IsDisk w d D S := h.1
section
variable (w : World) (p d : Nat) (D : Dk) (S : Nat → Prop) (L : Wl)
theorem walLeftNil : Calls Try.prog 18 #[.pointer none] w fun e w' => e = .returned (.int .i64 0) ∧ w' = w := by
  go_enter Try.func18, Try.ntmps18
  go_wp2
  go_ret
  exact ⟨rfl, rfl⟩
theorem walTurnNil : Calls Try.prog 19 #[.pointer none] w fun e w' => e = .returned (.int .u32 0) ∧ w' = w := by
  go_enter Try.func19, Try.ntmps19
  go_wp2
  go_ret
  exact ⟨rfl, rfl⟩
theorem walLenNil : Calls Try.prog 27 #[.pointer none] w fun e w' => e = .returned (.int .i64 0) ∧ w' = w := by
  go_enter Try.func27, Try.ntmps27
  go_wp2
  go_ret
  exact ⟨rfl, rfl⟩
theorem walDiskNil : Calls Try.prog 28 #[.pointer none] w fun e w' => e = .returned (.pointer none) ∧ w' = w := by
  go_enter Try.func28, Try.ntmps28
  go_wp2
  go_ret
  exact ⟨rfl, rfl⟩
theorem walBrokenNil : Calls Try.prog 20 #[.pointer none] w fun e w' => e = .returned (.bool false) ∧ w' = w := by
  go_enter Try.func20, Try.ntmps20
  go_wp2
  go_ret
  exact ⟨rfl, rfl⟩
theorem walSnapNil : Calls Try.prog 26 #[.pointer none] w fun e w' => e = .returned (.slice none 0 0) ∧ w' = w := by
  go_enter Try.func26, Try.ntmps26
  go_wp2
  go_ret
  exact ⟨rfl, rfl⟩
theorem walRefNil (v : Value) : Calls Try.prog 51 #[.pointer none, v] w fun e w' => e = .returned (.int .i64 1) ∧ w' = w := by
  go_enter Try.func51, Try.ntmps51
  go_wp2
  go_ret
  exact ⟨rfl, rfl⟩
variable (h : IsWal w p d D S L)
include h
set_option maxRecDepth 100000 in
theorem walLeft : Calls Try.prog 18 #[.pointer (some ⟨p, 0, none⟩)] w fun e w' => e = .returned (.int .i64 (L.n - L.fin)) ∧ Upd NoS w w' := by
  obtain ⟨a, n, c, hc, _⟩ := h.cells
  have hok := h.ok
  have h1 := hok.n0
  have h2 := hok.n1
  have h3 := hok.f1
  have h4 : 0 ≤ L.fin := by have := hok.s1; omega
  have h5 : IntKind.i64.wrap (L.n - L.fin) = L.n - L.fin := by rw [IntKind.wrap_i64]; omega
  have MK : Hid (∀ w', Upd NoS w w' → w'.cell? ⟨p, 1, none⟩ = some (.int .i64 L.n) ∧ w'.cell? ⟨p, 4, none⟩ = some (.int .i64 L.fin)) := Lib.hid fun w' hu => ⟨cell_at (hu.heap hc id) 1, cell_at (hu.heap hc id) 4⟩
  clear hc h hok
  go_enter Try.func18, Try.ntmps18
  go_wp2
  refine wp_region_canon (fun w' => Upd NoS w w') 10 1 [] [0, 1, 2, 3, 4, 5, 6, 7, 8, 9] rfl (by kernel_rfl) (by decide) (by kernel_rfl) (by kernel_rfl) (by kernel_rfl) (by kernel_rfl) (by kernel_rfl) ((Upd.refl _ _).drew) ?_
  simp only [List.take_succ_cons, List.take_zero, List.drop_succ_cons, List.drop_zero, pick, List.getElem?_cons_succ, List.getElem?_cons_zero, Nat.reduceBEq, List.contains_cons, List.contains_nil, Bool.or_self, Bool.or_false, Bool.or_true, Bool.true_or, Bool.false_or]
  repeat (refine wpD_quiet ?_ (fun w' hS => ?_) ?_; rotate_left; (· obtain ⟨f0, f1⟩ := MK.out w' hS; go_simp; (try with_reducible rfl)); (try simp only [Act.put, List.setIfInBounds_toArray, List.set_cons_succ, List.set_cons_zero]))
  refine wpD_nil ?_
  go_wp2
  refine NoPanic.normal ?_
  go_wp2
  go_ret
  exact ⟨rfl, (Upd.refl _ _).drew⟩
set_option maxRecDepth 100000 in
theorem walTurn : Calls Try.prog 19 #[.pointer (some ⟨p, 0, none⟩)] w fun e w' => e = .returned (.int .u32 L.turn) ∧ Upd NoS w w' := by
  obtain ⟨a, n, c, hc, _⟩ := h.cells
  have q2 : w.cell? ⟨p, 2, none⟩ = some (.int .u32 L.turn) := cell_at hc 2
  clear hc h
  go_enter Try.func19, Try.ntmps19
  go_wp2
  go_ret
  exact ⟨rfl, Upd.refl _ _⟩
set_option maxRecDepth 100000 in
theorem walBroken : Calls Try.prog 20 #[.pointer (some ⟨p, 0, none⟩)] w fun e w' => e = .returned (.bool L.broken) ∧ Upd NoS w w' := by
  obtain ⟨a, n, c, hc, _⟩ := h.cells
  have q2 : w.cell? ⟨p, 5, none⟩ = some (.bool L.broken) := cell_at hc 5
  clear hc h
  go_enter Try.func20, Try.ntmps20
  go_wp2
  go_ret
  exact ⟨rfl, Upd.refl _ _⟩
set_option maxRecDepth 100000 in
theorem walDisk : Calls Try.prog 28 #[.pointer (some ⟨p, 0, none⟩)] w fun e w' => e = .returned (.pointer (some ⟨d, 0, none⟩)) ∧ Upd NoS w w' := by
  obtain ⟨a, n, c, hc, _⟩ := h.cells
  have q2 : w.cell? ⟨p, 0, none⟩ = some (.pointer (some ⟨d, 0, none⟩)) := cell_at hc 0
  clear hc h
  go_enter Try.func28, Try.ntmps28
  go_wp2
  go_ret
  exact ⟨rfl, Upd.refl _ _⟩
set_option maxRecDepth 100000 in
theorem walLen : Calls Try.prog 27 #[.pointer (some ⟨p, 0, none⟩)] w fun e w' => e = .returned (.int .i64 (L.said.length - 1)) ∧ Upd NoS w w' := by
  obtain ⟨a, n, c, hc, _, rfl, _⟩ := h.cells
  have q2 : w.cell? ⟨p, 3, none⟩ = some (.slice a L.said.length c) := cell_at hc 3
  have h1 := h.ok.s0
  have h2 := h.ok.s1
  have h3 := h.ok.f1
  have h4 := h.ok.n1
  clear hc h
  go_enter Try.func27, Try.ntmps27
  go_wp2
  go_ret
  exact ⟨rfl, Upd.refl _ _⟩
def Wl.refuses (L : Wl) (n : Int) : Int := if 40000 < n then 3 else if L.broken then 8 else 0
set_option maxRecDepth 100000 in
theorem walRefuses (a : Option Addr) (n c : Nat) (hn : n ≤ maxLen) : Calls Try.prog 51 #[.pointer (some ⟨p, 0, none⟩), .slice a n c] w fun e w' => e = .returned (.int .i64 (L.refuses n)) ∧ w' = w := by
  obtain ⟨_, _, _, hc, _⟩ := h.cells
  have q2 : w.cell? ⟨p, 5, none⟩ = some (.bool L.broken) := cell_at hc 5
  clear hc h
  unfold Wl.refuses
  by_cases h1 : 40000 < (n : Int)
  · rw [if_pos h1]
    go_enter Try.func51, Try.ntmps51
    go_wp2
    go_ret
    exact ⟨rfl, rfl⟩
  · rw [if_neg h1]
    cases hb : L.broken
    · rw [hb] at q2
      clear hb
      have h2 : (n : Int) ≤ 40000 := by omega
      go_enter Try.func51, Try.ntmps51
      go_wp2
      go_ret
      exact ⟨rfl, rfl⟩
    · rw [hb] at q2
      clear hb
      have h2 : (n : Int) ≤ 40000 := by omega
      go_enter Try.func51, Try.ntmps51
      go_wp2
      go_ret
      exact ⟨rfl, rfl⟩
end
theorem walBreaks (w : World) (p b : Nat) (cs : Array Value) (e : Int) (hp : w.heap[p]? = some (.cells cs 73 (0, 0))) (h5 : 5 < cs.size) (hb : w.heap[b]? = some (.cells #[.int .i64 e] 38 (0, 0))) :
    Calls Try.prog 52 #[.pointer (some ⟨p, 0, none⟩), .pointer (some ⟨b, 0, none⟩)] w fun r w' => (∃ v, r = .returned v) ∧ w' = if e = 0 then w else w.setCell ⟨p, 5, none⟩ (.bool true) := by
  have q1 := cell_at hb 0
  simp only [List.getElem?_toArray, List.getElem?_cons_zero] at q1
  have q2 := cell_at hp 5
  rw [Array.getElem?_eq_getElem h5] at q2
  have r2 := free_at hp 5
  by_cases h0 : e = 0
  · rw [if_pos h0]
    subst h0
    clear hp hb
    go_enter Try.func52, Try.ntmps52
    go_wp2
    go_end0
    exact ⟨⟨_, rfl⟩, rfl⟩
  · rw [if_neg h0]
    have hne : (e == 0) = false := by simpa using h0
    clear hp hb
    go_enter Try.func52, Try.ntmps52
    go_wp2
    go_end0
    exact ⟨⟨_, rfl⟩, rfl⟩
end Go.Proofs.Ytomgdfoahfhijaa

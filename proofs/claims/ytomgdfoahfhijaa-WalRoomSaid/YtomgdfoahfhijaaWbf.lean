/- wal: Open: what is found. -/
import Derived.Test.YtomgdfoahfhijaaWbe
set_option linter.unusedVariables false
set_option linter.unusedSimpArgs false
namespace Go.Proofs.Ytomgdfoahfhijaa
open Go.RowKit

def Dk.fieldOf (fr : Int) : Nat → Nat → Dk → List (List UInt8) → Int × List (List UInt8) × Dk
  | 0, _, D, acc => (0, acc, D)
  | n + 1, i, D, acc => if (D.read (fr + i)).2.1 = 0 then Dk.fieldOf fr n (i + 1) (D.read (fr + i)).2.2 (acc ++ [(D.read (fr + i)).1]) else ((D.read (fr + i)).2.1, [], (D.read (fr + i)).2.2)
def saidGo (turn : Int) (f : List (List UInt8)) : Nat → List (List UInt8) → Nat → List (List UInt8) × Nat
  | 0, said, fin => (said, fin)
  | n + 1, said, fin => match standsOf turn f fin said.length with
    | none => (said, fin)
    | some l => saidGo turn f n (said ++ [l]) (fin + (sectorsOf l.length).toNat)
def foundL (n turn : Int) (f : List (List UInt8)) : Wl := ⟨n, turn, (saidGo turn f (f.length + 1) [] 0).1, (saidGo turn f (f.length + 1) [] 0).2, false⟩
def Dk.openF (D : Dk) (n turn : Int) (f : List (List UInt8)) : Int × Dk × Option Wl :=
  if (foundL n turn f).said = [] then (140, D, none)
  else if (D.clears (foundL n turn f) f).1 = 0 then (0, (D.clears (foundL n turn f) f).2, some (foundL n turn f))
  else ((D.clears (foundL n turn f) f).1, (D.clears (foundL n turn f) f).2, none)
def Dk.openR (D : Dk) (b : Int × Int) : Int × Dk × Option Wl :=
  if (Dk.fieldOf (fromOf b.1 b.2) b.1.toNat 0 D []).1 = 0 then (Dk.fieldOf (fromOf b.1 b.2) b.1.toNat 0 D []).2.2.openF b.1 b.2 (Dk.fieldOf (fromOf b.1 b.2) b.1.toNat 0 D []).2.1
  else ((Dk.fieldOf (fromOf b.1 b.2) b.1.toNat 0 D []).1, (Dk.fieldOf (fromOf b.1 b.2) b.1.toNat 0 D []).2.2, none)
def Dk.opens (D : Dk) : Int × Dk × Option Wl :=
  match D.counts.2.1 with
  | none => (D.counts.1, D.counts.2.2, none)
  | some b => D.counts.2.2.openR b

/-! ### what counts has found -/
def BookOk (b : Int × Int) : Prop := 4 ≤ b.1 ∧ b.1 ≤ 1000 ∧ 0 ≤ b.2 ∧ b.2 < 4294967296
theorem titleAt_ok {size k : Int} {s : List UInt8} {best : Option (Int × Int)} (hs : s.length = 64) (hb : ∀ b, best = some b → BookOk b) {b : Int × Int} (h : titleAt size k s best = some b) : BookOk b := by
  unfold titleAt at h
  split at h
  · rename_i hc
    cases h
    simp only [Bool.and_eq_true] at hc
    obtain ⟨⟨⟨h1, _⟩, _⟩, _⟩ := hc
    unfold mayB at h1
    simp only [Bool.and_eq_true, decide_eq_true_eq] at h1
    obtain ⟨h2, h3⟩ := titleT_bounds hs
    exact ⟨h1.1.1, h1.1.2, h2, h3⟩
  · exact hb b h
theorem Dk.read_ok {D : Dk} (h : D.Ok) (k : Int) : (D.read k).2.2.Ok := by
  have h1 := Dk.ask_ok h k false
  unfold Dk.read
  split
  · exact ⟨h1.size1, h1.size2, h1.firm, h1.loose, h1.arms, h1.fails, wrap_bounds _⟩
  · exact h1
theorem count1_ok {D : Dk} (h : D.Ok) (k : Int) (best : Option (Int × Int)) (hb : ∀ b, best = some b → BookOk b) : (∀ b, (D.count1 k best).2.1 = some b → BookOk b ∧ (D.count1 k best).1 = 0) ∧ (D.count1 k best).2.2.Ok := by
  unfold Dk.count1
  split
  · exact ⟨fun b hb' => ⟨titleAt_ok (length_read h k) hb hb', rfl⟩, Dk.read_ok h k⟩
  · exact ⟨fun b hb' => (by cases hb'), Dk.read_ok h k⟩
theorem counts_ok {D : Dk} (h : D.Ok) : (∀ b, D.counts.2.1 = some b → BookOk b ∧ D.counts.1 = 0) ∧ (D.counts.2.1 = none → D.counts.1 ≠ 0) := by
  obtain ⟨h1, h2⟩ := count1_ok h 0 none (fun b hb => by cases hb)
  unfold Dk.counts
  by_cases e0 : (D.count1 0 none).1 = 0
  · rw [if_pos e0]
    obtain ⟨h3, h4⟩ := count1_ok h2 1 (D.count1 0 none).2.1 (fun b hb => (h1 b hb).1)
    by_cases e1 : ((D.count1 0 none).2.2.count1 1 (D.count1 0 none).2.1).1 = 0
    · rw [if_pos e1]
      cases hc : ((D.count1 0 none).2.2.count1 1 (D.count1 0 none).2.1).2.1 with
      | none => exact ⟨fun b hb => (by cases hb), fun _ => (show (140 : Int) ≠ 0 by decide)⟩
      | some b => exact ⟨fun b' hb => (by cases hb; exact ⟨(h3 b hc).1, rfl⟩), fun hb => (by cases hb)⟩
    · rw [if_neg e1]
      exact ⟨fun b hb => absurd (h3 b hb).2 e1, fun _ => e1⟩
  · rw [if_neg e0]
    exact ⟨fun b hb => absurd (h1 b hb).2 e0, fun _ => e0⟩
theorem counts_loose (D : Dk) : D.counts.2.2.loose = D.loose := by
  have h1 : ∀ (D : Dk) k b, (D.count1 k b).2.2.loose = D.loose := fun D k b => by
    unfold Dk.count1
    split <;> exact Dk.read_loose D k
  unfold Dk.counts
  split
  · split
    · split <;> exact (h1 _ _ _).trans (h1 _ _ _)
    · exact (h1 _ _ _).trans (h1 _ _ _)
  · exact h1 _ _ _
/-! ### what stands -/
theorem length_allOf {f : List (List UInt8)} (hf : ∀ s ∈ f, s.length = 64) (at_ many : Nat) (h : at_ + many ≤ f.length) : (allOf f at_ many).length = 48 * many := by
  unfold allOf
  have h2 : ∀ l : List (List UInt8), (∀ s ∈ l, s.length = 64) → (l.flatMap (fun s => s.drop 16)).length = 48 * l.length := by
    intro l
    induction l with
    | nil => intro _; rfl
    | cons s l ih =>
      intro hl
      rw [List.flatMap_cons, List.length_append, ih (fun x hx => hl x (List.mem_cons_of_mem _ hx)), List.length_drop, hl s (List.mem_cons_self ..), List.length_cons]
      omega
  rw [h2 _ (fun s hs => hf s (List.mem_of_mem_drop (List.mem_of_mem_take hs))), List.length_take, List.length_drop]
  omega
theorem stands_some {turn : Int} {f : List (List UInt8)} (hf : ∀ s ∈ f, s.length = 64) {at_ number : Nat} {l : List UInt8} (h : standsOf turn f at_ number = some l) : at_ + (sectorsOf l.length).toNat ≤ f.length ∧ 1 ≤ sectorsOf l.length ∧ l.length ≤ 40000 := by
  unfold standsOf at h
  split at h
  · cases h
  · rename_i s hs
    split at h
    · cases h
    · rename_i hn
      split at h
      · rename_i hm
        cases h
        have hsz : ∃ mk : Nat, sectorsOf (sizeAt s) = (mk : Int) ∧ 1 ≤ mk ∧ sizeAt s ≤ 48 * mk ∧ sizeAt s ≤ 40000 := by
          unfold sectorsOf at hn ⊢
          split at hn
          · simp at hn
          · rename_i h1
            rw [if_neg h1]
            split at hn
            · rename_i h2
              rw [if_pos h2]
              exact ⟨1, rfl, by omega, by omega, by omega⟩
            · rename_i h2
              rw [if_neg h2]
              exact ⟨((sizeAt s + 47) / 48), by omega, by omega, by omega, by omega⟩
        obtain ⟨mk, h1, h2, h3, h4⟩ := hsz
        rw [h1] at hn ⊢
        have hlen : ((allOf f at_ ((mk : Int)).toNat).take (sizeAt s)).length = sizeAt s := by
          rw [List.length_take, length_allOf hf at_ _ (by omega)]
          omega
        rw [hlen, h1]
        omega
      · cases h
theorem saidGo_ok {turn : Int} {f : List (List UInt8)} (hf : ∀ s ∈ f, s.length = 64) : ∀ (n : Nat) (said : List (List UInt8)) (fin : Nat), said.length ≤ fin → fin ≤ f.length → (∀ l ∈ said, l.length ≤ 40000) →
    (saidGo turn f n said fin).1.length ≤ (saidGo turn f n said fin).2 ∧ (saidGo turn f n said fin).2 ≤ f.length ∧ ∀ l ∈ (saidGo turn f n said fin).1, l.length ≤ 40000
  | 0, said, fin, h1, h2, h3 => ⟨h1, h2, h3⟩
  | n + 1, said, fin, h1, h2, h3 => by
    unfold saidGo
    split
    · exact ⟨h1, h2, h3⟩
    · rename_i l hl
      obtain ⟨h4, h5, h6⟩ := stands_some hf hl
      refine saidGo_ok hf n _ _ (by rw [List.length_append, List.length_singleton]; omega) (by omega) (fun x hx => ?_)
      rcases List.mem_append.1 hx with hx | hx
      · exact h3 x hx
      · rw [List.mem_singleton.1 hx]; exact h6
/-- A fuel as long as what is left is enough. -/
theorem saidGo_fuel {turn : Int} {f : List (List UInt8)} (hf : ∀ s ∈ f, s.length = 64) : ∀ (n m : Nat) (said : List (List UInt8)) (fin : Nat), fin ≤ f.length → f.length < fin + n → f.length < fin + m → saidGo turn f n said fin = saidGo turn f m said fin
  | 0, m, said, fin, h1, h2, h3 => by omega
  | n + 1, 0, said, fin, h1, h2, h3 => by omega
  | n + 1, m + 1, said, fin, h1, h2, h3 => by
    unfold saidGo
    split
    · rfl
    · rename_i l hl
      obtain ⟨h4, h5, h6⟩ := stands_some hf hl
      exact saidGo_fuel hf n m _ _ (by omega) (by omega) (by omega)
theorem saidGo_none {turn : Int} {f : List (List UInt8)} {n : Nat} {said : List (List UInt8)} {fin : Nat} (h : standsOf turn f fin said.length = none) : saidGo turn f n said fin = (said, fin) := by
  cases n with
  | zero => rfl
  | succ n => unfold saidGo; rw [h]
theorem saidGo_step {turn : Int} {f : List (List UInt8)} (hf : ∀ s ∈ f, s.length = 64) {said : List (List UInt8)} {fin : Nat} {l : List UInt8} (h1 : fin ≤ f.length) (h : standsOf turn f fin said.length = some l) :
    saidGo turn f (f.length + 1) said fin = saidGo turn f (f.length + 1) (said ++ [l]) (fin + (sectorsOf l.length).toNat) := by
  obtain ⟨h4, h5, h6⟩ := stands_some hf h
  conv => lhs; unfold saidGo
  rw [h]
  exact saidGo_fuel hf _ _ _ _ h4 (by omega) (by omega)
theorem fieldOf_ok (fr : Int) : ∀ (n i : Nat) (D : Dk) (acc : List (List UInt8)), D.Ok → (∀ s ∈ acc, s.length = 64) → (Dk.fieldOf fr n i D acc).1 = 0 → (∀ s ∈ (Dk.fieldOf fr n i D acc).2.1, s.length = 64) ∧ (Dk.fieldOf fr n i D acc).2.1.length = acc.length + n
  | 0, i, D, acc, h, ha, _ => ⟨ha, rfl⟩
  | n + 1, i, D, acc, h, ha, h0 => by
    unfold Dk.fieldOf at h0 ⊢
    split
    · rename_i e0
      rw [if_pos e0] at h0
      obtain ⟨h1, h2⟩ := fieldOf_ok fr n (i + 1) _ _ (Dk.read_ok h _) (fun s hs => by
        rcases List.mem_append.1 hs with hs | hs
        · exact ha s hs
        · rw [List.mem_singleton.1 hs]; exact length_read h _) h0
      exact ⟨h1, by rw [h2, List.length_append, List.length_singleton]; omega⟩
    · rename_i e0
      rw [if_neg e0] at h0
      exact absurd h0 e0
theorem found_ok {n turn : Int} {f : List (List UInt8)} (hb : BookOk (n, turn)) (hf : ∀ s ∈ f, s.length = 64) (hn : (f.length : Int) = n) (hs : (foundL n turn f).said ≠ []) : (foundL n turn f).Ok := by
  obtain ⟨h1, h2, h3⟩ := saidGo_ok (turn := turn) hf (f.length + 1) [] 0 (Nat.le_refl 0) (Nat.zero_le _) (fun l hl => by cases hl)
  have h4 : 1 ≤ (foundL n turn f).said.length := by
    cases hq : (foundL n turn f).said with
    | nil => exact absurd hq hs
    | cons a l => simp
  exact ⟨hb.1, hb.2.1, hb.2.2.1, hb.2.2.2, h4, by show (((saidGo turn f (f.length + 1) [] 0).1.length : Nat) : Int) ≤ (((saidGo turn f (f.length + 1) [] 0).2 : Nat) : Int); omega, by show (((saidGo turn f (f.length + 1) [] 0).2 : Nat) : Int) ≤ n; omega, h3⟩
end Go.Proofs.Ytomgdfoahfhijaa

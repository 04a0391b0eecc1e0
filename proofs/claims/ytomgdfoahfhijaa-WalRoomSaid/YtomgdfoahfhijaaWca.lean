/- A disk that nothing happens to: what the log does on it (plain). -/
import Derived.Test.YtomgdfoahfhijaaWbf
set_option linter.unusedVariables false
set_option linter.unusedSimpArgs false
namespace Go.Proofs.Ytomgdfoahfhijaa

def Dk.Calm (D : Dk) : Prop := D.out = false ∧ D.arms.1 = false ∧ D.fails.1 = false
theorem metC_off {c : Bool × Int} (h : c.1 = false) : metC c = c := by unfold metC; rw [h]; rfl
theorem metB_off {c : Bool × Int} (h : c.1 = false) : metB c = false := by unfold metB; rw [h]; rfl
theorem Dk.Calm.ask {D : Dk} (h : D.Calm) {a : Int} (h0 : 0 ≤ a) (h1 : a < D.size) (l : Bool) : D.ask a l = (0, D) := by
  obtain ⟨h2, h3, h4⟩ := h
  unfold Dk.ask
  rw [if_neg (by rw [h2]; decide), if_neg (by omega), metB_off h4, metC_off h4, metB_off h3, metC_off h3]
  cases l <;> rfl
theorem Dk.Calm.write {D : Dk} (h : D.Calm) {a : Int} (h0 : 0 ≤ a) (h1 : a < D.size) (b : List UInt8) : D.write a b = (0, ({ D with loose := D.loose ++ [(a, b)] } : Dk).op) := by
  unfold Dk.write
  rw [h.ask h0 h1]
  rfl
theorem Dk.Calm.read {D : Dk} (h : D.Calm) {a : Int} (h0 : 0 ≤ a) (h1 : a < D.size) : D.read a = (D.holds a, 0, D.op) := by
  unfold Dk.read
  rw [h.ask h0 h1]
  rfl
theorem Dk.Calm.sync {D : Dk} (h : D.Calm) (h1 : 0 < D.size) : D.sync = (0, (D.firmed fun _ => true).op) := by
  unfold Dk.sync
  rw [h.ask (Int.le_refl 0) h1]
  rfl
theorem holds_op (D : Dk) (k : Int) : D.op.holds k = D.holds k := rfl
theorem holds_write (D : Dk) (a : Int) (b : List UInt8) (k : Int) : ({ D with loose := D.loose ++ [(a, b)] } : Dk).holds k = if a = k then b else D.holds k := by
  unfold Dk.holds
  simp only [List.reverse_append, List.reverse_cons, List.reverse_nil, List.nil_append, List.singleton_append, List.find?_cons]
  by_cases hk : a = k
  · simp [hk]
  · have : (a == k) = false := by simpa using hk
    rw [this]
    simp [hk]
theorem look_settled (k : Int) : ∀ (l : List (Int × List UInt8)) (i : Nat) (es : Ents), (settled (fun _ => true) i l es).look k = match l.reverse.find? (fun p => p.1 == k) with | some p => some p.2 | none => es.look k
  | [], i, es => rfl
  | p :: l, i, es => by
    unfold settled
    rw [if_pos rfl, look_settled k l (i + 1) (es.put p.1 p.2), List.reverse_cons, List.find?_append]
    cases hf : l.reverse.find? (fun p => p.1 == k) with
    | some q => rfl
    | none =>
      simp only [Option.none_or, List.find?_cons, List.find?_nil]
      rw [Ents.look_put]
      by_cases hk : p.1 = k
      · simp [hk]
      · have : (p.1 == k) = false := by simpa using hk
        rw [this, if_neg (fun e => hk e.symm)]
theorem holds_firmed (D : Dk) (k : Int) : (D.firmed fun _ => true).holds k = D.holds k := by
  unfold Dk.firmed Dk.holds
  simp only [List.reverse_nil, List.find?_nil]
  rw [look_settled]
  cases D.loose.reverse.find? (fun p => p.1 == k) <;> rfl
/-- What lies over h from a on. -/
def over (a : Int) (xs : List (List UInt8)) (h : Int → List UInt8) (k : Int) : List UInt8 := if a ≤ k then (xs[(k - a).toNat]?).getD (h k) else h k
theorem over_cons (a : Int) (b : List UInt8) (xs : List (List UInt8)) (h : Int → List UInt8) (k : Int) : over (a + 1) xs (fun k => if a = k then b else h k) k = over a (b :: xs) h k := by
  simp only [over]
  by_cases h1 : a + 1 ≤ k
  · rw [if_pos h1, if_neg (show ¬ a = k by omega), if_pos (show a ≤ k by omega), show (k - a).toNat = (k - (a + 1)).toNat + 1 by omega, List.getElem?_cons_succ]
  · rw [if_neg h1]
    by_cases h2 : a = k
    · rw [if_pos h2, if_pos (show a ≤ k by omega), show (k - a).toNat = 0 by omega]
      rfl
    · rw [if_neg h2, if_neg (show ¬ a ≤ k by omega)]
structure Same (D D' : Dk) : Prop where
  calm : D'.Calm
  size : D'.size = D.size
theorem lays_calm : ∀ (xs : List (List UInt8)) (D : Dk) (a : Int), D.Calm → 0 < D.size → 0 ≤ a → a + xs.length ≤ D.size →
    (D.lays a xs).1 = 0 ∧ Same D (D.lays a xs).2 ∧ (D.lays a xs).2.loose = [] ∧ ∀ k, (D.lays a xs).2.holds k = over a xs D.holds k
  | [], D, a, hc, hs, h0, h1 => by
    have e : D.lays a [] = (0, (D.firmed fun _ => true).op) := hc.sync hs
    rw [e]
    refine ⟨rfl, ⟨hc, rfl⟩, rfl, fun k => ?_⟩
    rw [holds_op, holds_firmed]
    unfold over
    split <;> simp
  | b :: xs, D, a, hc, hs, h0, h1 => by
    rw [List.length_cons] at h1
    have e := hc.write h0 (by omega) b
    unfold Dk.lays
    rw [e, if_pos rfl]
    obtain ⟨g1, g2, g3, g4⟩ := lays_calm xs (({ D with loose := D.loose ++ [(a, b)] } : Dk).op) (a + 1) hc hs (by omega) (by show a + 1 + (xs.length : Int) ≤ D.size; omega)
    refine ⟨g1, ⟨g2.calm, g2.size⟩, g3, fun k => ?_⟩
    rw [g4 k, ← over_cons]
    unfold over
    simp only [holds_op, holds_write]
theorem begin_calm {D : Dk} (hc : D.Calm) {n turn : Int} {l : List UInt8} (hn : 4 ≤ n) (hs : 2 * n + 2 ≤ D.size) (hl : sectorsOf l.length ≤ n) (hl4 : l.length ≤ 40000) (ht : 0 ≤ turn) :
    (D.begin n turn l).1 = 0 ∧ Same D (D.begin n turn l).2 ∧ (D.begin n turn l).2.loose = [] ∧ ∀ k, (D.begin n turn l).2.holds k = over (turn % 2) [titleOf turn n] (over (fromOf n turn) ((leavesOf turn 0 l.length l).map Subtype.val) D.holds) k := by
  have hlen : (((leavesOf turn 0 l.length l).map Subtype.val).length : Int) = sectorsOf l.length := by
    rw [List.length_map, length_leavesOf]
    unfold sectorsOf
    split
    · rename_i h
      rw [if_neg (by omega), if_pos (by omega)]; rfl
    · rw [if_neg (by omega), if_neg (by omega)]; omega
  have hf : 2 ≤ fromOf n turn ∧ fromOf n turn ≤ 2 + n := by
    unfold fromOf
    have : turn % 2 = 0 ∨ turn % 2 = 1 := by omega
    rcases this with h | h <;> rw [h] <;> omega
  obtain ⟨g1, g2, g3, g4⟩ := lays_calm ((leavesOf turn 0 l.length l).map Subtype.val) D (fromOf n turn) hc (by omega) (by omega) (by rw [hlen]; omega)
  have h2 : turn % 2 = 0 ∨ turn % 2 = 1 := by omega
  obtain ⟨k1, k2, k3, k4⟩ := lays_calm [titleOf turn n] (D.step1 n turn l).2 (turn % 2) g2.calm (by have := g2.size; unfold Dk.step1; omega) (by omega) (by have := g2.size; rw [List.length_singleton]; unfold Dk.step1; omega)
  unfold Dk.begin
  rw [if_pos (by unfold Dk.step1; exact g1)]
  refine ⟨k1, ⟨k2.calm, k2.size.trans g2.size⟩, k3, fun k => (k4 k).trans ?_⟩
  have : (D.step1 n turn l).2.holds = over (fromOf n turn) ((leavesOf turn 0 l.length l).map Subtype.val) D.holds := funext g4
  rw [this]
theorem leaves_count (turn number : Int) {l : List UInt8} (h : l.length ≤ 40000) : (((leavesOf turn number l.length l).map Subtype.val).length : Int) = sectorsOf l.length := by
  rw [List.length_map, length_leavesOf]
  unfold sectorsOf
  split
  · rename_i h
    rw [if_neg (by omega), if_pos (by omega)]; rfl
  · rw [if_neg (by omega), if_neg (by omega)]; omega
theorem refuses_ok {L : Wl} (hb : L.broken = false) {n : Nat} (h : n ≤ 40000) : L.refuses n = 0 := by
  unfold Wl.refuses
  rw [if_neg (by omega), hb]
  rfl
theorem append_calm {D : Dk} (hc : D.Calm) {L : Wl} (hL : L.Ok) (hb : L.broken = false) (hs : 2 * L.n + 2 ≤ D.size) {b : List UInt8} (h4 : b.length ≤ 40000) (hr : sectorsOf b.length ≤ L.n - L.fin) :
    ∃ D', L.append D b = (0, D', { L with said := L.said ++ [b], fin := L.fin + sectorsOf b.length }) ∧ Same D D' ∧ D'.loose = [] ∧ ∀ k, D'.holds k = over (fromOf L.n L.turn + L.fin) ((leavesOf L.turn L.said.length b.length b).map Subtype.val) D.holds k := by
  have h1 := hL.n0
  have h2 := hL.f1
  have h3 : 0 ≤ L.fin := by have := hL.s1; omega
  have hf : 2 ≤ fromOf L.n L.turn ∧ fromOf L.n L.turn ≤ 2 + L.n := by
    unfold fromOf
    have : L.turn % 2 = 0 ∨ L.turn % 2 = 1 := by omega
    rcases this with h | h <;> rw [h] <;> omega
  obtain ⟨g1, g2, g3, g4⟩ := lays_calm ((leavesOf L.turn L.said.length b.length b).map Subtype.val) D (fromOf L.n L.turn + L.fin) hc (by omega) (by omega) (by rw [leaves_count _ _ h4]; omega)
  refine ⟨_, ?_, g2, g3, g4⟩
  unfold Wl.append
  rw [if_neg (by rw [refuses_ok hb h4]; exact fun h => h rfl), if_neg (by omega), if_pos g1]
theorem check_calm {D : Dk} (hc : D.Calm) {L : Wl} (hL : L.Ok) (hb : L.broken = false) (hs : 2 * L.n + 2 ≤ D.size) {b : List UInt8} (h4 : b.length ≤ 40000) (hr : sectorsOf b.length ≤ L.n) (ht : L.turn ≠ 4294967295) :
    ∃ D', L.check D b = (0, D', ⟨L.n, L.turn + 1, [b], sectorsOf b.length, false⟩) ∧ Same D D' ∧ D'.loose = [] := by
  obtain ⟨g1, g2, g3, _⟩ := begin_calm (n := L.n) (turn := L.turn + 1) (l := b) hc hL.n0 hs hr h4 (by have := hL.t0; omega)
  refine ⟨_, ?_, g2, g3⟩
  unfold Wl.check
  rw [if_neg (by rw [refuses_ok hb h4]; exact fun h => h rfl), if_neg (by rintro (h | h) <;> omega), if_pos g1, hb]
theorem format_calm {D : Dk} (hc : D.Calm) {n : Int} (hn : 4 ≤ n) (hs : 2 * n + 2 ≤ D.size) :
    (D.format n).1 = 0 ∧ Same D (D.format n).2 ∧ (D.format n).2.loose = [] ∧ ∀ k, (D.format n).2.holds k = over 0 [titleOf 0 n] (over 2 [(leafOf 0 0 0 []).1] (over 0 (List.replicate (2 * n + 2).toNat zero64) D.holds)) k := by
  obtain ⟨g1, g2, g3, g4⟩ := lays_calm (List.replicate (2 * n + 2).toNat zero64) D 0 hc (by omega) (Int.le_refl 0) (by rw [List.length_replicate]; omega)
  obtain ⟨k1, k2, k3, k4⟩ := begin_calm (n := n) (turn := 0) (l := []) g2.calm hn (by rw [g2.size]; exact hs) (by show (1 : Int) ≤ n; omega) (by simp) (Int.le_refl 0)
  unfold Dk.format
  rw [if_pos g1]
  refine ⟨k1, ⟨k2.calm, k2.size.trans g2.size⟩, k3, fun k => (k4 k).trans ?_⟩
  have h1 : (D.lays 0 (List.replicate (2 * n + 2).toNat zero64)).2.holds = over 0 (List.replicate (2 * n + 2).toNat zero64) D.holds := funext g4
  rw [h1, leavesOf_le (by simp)]
  have : fromOf n 0 = 2 := by unfold fromOf; simp
  rw [this]
  rfl
theorem new_calm (n : Int) : (Dk.new n).Calm := ⟨rfl, rfl, rfl⟩
theorem fieldOf_calm (fr : Int) : ∀ (n i : Nat) (D : Dk) (acc : List (List UInt8)), D.Calm → 0 ≤ fr → fr + i + n ≤ D.size →
    ∃ D', Dk.fieldOf fr n i D acc = (0, acc ++ (List.range n).map (fun j : Nat => D.holds (fr + i + j)), D') ∧ Same D D' ∧ D'.loose = D.loose ∧ ∀ k, D'.holds k = D.holds k
  | 0, i, D, acc, hc, h0, h1 => ⟨D, by simp [Dk.fieldOf], ⟨hc, rfl⟩, rfl, fun _ => rfl⟩
  | n + 1, i, D, acc, hc, h0, h1 => by
    have e := hc.read (a := fr + i) (by omega) (by omega)
    obtain ⟨D', g1, g2, g3, g4⟩ := fieldOf_calm fr n (i + 1) D.op (acc ++ [D.holds (fr + i)]) hc h0 (by show fr + ((i + 1 : Nat) : Int) + n ≤ D.size; omega)
    refine ⟨D', ?_, ⟨g2.calm, g2.size⟩, g3, g4⟩
    unfold Dk.fieldOf
    rw [e, if_pos rfl, g1, List.append_assoc]
    congr 3
    rw [List.range_succ_eq_map, List.map_cons, List.map_map, List.singleton_append]
    congr 1
    · simp
    · refine List.map_congr_left fun j _ => ?_
      simp only [Function.comp, holds_op]
      congr 1
      omega
end Go.Proofs.Ytomgdfoahfhijaa

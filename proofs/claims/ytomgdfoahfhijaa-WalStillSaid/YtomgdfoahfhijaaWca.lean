/- A disk that nothing happens to: what the log does on it (plain). What is read of what was written (plain). The run of wakes, in plain. -/
import Derived.Test.YtomgdfoahfhijaaWbe
set_option linter.unusedVariables false
set_option linter.unusedSimpArgs false
namespace Go.Proofs.Ytomgdfoahfhijaa

def Dk.Calm (D : Dk) : Prop := D.out = false ∧ D.arms.1 = false ∧ D.fails.1 = false
theorem metC_off {c : Bool × Int} (h : c.1 = false) : metC c = c := by unfold metC; rw [h]; rfl
theorem metB_off {c : Bool × Int} (h : c.1 = false) : metB c = false := by unfold metB; rw [h]; rfl
theorem Dk.Calm.ask {D : Dk} (h : D.Calm) {a : Int} (h0 : 0 ≤ a) (h1 : a < D.size) (l : Bool) : D.ask a l = (0, D) := by
  obtain ⟨h2, h3, h4⟩ := h
  unfold Dk.ask
  rw [if_neg (by rw [h2]; decide), if_neg (by omega), metB_off h4, metC_off h4, metB_off h3, metC_off h3]
  cases l <;> rfl
theorem Dk.Calm.write {D : Dk} (h : D.Calm) {a : Int} (h0 : 0 ≤ a) (h1 : a < D.size) (b : List UInt8) : D.write a b = (0, ({ D with loose := D.loose ++ [(a, b)] } : Dk).op) := by
  unfold Dk.write
  rw [h.ask h0 h1]
  rfl
theorem Dk.Calm.read {D : Dk} (h : D.Calm) {a : Int} (h0 : 0 ≤ a) (h1 : a < D.size) : D.read a = (D.holds a, 0, D.op) := by
  unfold Dk.read
  rw [h.ask h0 h1]
  rfl
theorem Dk.Calm.sync {D : Dk} (h : D.Calm) (h1 : 0 < D.size) : D.sync = (0, (D.firmed fun _ => true).op) := by
  unfold Dk.sync
  rw [h.ask (Int.le_refl 0) h1]
  rfl
theorem holds_op (D : Dk) (k : Int) : D.op.holds k = D.holds k := rfl
theorem holds_write (D : Dk) (a : Int) (b : List UInt8) (k : Int) : ({ D with loose := D.loose ++ [(a, b)] } : Dk).holds k = if a = k then b else D.holds k := by
  unfold Dk.holds
  simp only [List.reverse_append, List.reverse_cons, List.reverse_nil, List.nil_append, List.singleton_append, List.find?_cons]
  by_cases hk : a = k
  · simp [hk]
  · have : (a == k) = false := by simpa using hk
    rw [this]
    simp [hk]
theorem look_settled (k : Int) : ∀ (l : List (Int × List UInt8)) (i : Nat) (es : Ents), (settled (fun _ => true) i l es).look k = match l.reverse.find? (fun p => p.1 == k) with | some p => some p.2 | none => es.look k
  | [], i, es => rfl
  | p :: l, i, es => by
    unfold settled
    rw [if_pos rfl, look_settled k l (i + 1) (es.put p.1 p.2), List.reverse_cons, List.find?_append]
    cases hf : l.reverse.find? (fun p => p.1 == k) with
    | some q => rfl
    | none =>
      simp only [Option.none_or, List.find?_cons, List.find?_nil]
      rw [Ents.look_put]
      by_cases hk : p.1 = k
      · simp [hk]
      · have : (p.1 == k) = false := by simpa using hk
        rw [this, if_neg (fun e => hk e.symm)]
theorem holds_firmed (D : Dk) (k : Int) : (D.firmed fun _ => true).holds k = D.holds k := by
  unfold Dk.firmed Dk.holds
  simp only [List.reverse_nil, List.find?_nil]
  rw [look_settled]
  cases D.loose.reverse.find? (fun p => p.1 == k) <;> rfl
/-- What lies over h from a on. -/
def over (a : Int) (xs : List (List UInt8)) (h : Int → List UInt8) (k : Int) : List UInt8 := if a ≤ k then (xs[(k - a).toNat]?).getD (h k) else h k
theorem over_cons (a : Int) (b : List UInt8) (xs : List (List UInt8)) (h : Int → List UInt8) (k : Int) : over (a + 1) xs (fun k => if a = k then b else h k) k = over a (b :: xs) h k := by
  simp only [over]
  by_cases h1 : a + 1 ≤ k
  · rw [if_pos h1, if_neg (show ¬ a = k by omega), if_pos (show a ≤ k by omega), show (k - a).toNat = (k - (a + 1)).toNat + 1 by omega, List.getElem?_cons_succ]
  · rw [if_neg h1]
    by_cases h2 : a = k
    · rw [if_pos h2, if_pos (show a ≤ k by omega), show (k - a).toNat = 0 by omega]
      rfl
    · rw [if_neg h2, if_neg (show ¬ a ≤ k by omega)]
structure Same (D D' : Dk) : Prop where
  calm : D'.Calm
  size : D'.size = D.size
theorem lays_calm : ∀ (xs : List (List UInt8)) (D : Dk) (a : Int), D.Calm → 0 < D.size → 0 ≤ a → a + xs.length ≤ D.size →
    (D.lays a xs).1 = 0 ∧ Same D (D.lays a xs).2 ∧ (D.lays a xs).2.loose = [] ∧ ∀ k, (D.lays a xs).2.holds k = over a xs D.holds k
  | [], D, a, hc, hs, h0, h1 => by
    have e : D.lays a [] = (0, (D.firmed fun _ => true).op) := hc.sync hs
    rw [e]
    refine ⟨rfl, ⟨hc, rfl⟩, rfl, fun k => ?_⟩
    rw [holds_op, holds_firmed]
    unfold over
    split <;> simp
  | b :: xs, D, a, hc, hs, h0, h1 => by
    rw [List.length_cons] at h1
    have e := hc.write h0 (by omega) b
    unfold Dk.lays
    rw [e, if_pos rfl]
    obtain ⟨g1, g2, g3, g4⟩ := lays_calm xs (({ D with loose := D.loose ++ [(a, b)] } : Dk).op) (a + 1) hc hs (by omega) (by show a + 1 + (xs.length : Int) ≤ D.size; omega)
    refine ⟨g1, ⟨g2.calm, g2.size⟩, g3, fun k => ?_⟩
    rw [g4 k, ← over_cons]
    unfold over
    simp only [holds_op, holds_write]
theorem begin_calm {D : Dk} (hc : D.Calm) {n turn : Int} {l : List UInt8} (hn : 4 ≤ n) (hs : 2 * n + 2 ≤ D.size) (hl : sectorsOf l.length ≤ n) (hl4 : l.length ≤ 40000) (ht : 0 ≤ turn) :
    (D.begin n turn l).1 = 0 ∧ Same D (D.begin n turn l).2 ∧ (D.begin n turn l).2.loose = [] ∧ ∀ k, (D.begin n turn l).2.holds k = over (turn % 2) [titleOf turn n] (over (fromOf n turn) ((leavesOf turn 0 l.length l).map Subtype.val) D.holds) k := by
  have hlen : (((leavesOf turn 0 l.length l).map Subtype.val).length : Int) = sectorsOf l.length := by
    rw [List.length_map, length_leavesOf]
    unfold sectorsOf
    split
    · rename_i h
      rw [if_neg (by omega), if_pos (by omega)]; rfl
    · rw [if_neg (by omega), if_neg (by omega)]; omega
  have hf : 2 ≤ fromOf n turn ∧ fromOf n turn ≤ 2 + n := by
    unfold fromOf
    have : turn % 2 = 0 ∨ turn % 2 = 1 := by omega
    rcases this with h | h <;> rw [h] <;> omega
  obtain ⟨g1, g2, g3, g4⟩ := lays_calm ((leavesOf turn 0 l.length l).map Subtype.val) D (fromOf n turn) hc (by omega) (by omega) (by rw [hlen]; omega)
  have h2 : turn % 2 = 0 ∨ turn % 2 = 1 := by omega
  obtain ⟨k1, k2, k3, k4⟩ := lays_calm [titleOf turn n] (D.step1 n turn l).2 (turn % 2) g2.calm (by have := g2.size; unfold Dk.step1; omega) (by omega) (by have := g2.size; rw [List.length_singleton]; unfold Dk.step1; omega)
  unfold Dk.begin
  rw [if_pos (by unfold Dk.step1; exact g1)]
  refine ⟨k1, ⟨k2.calm, k2.size.trans g2.size⟩, k3, fun k => (k4 k).trans ?_⟩
  have : (D.step1 n turn l).2.holds = over (fromOf n turn) ((leavesOf turn 0 l.length l).map Subtype.val) D.holds := funext g4
  rw [this]
theorem leaves_count (turn number : Int) {l : List UInt8} (h : l.length ≤ 40000) : (((leavesOf turn number l.length l).map Subtype.val).length : Int) = sectorsOf l.length := by
  rw [List.length_map, length_leavesOf]
  unfold sectorsOf
  split
  · rename_i h
    rw [if_neg (by omega), if_pos (by omega)]; rfl
  · rw [if_neg (by omega), if_neg (by omega)]; omega
theorem refuses_ok {L : Wl} (hb : L.broken = false) {n : Nat} (h : n ≤ 40000) : L.refuses n = 0 := by
  unfold Wl.refuses
  rw [if_neg (by omega), hb]
  rfl
theorem append_calm {D : Dk} (hc : D.Calm) {L : Wl} (hL : L.Ok) (hb : L.broken = false) (hs : 2 * L.n + 2 ≤ D.size) {b : List UInt8} (h4 : b.length ≤ 40000) (hr : sectorsOf b.length ≤ L.n - L.fin) :
    ∃ D', L.append D b = (0, D', { L with said := L.said ++ [b], fin := L.fin + sectorsOf b.length }) ∧ Same D D' ∧ D'.loose = [] ∧ ∀ k, D'.holds k = over (fromOf L.n L.turn + L.fin) ((leavesOf L.turn L.said.length b.length b).map Subtype.val) D.holds k := by
  have h1 := hL.n0
  have h2 := hL.f1
  have h3 : 0 ≤ L.fin := by have := hL.s1; omega
  have hf : 2 ≤ fromOf L.n L.turn ∧ fromOf L.n L.turn ≤ 2 + L.n := by
    unfold fromOf
    have : L.turn % 2 = 0 ∨ L.turn % 2 = 1 := by omega
    rcases this with h | h <;> rw [h] <;> omega
  obtain ⟨g1, g2, g3, g4⟩ := lays_calm ((leavesOf L.turn L.said.length b.length b).map Subtype.val) D (fromOf L.n L.turn + L.fin) hc (by omega) (by omega) (by rw [leaves_count _ _ h4]; omega)
  refine ⟨_, ?_, g2, g3, g4⟩
  unfold Wl.append
  rw [if_neg (by rw [refuses_ok hb h4]; exact fun h => h rfl), if_neg (by omega), if_pos g1]
theorem check_calm {D : Dk} (hc : D.Calm) {L : Wl} (hL : L.Ok) (hb : L.broken = false) (hs : 2 * L.n + 2 ≤ D.size) {b : List UInt8} (h4 : b.length ≤ 40000) (hr : sectorsOf b.length ≤ L.n) (ht : L.turn ≠ 4294967295) :
    ∃ D', L.check D b = (0, D', ⟨L.n, L.turn + 1, [b], sectorsOf b.length, false⟩) ∧ Same D D' ∧ D'.loose = [] := by
  obtain ⟨g1, g2, g3, _⟩ := begin_calm (n := L.n) (turn := L.turn + 1) (l := b) hc hL.n0 hs hr h4 (by have := hL.t0; omega)
  refine ⟨_, ?_, g2, g3⟩
  unfold Wl.check
  rw [if_neg (by rw [refuses_ok hb h4]; exact fun h => h rfl), if_neg (by rintro (h | h) <;> omega), if_pos g1, hb]
theorem format_calm {D : Dk} (hc : D.Calm) {n : Int} (hn : 4 ≤ n) (hs : 2 * n + 2 ≤ D.size) :
    (D.format n).1 = 0 ∧ Same D (D.format n).2 ∧ (D.format n).2.loose = [] ∧ ∀ k, (D.format n).2.holds k = over 0 [titleOf 0 n] (over 2 [(leafOf 0 0 0 []).1] (over 0 (List.replicate (2 * n + 2).toNat zero64) D.holds)) k := by
  obtain ⟨g1, g2, g3, g4⟩ := lays_calm (List.replicate (2 * n + 2).toNat zero64) D 0 hc (by omega) (Int.le_refl 0) (by rw [List.length_replicate]; omega)
  obtain ⟨k1, k2, k3, k4⟩ := begin_calm (n := n) (turn := 0) (l := []) g2.calm hn (by rw [g2.size]; exact hs) (by show (1 : Int) ≤ n; omega) (by simp) (Int.le_refl 0)
  unfold Dk.format
  rw [if_pos g1]
  refine ⟨k1, ⟨k2.calm, k2.size.trans g2.size⟩, k3, fun k => (k4 k).trans ?_⟩
  have h1 : (D.lays 0 (List.replicate (2 * n + 2).toNat zero64)).2.holds = over 0 (List.replicate (2 * n + 2).toNat zero64) D.holds := funext g4
  rw [h1, leavesOf_le (by simp)]
  have : fromOf n 0 = 2 := by unfold fromOf; simp
  rw [this]
  rfl
theorem new_calm (n : Int) : (Dk.new n).Calm := ⟨rfl, rfl, rfl⟩
theorem fieldOf_calm (fr : Int) : ∀ (n i : Nat) (D : Dk) (acc : List (List UInt8)), D.Calm → 0 ≤ fr → fr + i + n ≤ D.size →
    ∃ D', Dk.fieldOf fr n i D acc = (0, acc ++ (List.range n).map (fun j : Nat => D.holds (fr + i + j)), D') ∧ Same D D' ∧ D'.loose = D.loose ∧ ∀ k, D'.holds k = D.holds k
  | 0, i, D, acc, hc, h0, h1 => ⟨D, by simp [Dk.fieldOf], ⟨hc, rfl⟩, rfl, fun _ => rfl⟩
  | n + 1, i, D, acc, hc, h0, h1 => by
    have e := hc.read (a := fr + i) (by omega) (by omega)
    obtain ⟨D', g1, g2, g3, g4⟩ := fieldOf_calm fr n (i + 1) D.op (acc ++ [D.holds (fr + i)]) hc h0 (by show fr + ((i + 1 : Nat) : Int) + n ≤ D.size; omega)
    refine ⟨D', ?_, ⟨g2.calm, g2.size⟩, g3, g4⟩
    unfold Dk.fieldOf
    rw [e, if_pos rfl, g1, List.append_assoc]
    congr 3
    rw [List.range_succ_eq_map, List.map_cons, List.map_map, List.singleton_append]
    congr 1
    · simp
    · refine List.map_congr_left fun j _ => ?_
      simp only [Function.comp, holds_op]
      congr 1
      omega
end Go.Proofs.Ytomgdfoahfhijaa
namespace Go.Proofs.Ytomgdfoahfhijaa

theorem seal_drop4 (l : List UInt8) : (sealOf l).drop 4 = l := by
  unfold sealOf
  rw [List.drop_append_of_le_length (by simp [length_shaDigest]), List.drop_of_length_le (by simp [length_shaDigest])]
  rfl
theorem toNat_beB (x : Int) (w j : Nat) : ((beB x w j).toNat : Int) = x / 2 ^ (8 * (w - 1 - j)) % 256 := by
  unfold beB
  have h0 := Int.emod_nonneg (x / 2 ^ (8 * (w - 1 - j))) (show (256 : Int) ≠ 0 by decide)
  have h1 := Int.emod_lt_of_pos (x / 2 ^ (8 * (w - 1 - j))) (show (0 : Int) < 256 by decide)
  rw [UInt8.toNat_ofNat']
  omega
theorem beN_be4 {x : Int} (h0 : 0 ≤ x) (h1 : x < 4294967296) : ((beN (be x 4) : Nat) : Int) = x := by
  have e : be x 4 = [beB x 4 0, beB x 4 1, beB x 4 2, beB x 4 3] := rfl
  have b0 := toNat_beB x 4 0
  have b1 := toNat_beB x 4 1
  have b2 := toNat_beB x 4 2
  have b3 := toNat_beB x 4 3
  simp only [Nat.reduceSub, Nat.reduceMul, Int.reducePow, Int.pow_zero, Int.ediv_one] at b0 b1 b2 b3
  rw [e]
  simp only [beN, List.foldl_cons, List.foldl_nil]
  omega
theorem beN_be2 {x : Int} (h0 : 0 ≤ x) (h1 : x < 65536) : ((beN (be x 2) : Nat) : Int) = x := by
  have e : be x 2 = [beB x 2 0, beB x 2 1] := rfl
  have b0 := toNat_beB x 2 0
  have b1 := toNat_beB x 2 1
  simp only [Nat.reduceSub, Nat.reduceMul, Int.reducePow, Int.pow_zero, Int.ediv_one] at b0 b1
  rw [e]
  simp only [beN, List.foldl_cons, List.foldl_nil]
  omega
theorem titleN_title {t n : Int} (h0 : 0 ≤ n) (h1 : n < 4294967296) : titleN (titleOf t n) = n := by
  unfold titleN titleOf
  rw [seal_drop4]
  have : ((be n 4 ++ be t 4 ++ [83, 65, 70, 69, 72, 79, 85, 83, 69] ++ List.replicate 43 0).take 4 : List UInt8) = be n 4 := by
    rw [List.append_assoc, List.append_assoc, List.take_append_of_le_length (by simp [length_be]), List.take_of_length_le (by simp [length_be])]
  rw [this]
  exact beN_be4 h0 h1
theorem titleT_title {t n : Int} (h0 : 0 ≤ t) (h1 : t < 4294967296) : titleT (titleOf t n) = t := by
  unfold titleT titleOf
  rw [seal_drop4]
  have : (((be n 4 ++ be t 4 ++ [83, 65, 70, 69, 72, 79, 85, 83, 69] ++ List.replicate 43 0).drop 4).take 4 : List UInt8) = be t 4 := by
    rw [List.append_assoc, List.append_assoc, List.drop_append_of_le_length (by simp [length_be]), List.drop_of_length_le (by simp [length_be]), List.nil_append, List.take_append_of_le_length (by simp [length_be]), List.take_of_length_le (by simp [length_be])]
  rw [this]
  exact beN_be4 h0 h1
theorem leaf_size {t m n : Int} (x : List UInt8) (h0 : 0 ≤ n) (h1 : n < 65536) : ((sizeAt (leafOf t m n x).1 : Nat) : Int) = n := by
  unfold sizeAt leafOf leafB
  simp only
  have e : ((sealOf (be t 4 ++ be m 4 ++ be n 2 ++ be (x.length) 2 ++ pad48 x)).drop 12).take 2 = be n 2 := by
    rw [show (12 : Nat) = 4 + 8 by rfl, ← List.drop_drop, seal_drop4]
    rw [List.append_assoc, List.append_assoc, List.drop_append_of_le_length (by simp [length_be]), List.drop_of_length_le (by simp [length_be]), List.nil_append, List.take_append_of_le_length (by simp [length_be]), List.take_of_length_le (by simp [length_be])]
  rw [e]
  exact beN_be2 h0 h1
theorem leaf_body (t m n : Int) (x : List UInt8) : (leafOf t m n x).1.drop 16 = pad48 x := by
  unfold leafOf leafB
  simp only
  rw [show (16 : Nat) = 4 + 12 by rfl, ← List.drop_drop, seal_drop4, List.drop_append_of_le_length (by simp [length_be]), List.drop_of_length_le (by simp [length_be]), List.nil_append]
theorem leaves_flatN (t m n : Int) : ∀ (N : Nat) (x : List UInt8), x.length ≤ 48 * (N + 1) → ∃ k, ((leavesOf t m n x).map Subtype.val).flatMap (fun s => s.drop 16) = x ++ List.replicate k 0
  | 0, x, hN => ⟨48 - x.length, by rw [leavesOf_le (by omega), List.map_singleton, List.flatMap_singleton, leaf_body, pad48, List.take_of_length_le (by omega)]⟩
  | N + 1, x, hN => by
    by_cases h : x.length ≤ 48
    · refine ⟨48 - x.length, ?_⟩
      rw [leavesOf_le h, List.map_singleton, List.flatMap_singleton, leaf_body, pad48, List.take_of_length_le h]
    · obtain ⟨k, hk⟩ := leaves_flatN t m n N (x.drop 48) (by rw [List.length_drop]; omega)
      refine ⟨k, ?_⟩
      rw [leavesOf_gt h, List.map_cons, List.flatMap_cons, hk, leaf_body, pad48, show 48 - x.length = 0 by omega, List.replicate_zero, List.append_nil, ← List.append_assoc, List.take_append_drop]
theorem leaves_flat (t m n : Int) (x : List UInt8) : ∃ k, ((leavesOf t m n x).map Subtype.val).flatMap (fun s => s.drop 16) = x ++ List.replicate k 0 := leaves_flatN t m n x.length x (by omega)
/-- What was laid down stands. -/
theorem stands_leaves {t : Int} {f : List (List UInt8)} {at_ number : Nat} {b : List UInt8} (h4 : b.length ≤ 40000) (hf : at_ + (sectorsOf b.length).toNat ≤ f.length)
    (hd : (f.drop at_).take (sectorsOf b.length).toNat = (leavesOf t number b.length b).map Subtype.val) : standsOf t f at_ number = some b := by
  obtain ⟨hs1, hs2⟩ := sectors_le h4
  obtain ⟨r, hr⟩ := leavesOf_cons t number b.length b
  have h0 : f[at_]? = some (leafOf t number b.length b).1 := by
    have h1 := congrArg (fun l => l[0]?) hd
    simp only [hr, List.map_cons, List.getElem?_cons_zero] at h1
    rw [List.getElem?_take] at h1
    split at h1
    · rw [List.getElem?_drop, Nat.add_zero] at h1
      exact h1
    · cases h1
  have hsz : sizeAt (leafOf t number b.length b).1 = b.length := by
    have := leaf_size (t := t) (m := number) b (n := (b.length : Int)) (by omega) (by omega)
    omega
  obtain ⟨k, hk⟩ := leaves_flat t number b.length b
  have hall : (allOf f at_ (sectorsOf b.length).toNat).take b.length = b := by
    unfold allOf
    rw [hd, hk, List.take_left]
  unfold standsOf
  rw [h0]
  simp only [hsz]
  rw [if_neg (by omega), hall, if_pos hd.symm]
theorem stands_end {t : Int} {f : List (List UInt8)} {number : Nat} : standsOf t f f.length number = none := by
  unfold standsOf
  rw [List.getElem?_eq_none (Nat.le_refl _)]
end Go.Proofs.Ytomgdfoahfhijaa
namespace Go.Proofs.Ytomgdfoahfhijaa

def z49 : List UInt8 := List.replicate 49 0
def wokenL : Wl := ⟨4, 0, [[], z49, [7]], 4, false⟩
theorem saidGo_take {turn : Int} {f : List (List UInt8)} {n : Nat} {said : List (List UInt8)} {fin : Nat} {l : List UInt8} (h : standsOf turn f fin said.length = some l) : saidGo turn f (n + 1) said fin = saidGo turn f n (said ++ [l]) (fin + (sectorsOf l.length).toNat) := by
  conv => lhs; unfold saidGo
  rw [h]
set_option maxRecDepth 10000 in
theorem opens_wakes {D : Dk} (hc : D.Calm) (hs : D.size = 10) (hl : D.loose = []) (h0 : D.holds 0 = titleOf 0 4) (h1 : D.holds 1 = zero64)
    (h2 : (leavesOf 0 ((0 : Nat) : Int) (([] : List UInt8).length : Int) []).map Subtype.val = [D.holds 2]) (h3 : (leavesOf 0 ((1 : Nat) : Int) (z49.length : Int) z49).map Subtype.val = [D.holds 3, D.holds 4]) (h5 : (leavesOf 0 ((2 : Nat) : Int) (([7] : List UInt8).length : Int) [7]).map Subtype.val = [D.holds 5]) :
    ∃ D', D.opens = (0, D', some wokenL) ∧ Same D D' ∧ D'.loose = [] := by
  have r0 := hc.read (a := 0) (by decide) (by omega)
  have t0 : titleAt D.size 0 (titleOf 0 4) none = some (4, 0) := by
    unfold titleAt
    rw [titleN_title (by decide) (by decide), titleT_title (by decide) (by decide), hs]
    simp [mayB, newer]
  have c0 : D.count1 0 none = (0, some (4, 0), D.op) := by
    unfold Dk.count1
    rw [r0, if_pos rfl]
    simp only
    rw [h0, show D.op.size = D.size from rfl, t0]
  have hc1 : D.op.Calm := hc
  have r1 := hc1.read (a := 1) (by decide) (by show (1 : Int) < D.size; omega)
  have t1 : titleAt D.size 1 zero64 (some (4, 0)) = some (4, 0) := by
    unfold titleAt
    have : titleN zero64 = 0 := rfl
    rw [this]
    simp [mayB]
  have c1 : D.op.count1 1 (some (4, 0)) = (0, some (4, 0), D.op.op) := by
    unfold Dk.count1
    rw [r1, if_pos rfl]
    simp only [holds_op]
    rw [h1, show D.op.op.size = D.size from rfl, t1]
  have hcts : D.counts = (0, some (4, 0), D.op.op) := by
    unfold Dk.counts
    rw [c0]
    simp only
    rw [c1, if_pos trivial]
    simp only
    rw [if_pos trivial]
  have hc2 : D.op.op.Calm := hc
  obtain ⟨D3, g1, g2, g3, g4⟩ := fieldOf_calm 2 4 0 D.op.op [] hc2 (by decide) (by show (2 : Int) + ((0 : Nat) : Int) + ((4 : Nat) : Int) ≤ D.size; rw [hs]; decide)
  have g1' : Dk.fieldOf 2 4 0 D.op.op [] = (0, [D.holds 2, D.holds 3, D.holds 4, D.holds 5], D3) := g1
  have e1 : standsOf 0 [D.holds 2, D.holds 3, D.holds 4, D.holds 5] 0 0 = some [] := stands_leaves (by decide) (Nat.le_of_ble_eq_true rfl) (by rw [h2]; rfl)
  have e2 : standsOf 0 [D.holds 2, D.holds 3, D.holds 4, D.holds 5] 1 1 = some z49 := stands_leaves (by decide) (Nat.le_of_ble_eq_true rfl) (by rw [h3]; rfl)
  have e3 : standsOf 0 [D.holds 2, D.holds 3, D.holds 4, D.holds 5] 3 2 = some [7] := stands_leaves (by decide) (Nat.le_of_ble_eq_true rfl) (by rw [h5]; rfl)
  have e4 : standsOf 0 [D.holds 2, D.holds 3, D.holds 4, D.holds 5] 4 3 = none := stands_end (f := [D.holds 2, D.holds 3, D.holds 4, D.holds 5])
  have hsg : saidGo 0 [D.holds 2, D.holds 3, D.holds 4, D.holds 5] 5 [] 0 = ([[], z49, [7]], 4) := by
    rw [saidGo_take (n := 4) (said := []) (fin := 0) e1]
    show saidGo 0 [D.holds 2, D.holds 3, D.holds 4, D.holds 5] 4 [[]] 1 = _
    rw [saidGo_take (n := 3) (said := [[]]) (fin := 1) e2]
    show saidGo 0 [D.holds 2, D.holds 3, D.holds 4, D.holds 5] 3 [[], z49] 3 = _
    rw [saidGo_take (n := 2) (said := [[], z49]) (fin := 3) e3]
    show saidGo 0 [D.holds 2, D.holds 3, D.holds 4, D.holds 5] 2 [[], z49, [7]] 4 = _
    exact saidGo_none (said := [[], z49, [7]]) e4
  have hfl : foundL 4 0 [D.holds 2, D.holds 3, D.holds 4, D.holds 5] = wokenL := by
    unfold foundL
    rw [show [D.holds 2, D.holds 3, D.holds 4, D.holds 5].length + 1 = 5 from rfl, hsg]
    rfl
  have hl3 : D3.loose = [] := g3.trans hl
  refine ⟨D3, ?_, ⟨g2.calm, g2.size⟩, hl3⟩
  unfold Dk.opens
  rw [hcts]
  simp only
  unfold Dk.openR
  simp only
  rw [show fromOf 4 0 = 2 from rfl, show (4 : Int).toNat = 4 from rfl, g1', if_pos rfl]
  simp only
  unfold Dk.openF
  rw [hfl, if_neg (by unfold wokenL; simp)]
  have hcl : D3.clears wokenL [D.holds 2, D.holds 3, D.holds 4, D.holds 5] = (0, D3) := by
    unfold Dk.clears
    rw [hl3]
    rfl
  rw [hcl, if_pos rfl]
/-- All that wakes meets, in its order. -/
theorem run_wakes : ∃ D1 D2 D3 D4 D5, (Dk.new 10).format 4 = (0, D1) ∧ (Wl.fresh 4).append D1 z49 = (0, D2, ⟨4, 0, [[], z49], 3, false⟩) ∧ (⟨4, 0, [[], z49], 3, false⟩ : Wl).append D2 [7] = (0, D3, wokenL) ∧ wokenL.append D3 [] = (6, D3, wokenL) ∧
    D3.opens = (0, D4, some wokenL) ∧ wokenL.check D4 [8] = (0, D5, ⟨4, 1, [[8]], 1, false⟩) ∧ D1.loose = [] ∧ D2.loose = [] ∧ D3.loose = [] ∧ D4.loose = [] := by
  obtain ⟨f1, f2, f3, f4⟩ := format_calm (n := 4) (new_calm 10) (by decide) (by decide)
  obtain ⟨D1, hD1⟩ : ∃ D1, D1 = ((Dk.new 10).format 4).2 := ⟨_, rfl⟩
  rw [← hD1] at f2 f3 f4
  have e1 : (Dk.new 10).format 4 = (0, D1) := by rw [hD1, ← f1]
  have s1 : D1.size = 10 := f2.size
  have ok1 := Wl.fresh_ok (n := 4) (by decide) (by decide)
  obtain ⟨D2, a1, a2, a3, a4⟩ := append_calm (D := D1) f2.calm ok1 rfl (by rw [s1]; decide) (b := z49) (by decide) (by decide)
  have s2 : D2.size = 10 := a2.size.trans s1
  have ok2 : (⟨4, 0, [[], z49], 3, false⟩ : Wl).Ok := ⟨by decide, by decide, by decide, by decide, by decide, by decide, by decide, by decide⟩
  obtain ⟨D3, b1, b2, b3, b4⟩ := append_calm (D := D2) (L := ⟨4, 0, [[], z49], 3, false⟩) a2.calm ok2 rfl (by rw [s2]; decide) (b := [7]) (by decide) (by decide)
  have s3 : D3.size = 10 := b2.size.trans s2
  have l1 : (leavesOf 0 ((1 : Nat) : Int) (z49.length : Int) z49).map Subtype.val = [(leafOf 0 1 49 z49).1, (leafOf 0 1 49 [0]).1] := by
    rw [leavesOf_gt (by decide), leavesOf_le (by decide)]
    rfl
  have l2 : (leavesOf 0 ((2 : Nat) : Int) (([7] : List UInt8).length : Int) [7]).map Subtype.val = [(leafOf 0 2 1 [7]).1] := by
    rw [leavesOf_le (by decide)]
    rfl
  have l0 : (leavesOf 0 ((0 : Nat) : Int) (([] : List UInt8).length : Int) []).map Subtype.val = [(leafOf 0 0 0 []).1] := by
    rw [leavesOf_le (by decide)]
    rfl
  have hb4 : ∀ k, D3.holds k = over 5 [(leafOf 0 2 1 [7]).1] (over 3 [(leafOf 0 1 49 z49).1, (leafOf 0 1 49 [0]).1] (over 0 [titleOf 0 4] (over 2 [(leafOf 0 0 0 []).1] (over 0 (List.replicate 10 zero64) (Dk.new 10).holds)))) k := by
    intro k
    have h1 : D1.holds = over 0 [titleOf 0 4] (over 2 [(leafOf 0 0 0 []).1] (over 0 (List.replicate 10 zero64) (Dk.new 10).holds)) := funext f4
    have h2 : D2.holds = over 3 [(leafOf 0 1 49 z49).1, (leafOf 0 1 49 [0]).1] D1.holds := funext fun k => (a4 k).trans (congrArg (fun xs => over 3 xs D1.holds k) l1)
    rw [← h1, ← h2]
    exact (b4 k).trans (congrArg (fun xs => over 5 xs D2.holds k) l2)
  have x0 : D3.holds 0 = titleOf 0 4 := hb4 0
  have x1 : D3.holds 1 = zero64 := hb4 1
  have x2 : D3.holds 2 = (leafOf 0 0 0 []).1 := hb4 2
  have x3 : D3.holds 3 = (leafOf 0 1 49 z49).1 := hb4 3
  have x4 : D3.holds 4 = (leafOf 0 1 49 [0]).1 := hb4 4
  have x5 : D3.holds 5 = (leafOf 0 2 1 [7]).1 := hb4 5
  obtain ⟨D4, c1, c2, c3⟩ := opens_wakes b2.calm s3 b3 x0 x1 (by rw [l0, x2]) (by rw [l1, x3, x4]) (by rw [l2, x5])
  have s4 : D4.size = 10 := c2.size.trans s3
  have ok3 : wokenL.Ok := ⟨by decide, by decide, by decide, by decide, by decide, by decide, by decide, by decide⟩
  obtain ⟨D5, d1, d2, d3⟩ := check_calm (D := D4) (L := wokenL) c2.calm ok3 rfl (by rw [s4]; decide) (b := [8]) (by decide) (by decide) (by decide)
  exact ⟨D1, D2, D3, D4, D5, e1, a1, b1, rfl, c1, d1, f3, a3, b3, c3⟩
end Go.Proofs.Ytomgdfoahfhijaa

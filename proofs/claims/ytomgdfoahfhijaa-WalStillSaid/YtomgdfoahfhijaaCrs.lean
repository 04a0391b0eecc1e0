/- What the power takes, and what is found then (plain). What a disk's sectors say, and what an opening finds of it (plain). What an opening does on a disk whose power may go; what is taken down there (plain). An opening, and what is taken down, whose power may go (plain). What is taken down on a disk whose power may go (plain). -/
import Derived.Test.YtomgdfoahfhijaaWca
set_option linter.unusedVariables false
set_option linter.unusedSimpArgs false
namespace Go.Proofs.Ytomgdfoahfhijaa

/-! ### a disk whose power may go -/
/-- A disk that works, and does not fail; its power may go. -/
def Dk.Up (D : Dk) : Prop := D.out = false ∧ D.fails.1 = false
/-- The power has gone. -/
def Dk.Down (D : Dk) : Prop := D.out = true
theorem Dk.Calm.up {D : Dk} (h : D.Calm) : D.Up := ⟨h.1, h.2.2⟩
theorem metC_off1 {c : Bool × Int} (h : c.1 = false) : (metC c).1 = false := by rw [metC_off h]; exact h
def Dk.Off (D : Dk) : Prop := D.arms.1 = false
theorem Dk.Up.calm {D : Dk} (h : D.Up) (h1 : D.Off) : D.Calm := ⟨h.1, h1, h.2⟩
theorem Dk.Up.ask {D : Dk} (h : D.Up) {a : Int} (h0 : 0 ≤ a) (h1 : a < D.size) (l : Bool) :
    ((D.ask a l).1 = 0 ∧ (D.ask a l).2.Up ∧ (D.Off → (D.ask a l).2.Off)) ∨ ((D.ask a l).1 = 9 ∧ (D.ask a l).2.Down ∧ l = true ∧ ¬ D.Off) := by
  obtain ⟨h2, h3⟩ := h
  unfold Dk.ask
  rw [if_neg (by rw [h2]; decide), if_neg (by omega), metB_off h3, if_neg (by decide)]
  cases l with
  | false => exact .inl ⟨rfl, ⟨h2, metC_off1 h3⟩, fun h => h⟩
  | true =>
    rw [if_pos rfl]
    by_cases ha : metB D.arms = true
    · rw [if_pos ha]; exact .inr ⟨rfl, rfl, rfl, fun h => by rw [metB_off h] at ha; cases ha⟩
    · rw [if_neg ha]; exact .inl ⟨rfl, ⟨h2, metC_off1 h3⟩, fun h => metC_off1 h⟩
theorem Dk.Up.read {D : Dk} (h : D.Up) {a : Int} (h0 : 0 ≤ a) (h1 : a < D.size) : (D.read a).1 = D.holds a ∧ (D.read a).2.1 = 0 ∧ (D.read a).2.2.Up ∧ (D.read a).2.2.size = D.size ∧ (D.read a).2.2.loose = D.loose ∧ (D.read a).2.2.firm = D.firm ∧ (D.read a).2.2.arms = D.arms := by
  obtain ⟨h2, h3⟩ := h
  have e : D.ask a false = (0, { D with fails := metC D.fails }) := by
    unfold Dk.ask
    rw [if_neg (by rw [h2]; decide), if_neg (by omega), metB_off h3, if_neg (by decide), if_neg (by decide)]
  unfold Dk.read
  rw [e, if_pos rfl]
  exact ⟨rfl, rfl, ⟨h2, metC_off1 h3⟩, rfl, rfl, rfl, rfl⟩
theorem holds_of {D D' : Dk} (h1 : D'.firm = D.firm) (h2 : D'.loose = D.loose) (k : Int) : D'.holds k = D.holds k := by
  unfold Dk.holds; rw [h1, h2]
/-- One write. -/
theorem Dk.Up.write {D : Dk} (h : D.Up) {a : Int} (h0 : 0 ≤ a) (h1 : a < D.size) (b : List UInt8) :
    ((D.write a b).1 = 0 ∧ (D.write a b).2.Up ∧ (D.write a b).2.size = D.size ∧ (D.write a b).2.firm = D.firm ∧ (D.write a b).2.loose = D.loose ++ [(a, b)] ∧ (D.Off → (D.write a b).2.Off)) ∨
    ((D.write a b).1 = 9 ∧ (D.write a b).2.Down ∧ (D.write a b).2.size = D.size ∧ (D.write a b).2.firm = D.firm ∧ (D.write a b).2.loose = D.loose ∧ ¬ D.Off) := by
  obtain ⟨g1, g2, g3, g4⟩ := Dk.ask_loose D a true
  unfold Dk.write
  rcases h.ask h0 h1 true with ⟨e, hu, ho⟩ | ⟨e, hd, _, hn⟩
  · rw [if_pos e]
    exact .inl ⟨rfl, hu, g3, g2, by show (D.ask a true).2.loose ++ [(a, b)] = _; rw [g1], ho⟩
  · rw [if_neg (by rw [e]; decide)]
    exact .inr ⟨e, hd, g3, g2, g1, hn⟩
theorem Dk.Up.sync {D : Dk} (h : D.Up) (h1 : 0 < D.size) :
    (D.sync.1 = 0 ∧ D.sync.2.Up ∧ D.sync.2.size = D.size ∧ D.sync.2.loose = [] ∧ (D.Off → D.sync.2.Off) ∧ ∀ k, D.sync.2.holds k = D.holds k) ∨
    (D.sync.1 = 9 ∧ D.sync.2.Down ∧ D.sync.2.size = D.size ∧ D.sync.2.firm = D.firm ∧ D.sync.2.loose = D.loose ∧ ¬ D.Off) := by
  obtain ⟨g1, g2, g3, g4⟩ := Dk.ask_loose D 0 true
  unfold Dk.sync
  rcases h.ask (Int.le_refl 0) h1 true with ⟨e, hu, ho⟩ | ⟨e, hd, _, hn⟩
  · rw [if_pos e]
    refine .inl ⟨rfl, hu, g3, rfl, ho, fun k => ?_⟩
    show ((D.ask 0 true).2.firmed fun _ => true).op.holds k = _
    rw [holds_op, holds_firmed]
    exact holds_of g2 g1 k
  · rw [if_neg (by rw [e]; decide)]
    exact .inr ⟨e, hd, g3, g2, g1, hn⟩
/-- The power has gone, and what is loose is among these writes. -/
structure Fell (D D' : Dk) (P : Int → List UInt8 → Prop) : Prop where
  down : D'.Down
  size : D'.size = D.size
  firm : D'.firm = D.firm
  loose : ∀ x ∈ D'.loose, x ∈ D.loose ∨ P x.1 x.2
  on : ¬ D.Off
/-- All has been written, and stays. -/
structure Laid (D D' : Dk) : Prop where
  up : D'.Up
  size : D'.size = D.size
  loose : D'.loose = []
  off : D.Off → D'.Off
def Among (a : Int) (xs : List (List UInt8)) (k : Int) (b : List UInt8) : Prop := ∃ j : Nat, xs[j]? = some b ∧ k = a + j
theorem lays_up : ∀ (xs : List (List UInt8)) (D : Dk) (a : Int), D.Up → 0 < D.size → 0 ≤ a → a + xs.length ≤ D.size →
    ((D.lays a xs).1 = 0 ∧ Laid D (D.lays a xs).2 ∧ ∀ k, (D.lays a xs).2.holds k = over a xs D.holds k) ∨ ((D.lays a xs).1 = 9 ∧ Fell D (D.lays a xs).2 (Among a xs))
  | [], D, a, hu, hs, h0, h1 => by
    show (D.sync.1 = 0 ∧ _) ∨ _
    rcases hu.sync hs with ⟨e, h2, h3, h4, ho, h5⟩ | ⟨e, h2, h3, h4, h5, hn⟩
    · refine .inl ⟨e, ⟨h2, h3, h4, ho⟩, fun k => (h5 k).trans ?_⟩
      unfold over
      split <;> simp
    · exact .inr ⟨e, h2, h3, h4, fun x hx => .inl (by rw [← h5]; exact hx), hn⟩
  | b :: xs, D, a, hu, hs, h0, h1 => by
    rw [List.length_cons] at h1
    unfold Dk.lays
    rcases hu.write (a := a) h0 (by omega) b with ⟨e, h2, h3, h4, h5, ho⟩ | ⟨e, h2, h3, h4, h5, hn⟩
    · rw [if_pos e]
      rcases lays_up xs (D.write a b).2 (a + 1) h2 (by omega) (by omega) (by omega) with ⟨g1, g2, g3⟩ | ⟨g1, g2⟩
      · refine .inl ⟨g1, ⟨g2.up, g2.size.trans h3, g2.loose, fun h => g2.off (ho h)⟩, fun k => ?_⟩
        rw [g3 k, ← over_cons]
        have hh : (D.write a b).2.holds = fun k => if a = k then b else D.holds k := funext fun k => by
          rw [← holds_write D a b k]
          exact holds_of (D := { D with loose := D.loose ++ [(a, b)] }) h4 h5 k
        rw [hh]
      · refine .inr ⟨g1, g2.down, g2.size.trans h3, g2.firm.trans h4, fun x hx => ?_, fun h => g2.on (ho h)⟩
        rcases g2.loose x hx with h | ⟨j, hj1, hj2⟩
        · rw [h5] at h
          rcases List.mem_append.1 h with h | h
          · exact .inl h
          · rw [List.mem_singleton.1 h]
            exact .inr ⟨0, rfl, by simp⟩
        · exact .inr ⟨j + 1, by simpa using hj1, by rw [hj2]; simp; omega⟩
    · rw [if_neg (by rw [e]; decide)]
      exact .inr ⟨e, h2, h3, h4, fun x hx => .inl (by rw [← h5]; exact hx), hn⟩

/-! ### a crash -/
def Dk.crash (D : Dk) (f : Nat → Bool) : Dk := { D.firmed f with out := false, arms := (false, 0), fails := (false, 0) }
theorem Dk.crash_calm (D : Dk) (f : Nat → Bool) : (D.crash f).Calm := ⟨rfl, rfl, rfl⟩
theorem settled_look (f : Nat → Bool) (k : Int) : ∀ (l : List (Int × List UInt8)) (i : Nat) (es : Ents), (settled f i l es).look k = es.look k ∨ ∃ b, (k, b) ∈ l ∧ (settled f i l es).look k = some b
  | [], i, es => .inl rfl
  | x :: l, i, es => by
    unfold settled
    rcases settled_look f k l (i + 1) (if f i then es.put x.1 x.2 else es) with h | ⟨b, hb, h⟩
    · rw [h]
      split
      · rw [Ents.look_put]
        split
        · rename_i hk
          exact .inr ⟨x.2, by rw [hk]; exact List.mem_cons_self .., rfl⟩
        · exact .inl rfl
      · exact .inl rfl
    · exact .inr ⟨b, List.mem_cons_of_mem _ hb, h⟩
/-- What a sector holds behind a crash: what it held firmly, or a loose write. -/
theorem holds_crash (D : Dk) (f : Nat → Bool) (k : Int) : (D.crash f).holds k = (D.firm.look k).getD (List.replicate 64 0) ∨ ∃ b, (k, b) ∈ D.loose ∧ (D.crash f).holds k = b := by
  have h0 : (D.crash f).holds k = ((settled f 0 D.loose D.firm).look k).getD (List.replicate 64 0) := rfl
  rw [h0]
  rcases settled_look f k D.loose 0 D.firm with h | ⟨b, hb, h⟩
  · rw [h]; exact .inl rfl
  · rw [h]; exact .inr ⟨b, hb, rfl⟩
theorem holds_firm {D : Dk} (h : D.loose = []) (k : Int) : D.holds k = (D.firm.look k).getD (List.replicate 64 0) := by
  unfold Dk.holds; rw [h]; rfl
theorem crash_quiet {D : Dk} (h : D.loose = []) (f : Nat → Bool) (k : Int) : (D.crash f).holds k = D.holds k := by
  rcases holds_crash D f k with e | ⟨b, hb, _⟩
  · rw [e, holds_firm h]
  · rw [h] at hb; cases hb
theorem crash_loose (D : Dk) (f : Nat → Bool) : (D.crash f).loose = [] := rfl
theorem crash_size (D : Dk) (f : Nat → Bool) : (D.crash f).size = D.size := rfl
/-- Behind a fall and a crash each sector holds what it held, or what was being written. -/
theorem Fell.crash {D D' : Dk} {P : Int → List UInt8 → Prop} (h : Fell D D' P) (hl : D.loose = []) (f : Nat → Bool) (k : Int) : (D'.crash f).holds k = D.holds k ∨ P k ((D'.crash f).holds k) := by
  rcases holds_crash D' f k with e | ⟨b, hb, e⟩
  · left; rw [e, h.firm, holds_firm hl]
  · rcases h.loose _ hb with h1 | h1
    · rw [hl] at h1; cases h1
    · right; rw [e]; exact h1
end Go.Proofs.Ytomgdfoahfhijaa
namespace Go.Proofs.Ytomgdfoahfhijaa

/-! ### leaves are told apart -/
theorem be4_inj {x y : Int} (hx0 : 0 ≤ x) (hx : x < 4294967296) (hy0 : 0 ≤ y) (hy : y < 4294967296) (h : be x 4 = be y 4) : x = y := by
  rw [← beN_be4 hx0 hx, ← beN_be4 hy0 hy, h]
theorem be2_inj {x y : Int} (hx0 : 0 ≤ x) (hx : x < 65536) (hy0 : 0 ≤ y) (hy : y < 65536) (h : be x 2 = be y 2) : x = y := by
  rw [← beN_be2 hx0 hx, ← beN_be2 hy0 hy, h]
theorem leaf_drop (t m n : Int) (x : List UInt8) : (leafOf t m n x).1.drop 4 = be t 4 ++ (be m 4 ++ (be n 2 ++ (be x.length 2 ++ pad48 x))) := by
  show (sealOf (leafB t m n x)).drop 4 = _
  rw [seal_drop4]
  unfold leafB
  simp only [List.append_assoc]
theorem leaf_key {t m n t' m' n' : Int} {x x' : List UInt8} (h : (leafOf t m n x).1 = (leafOf t' m' n' x').1) : be t 4 = be t' 4 ∧ be m 4 = be m' 4 ∧ be n 2 = be n' 2 := by
  have h1 := congrArg (fun l => l.drop 4) h
  simp only [leaf_drop] at h1
  obtain ⟨a, h2⟩ := List.append_inj h1 (by simp [length_be])
  obtain ⟨b, h3⟩ := List.append_inj h2 (by simp [length_be])
  obtain ⟨c, _⟩ := List.append_inj h3 (by simp [length_be])
  exact ⟨a, b, c⟩
theorem zero_key {t m n : Int} {x : List UInt8} (h : zero64 = (leafOf t m n x).1) : be t 4 = be 0 4 ∧ be m 4 = be 0 4 := by
  have h1 := congrArg (fun l => l.drop 4) h
  simp only [leaf_drop] at h1
  have e : zero64.drop 4 = be 0 4 ++ (be 0 4 ++ List.replicate 52 0) := by decide
  rw [e] at h1
  obtain ⟨a, h2⟩ := List.append_inj h1 (by simp [length_be])
  obtain ⟨b, _⟩ := List.append_inj h2 (by simp [length_be])
  exact ⟨a.symm, b.symm⟩

/-- A sector that says nothing of the entries from (t0, m0) on. -/
def Before (t0 m0 : Int) (s : List UInt8) : Prop :=
  s = zero64 ∨ ∃ (t m n : Int) (x : List UInt8), 0 ≤ t ∧ t < 4294967296 ∧ 0 ≤ m ∧ m < 4294967296 ∧ (t < t0 ∨ (t = t0 ∧ m < m0)) ∧ s = (leafOf t m n x).1
theorem Before.mono {t0 m0 t1 m1 : Int} {s : List UInt8} (h : Before t0 m0 s) (h1 : t0 < t1 ∨ (t0 = t1 ∧ m0 ≤ m1)) : Before t1 m1 s := by
  rcases h with h | ⟨t, m, n, x, a, b, c, d, e, f⟩
  · exact .inl h
  · exact .inr ⟨t, m, n, x, a, b, c, d, by omega, f⟩
theorem Before.ne {t0 m0 m n : Int} {s x : List UInt8} (h : Before t0 m0 s) (ht0 : 0 ≤ t0) (ht : t0 < 4294967296) (h1 : 1 ≤ m0) (hm : m0 ≤ m) (hm2 : m < 4294967296) : s ≠ (leafOf t0 m n x).1 := by
  intro e
  rcases h with h | ⟨t', m', n', x', a, b, c, d, f, g⟩
  · rw [h] at e
    obtain ⟨_, k⟩ := zero_key e
    have := be4_inj (by omega) hm2 (by omega) (by omega) k
    omega
  · rw [g] at e
    obtain ⟨k1, k2, _⟩ := leaf_key e
    have := be4_inj a b ht0 ht k1
    have := be4_inj c d (by omega) hm2 k2
    omega
theorem Before.leaf {t m n t0 m0 : Int} {x : List UInt8} (a : 0 ≤ t) (b : t < 4294967296) (c : 0 ≤ m) (d : m < 4294967296) (e : t < t0 ∨ (t = t0 ∧ m < m0)) : Before t0 m0 (leafOf t m n x).1 :=
  .inr ⟨t, m, n, x, a, b, c, d, e, rfl⟩
/-- The leaves of an entry. -/
def lvs (t : Int) (m : Nat) (b : List UInt8) : List (List UInt8) := (leavesOf t m b.length b).map Subtype.val
theorem length_lvs (t : Int) (m : Nat) {b : List UInt8} (h : b.length ≤ 40000) : ((lvs t m b).length : Int) = sectorsOf b.length := leaves_count t m h
theorem leaves_mem {t m n : Int} : ∀ (N : Nat) (x : List UInt8), x.length ≤ N → ∀ s ∈ leavesOf t m n x, ∃ y, s = leafOf t m n y
  | N, x, hN, s, hs => by
    by_cases h : x.length ≤ 48
    · rw [leavesOf_le h, List.mem_singleton] at hs
      exact ⟨x, hs⟩
    · rw [leavesOf_gt h] at hs
      rcases List.mem_cons.1 hs with hs | hs
      · exact ⟨x, hs⟩
      · match N, hN with
        | 0, hN => omega
        | N + 1, hN => exact leaves_mem N (x.drop 48) (by rw [List.length_drop]; omega) s hs
theorem lvs_mem {t : Int} {m : Nat} {b s : List UInt8} (h : s ∈ lvs t m b) : ∃ y, s = (leafOf t m b.length y).1 := by
  unfold lvs at h
  obtain ⟨q, hq, rfl⟩ := List.mem_map.1 h
  obtain ⟨y, rfl⟩ := leaves_mem b.length b (Nat.le_refl _) q hq
  exact ⟨y, rfl⟩
theorem lvs_get {t : Int} {m : Nat} {b s : List UInt8} {j : Nat} (h : (lvs t m b)[j]? = some s) : ∃ y, s = (leafOf t m b.length y).1 := lvs_mem (List.mem_of_getElem? h)
theorem length_lvs_get {t : Int} {m : Nat} {b s : List UInt8} {j : Nat} (h : (lvs t m b)[j]? = some s) : s.length = 64 := by
  obtain ⟨y, rfl⟩ := lvs_get h
  exact (leafOf t m b.length y).2

/-! ### what stands on a disk -/
def startOf (said : List (List UInt8)) (i : Nat) : Int := ((said.take i).map fun l => sectorsOf l.length).sum
theorem startOf_zero (said : List (List UInt8)) : startOf said 0 = 0 := rfl
theorem startOf_succ {said : List (List UInt8)} {i : Nat} {l : List UInt8} (h : said[i]? = some l) : startOf said (i + 1) = startOf said i + sectorsOf l.length := by
  unfold startOf
  rw [List.take_add_one, h]
  simp
theorem startOf_snoc {said : List (List UInt8)} {i : Nat} {l : List UInt8} (h : i ≤ said.length) : startOf (said ++ [l]) i = startOf said i := by
  unfold startOf
  rw [List.take_append_of_le_length h]
theorem startOf_mono {said : List (List UInt8)} (h4 : ∀ l ∈ said, l.length ≤ 40000) : ∀ (j i : Nat), i ≤ j → j ≤ said.length → 0 ≤ startOf said i ∧ startOf said i + ((j : Int) - i) ≤ startOf said j
  | 0, i, hi, _ => by
    obtain rfl : i = 0 := by omega
    rw [startOf_zero]; omega
  | j + 1, i, hi, hj => by
    obtain ⟨l, hl⟩ : ∃ l, said[j]? = some l := ⟨_, List.getElem?_eq_getElem (by omega)⟩
    have h1 := startOf_succ hl
    have h2 := (sectors_le (h4 l (List.mem_of_getElem? hl))).1
    by_cases h : i = j + 1
    · subst h
      obtain ⟨h3, h5⟩ := startOf_mono h4 j 0 (Nat.zero_le _) (by omega)
      obtain ⟨h3, _⟩ := startOf_mono h4 j j (Nat.le_refl _) (by omega)
      omega
    · obtain ⟨h3, h5⟩ := startOf_mono h4 j i (by omega) (by omega)
      omega
structure Vol (h : Int → List UInt8) (L : Wl) : Prop where
  len : ∀ k, (h k).length = 64
  title : h (L.turn % 2) = titleOf L.turn L.n
  other : h ((L.turn + 1) % 2) = zero64 ∨ ∃ t, 0 ≤ t ∧ t < L.turn ∧ h ((L.turn + 1) % 2) = titleOf t L.n
  said : ∀ (i : Nat) (l : List UInt8), L.said[i]? = some l → ∀ (j : Nat) (b : List UInt8), (lvs L.turn i l)[j]? = some b → h (fromOf L.n L.turn + startOf L.said i + j) = b
  fin : L.fin = startOf L.said L.said.length
  far : ∀ k, 0 ≤ k → k < L.n → Before (L.turn + 1) 1 (h (fromOf L.n (L.turn + 1) + k))
/-- The rest says nothing. -/
def Good (h : Int → List UInt8) (L : Wl) : Prop := Vol h L ∧ ∀ k, 0 ≤ k → k < L.n → Before L.turn L.said.length (h (fromOf L.n L.turn + k))
/-- .. or part of one more entry. -/
def Torn (h : Int → List UInt8) (L : Wl) : Prop := Vol h L ∧ ∃ b : List UInt8, b.length ≤ 40000 ∧
  (∀ k, 0 ≤ k → k < L.n → Before L.turn L.said.length (h (fromOf L.n L.turn + k)) ∨ ∃ (j : Nat) (s : List UInt8), (lvs L.turn L.said.length b)[j]? = some s ∧ k = L.fin + j ∧ h (fromOf L.n L.turn + k) = s) ∧
  (L.fin + sectorsOf b.length ≤ L.n → ∃ (j : Nat) (s : List UInt8), (lvs L.turn L.said.length b)[j]? = some s ∧ h (fromOf L.n L.turn + L.fin + j) ≠ s)
theorem Good.torn {h : Int → List UInt8} {L : Wl} (hg : Good h L) (hL : L.Ok) : Torn h L := by
  obtain ⟨h1, h2⟩ := hg
  refine ⟨h1, [], by decide, fun k a b => .inl (h2 k a b), fun hr => ⟨0, (leafOf L.turn L.said.length 0 []).1, ?_, ?_⟩⟩
  · unfold lvs
    rw [leavesOf_le (by decide)]
    rfl
  · have h3 := hL.s0; have h4 := hL.s1; have h5 := hL.n1; have h6 := hL.f1
    have e1 : sectorsOf (([] : List UInt8).length : Int) = 1 := rfl
    rw [e1] at hr
    have := (h2 L.fin (by omega) (by omega)).ne (m := L.said.length) (n := 0) (x := []) hL.t0 hL.t1 (by omega) (Int.le_refl _) (by omega)
    simpa using this
/-- The field as it is read. -/
def fieldH (h : Int → List UInt8) (L : Wl) : List (List UInt8) := (List.range L.n.toNat).map fun j : Nat => h (fromOf L.n L.turn + j)
theorem length_fieldH (h : Int → List UInt8) (L : Wl) : (fieldH h L).length = L.n.toNat := by simp [fieldH]
theorem fieldH_get {h : Int → List UInt8} {L : Wl} {j : Nat} (hj : j < L.n.toNat) : (fieldH h L)[j]? = some (h (fromOf L.n L.turn + j)) := by
  unfold fieldH
  rw [List.getElem?_map, List.getElem?_range hj]
  rfl
theorem take_drop_eq {f xs : List (List UInt8)} {a n : Nat} (hx : xs.length = n) (hn : a + n ≤ f.length) (h : ∀ (j : Nat) (s : List UInt8), xs[j]? = some s → f[a + j]? = some s) : (f.drop a).take n = xs := by
  apply List.ext_getElem?
  intro j
  by_cases hj : j < n
  · rw [List.getElem?_take, if_pos hj, List.getElem?_drop]
    obtain ⟨s, hs⟩ : ∃ s, xs[j]? = some s := ⟨_, List.getElem?_eq_getElem (by omega)⟩
    rw [hs, h j s hs]
  · rw [List.getElem?_take, if_neg hj, List.getElem?_eq_none (by omega)]
theorem Vol.saidAll {h : Int → List UInt8} {L : Wl} (hb : Vol h L) (hL : L.Ok) : ∀ (i : Nat), i ≤ L.said.length →
    saidGo L.turn (fieldH h L) ((fieldH h L).length + 1) [] 0 = saidGo L.turn (fieldH h L) ((fieldH h L).length + 1) (L.said.take i) (startOf L.said i).toNat
  | 0, _ => rfl
  | i + 1, hi => by
    rw [hb.saidAll hL i (by omega)]
    obtain ⟨l, hl⟩ : ∃ l, L.said[i]? = some l := ⟨_, List.getElem?_eq_getElem (by omega)⟩
    have h4 := hL.each l (List.mem_of_getElem? hl)
    obtain ⟨s1, s2⟩ := sectors_le h4
    have e1 := startOf_succ hl
    obtain ⟨m1, m2⟩ := startOf_mono hL.each L.said.length (i + 1) hi (Nat.le_refl _)
    obtain ⟨m3, _⟩ := startOf_mono hL.each L.said.length i (by omega) (Nat.le_refl _)
    have hf := hb.fin
    have hfn := hL.f1
    have hn0 := hL.n0
    have hlen := length_fieldH h L
    have hti : (L.said.take i).length = i := by rw [List.length_take]; omega
    have hst : standsOf L.turn (fieldH h L) (startOf L.said i).toNat (L.said.take i).length = some l := by
      rw [hti]
      refine stands_leaves h4 (by rw [hlen]; omega) ?_
      refine take_drop_eq (by have := length_lvs L.turn i h4; unfold lvs at this; omega) (by rw [hlen]; omega) (fun j s hs => ?_)
      have hj := (List.getElem?_eq_some_iff.1 hs).1
      have hjl : (j : Int) < sectorsOf l.length := by have := length_lvs L.turn i h4; unfold lvs at this; omega
      rw [fieldH_get (by omega)]
      have := hb.said i l hl j s hs
      rw [← this]
      congr 2
      omega
    rw [saidGo_step (fun s hs => by
      unfold fieldH at hs
      obtain ⟨j, _, rfl⟩ := List.mem_map.1 hs
      exact hb.len _) (by rw [hlen]; omega) hst]
    have e2 : L.said.take i ++ [l] = L.said.take (i + 1) := by rw [List.take_add_one, hl]; rfl
    rw [e2]
    congr 1
    omega
theorem stands_inv {turn : Int} {f : List (List UInt8)} (hf : ∀ s ∈ f, s.length = 64) {a m : Nat} {l : List UInt8} (h : standsOf turn f a m = some l) : (f.drop a).take (sectorsOf l.length).toNat = lvs turn m l := by
  unfold standsOf at h
  split at h
  · cases h
  · rename_i s hs
    split at h
    · cases h
    · rename_i hno
      split at h
      · rename_i heq
        have ha := (List.getElem?_eq_some_iff.1 hs).1
        have h1 : sectorsOf (sizeAt s) = 0 ∨ (0 ≤ (sizeAt s : Int) ∧ (sizeAt s : Int) ≤ 40000 ∧ (sizeAt s : Int) ≤ 48 * sectorsOf (sizeAt s) ∧ 0 < sectorsOf (sizeAt s)) := by
          unfold sectorsOf; split
          · exact .inl rfl
          · split <;> omega
        have hlen := length_allOf hf a (sectorsOf (sizeAt s)).toNat (by omega)
        have hsz : ((allOf f a (sectorsOf (sizeAt s)).toNat).take (sizeAt s)).length = sizeAt s := by rw [List.length_take, hlen]; omega
        have h2 := Option.some.inj h
        rw [h2] at hsz heq
        unfold lvs
        rw [hsz]
        exact heq.symm
      · cases h
/-- An opening finds just that. -/
theorem Torn.found {h : Int → List UInt8} {L : Wl} (ht : Torn h L) (hL : L.Ok) (hb : L.broken = false) : foundL L.n L.turn (fieldH h L) = L := by
  obtain ⟨hbk, b, h4, hk, hmiss⟩ := ht
  have hall := hbk.saidAll hL L.said.length (Nat.le_refl _)
  have hfin := hbk.fin
  have hlen := length_fieldH h L
  have hs0 := hL.s0; have hs1 := hL.s1; have hn1 := hL.n1; have hf1 := hL.f1; have ht0 := hL.t0; have ht1 := hL.t1
  rw [List.take_length, ← hfin] at hall
  obtain ⟨s1, s2⟩ := sectors_le h4
  have hnone : standsOf L.turn (fieldH h L) L.fin.toNat L.said.length = none := by
    cases hq : standsOf L.turn (fieldH h L) L.fin.toNat L.said.length with
    | none => rfl
    | some l =>
      exfalso
      have hfl : ∀ s ∈ fieldH h L, s.length = 64 := fun s hs => by
        unfold fieldH at hs
        obtain ⟨j, _, rfl⟩ := List.mem_map.1 hs
        exact hbk.len _
      obtain ⟨g1, g2, g3⟩ := stands_some hfl hq
      have hst := stands_inv hfl hq
      have hget : ∀ (j : Nat) (s : List UInt8), (lvs L.turn L.said.length l)[j]? = some s → h (fromOf L.n L.turn + L.fin + j) = s := fun j s hs => by
        have hj := (List.getElem?_eq_some_iff.1 hs).1
        have hjl := length_lvs L.turn L.said.length g3
        rw [← hst, List.getElem?_take, if_pos (by omega), List.getElem?_drop, fieldH_get (by omega)] at hs
        rw [← Option.some.inj hs]
        congr 1
        omega
      have hor : ∀ (j : Nat) (s : List UInt8), (lvs L.turn L.said.length l)[j]? = some s → ∃ s', (lvs L.turn L.said.length b)[j]? = some s' ∧ h (fromOf L.n L.turn + L.fin + j) = s' := fun j s hs => by
        have hj := (List.getElem?_eq_some_iff.1 hs).1
        have hjl := length_lvs L.turn L.said.length g3
        obtain ⟨y, hy⟩ := lvs_get hs
        have e := hget j s hs
        rcases hk (L.fin + j) (by omega) (by omega) with h1 | ⟨j', s', h1, h2, h3⟩
        · exfalso
          rw [← Int.add_assoc, e] at h1
          exact h1.ne ht0 ht1 (by omega) (Int.le_refl _) (by omega) hy
        · obtain rfl : j = j' := by omega
          exact ⟨s', h1, by rw [← h3, Int.add_assoc]⟩
      have hl0 := length_lvs L.turn L.said.length g3
      obtain ⟨s0, hs0'⟩ : ∃ s, (lvs L.turn L.said.length l)[0]? = some s := ⟨_, List.getElem?_eq_getElem (by omega)⟩
      obtain ⟨s0', h0, h0'⟩ := hor 0 s0 hs0'
      have e0 := hget 0 s0 hs0'
      have hlb : l.length = b.length := by
        obtain ⟨y, hy⟩ := lvs_get hs0'
        obtain ⟨y', hy'⟩ := lvs_get h0
        have hyy : (leafOf L.turn L.said.length l.length y).1 = (leafOf L.turn L.said.length b.length y').1 := by rw [← hy, ← hy', ← e0, ← h0']
        obtain ⟨_, _, k3⟩ := leaf_key hyy
        have := be2_inj (by omega) (by omega) (by omega) (by omega) k3
        omega
      obtain ⟨j, s, hj, hne⟩ := hmiss (by rw [← hlb]; omega)
      have hjb := length_lvs L.turn L.said.length h4
      have hjl := (List.getElem?_eq_some_iff.1 hj).1
      obtain ⟨s1', hs1'⟩ : ∃ s, (lvs L.turn L.said.length l)[j]? = some s := ⟨_, List.getElem?_eq_getElem (by rw [hlb] at hl0; omega)⟩
      obtain ⟨s2, h2, h2'⟩ := hor j s1' hs1'
      rw [hj] at h2
      rw [Option.some.inj h2] at hne
      exact hne h2'
  rw [saidGo_none hnone] at hall
  unfold foundL
  rw [hall]
  have : ((L.fin.toNat : Nat) : Int) = L.fin := by omega
  simp only [this]
  cases L
  simp only at hb
  subst hb
  rfl
end Go.Proofs.Ytomgdfoahfhijaa
namespace Go.Proofs.Ytomgdfoahfhijaa

/-- It has been read only. -/
structure Quiet (D D' : Dk) : Prop where
  up : D'.Up
  size : D'.size = D.size
  loose : D'.loose = D.loose
  firm : D'.firm = D.firm
  arms : D'.arms = D.arms
theorem Quiet.holds {D D' : Dk} (h : Quiet D D') (k : Int) : D'.holds k = D.holds k := holds_of h.firm h.loose k
theorem Quiet.tr {D D1 D2 : Dk} (h : Quiet D D1) (h' : Quiet D1 D2) : Quiet D D2 := ⟨h'.up, h'.size.trans h.size, h'.loose.trans h.loose, h'.firm.trans h.firm, h'.arms.trans h.arms⟩
theorem Quiet.refl {D : Dk} (h : D.Up) : Quiet D D := ⟨h, rfl, rfl, rfl, rfl⟩
theorem Dk.Up.reads {D : Dk} (h : D.Up) {a : Int} (h0 : 0 ≤ a) (h1 : a < D.size) : ∃ D', D.read a = (D.holds a, 0, D') ∧ Quiet D D' := by
  obtain ⟨g1, g2, g3, g4, g5, g6, g7⟩ := h.read h0 h1
  exact ⟨(D.read a).2.2, by rw [← g1, ← g2], g3, g4, g5, g6, g7⟩
theorem count1_up {D : Dk} (h : D.Up) {k : Int} (h0 : 0 ≤ k) (h1 : k < D.size) (best : Option (Int × Int)) : ∃ D', D.count1 k best = (0, titleAt D.size k (D.holds k) best, D') ∧ Quiet D D' := by
  obtain ⟨D', e, q⟩ := h.reads h0 h1
  refine ⟨D', ?_, q⟩
  unfold Dk.count1
  rw [e, if_pos rfl]
  simp only [q.size]
theorem titleAt_zero (size k : Int) (best : Option (Int × Int)) : titleAt size k zero64 best = best := by
  unfold titleAt
  have : titleN zero64 = 0 := rfl
  rw [this]
  simp [mayB]
theorem titleAt_new {size k n t : Int} {best : Option (Int × Int)} (hm : mayB size n = true) (hn : n ≤ 1000) (ht0 : 0 ≤ t) (ht : t < 4294967296) (hk : t % 2 = k) (hb : newer t best = true) (hn0 : 0 ≤ n) : titleAt size k (titleOf t n) best = some (n, t) := by
  unfold titleAt
  rw [titleN_title hn0 (by omega), titleT_title ht0 ht, hm, hb, hk]
  simp
theorem titleAt_old {size k n t u : Int} (ht0 : 0 ≤ t) (ht : t < 4294967296) (hu : t < u) : titleAt size k (titleOf t n) (some (n, u)) = some (n, u) := by
  unfold titleAt
  rw [titleT_title ht0 ht]
  have : newer t (some (n, u)) = false := by simp [newer]; omega
  rw [this]
  simp
theorem titleAt_some {size k n t u : Int} (ht0 : 0 ≤ t) (ht : t < 4294967296) (hu : t < u) : newer u (titleAt size k (titleOf t n) none) = true := by
  unfold titleAt
  rw [titleT_title ht0 ht]
  split
  · simp [newer]; omega
  · rfl
theorem mayB_ok {L : Wl} (hL : L.Ok) {size : Int} (hs : 2 * L.n + 2 ≤ size) : mayB size L.n = true := by
  have := hL.n0; have := hL.n1
  simp [mayB]; omega
theorem counts_up {D : Dk} {L : Wl} (h : D.Up) (hb : Vol D.holds L) (hL : L.Ok) (hs : 2 * L.n + 2 ≤ D.size) : ∃ D', D.counts = (0, some (L.n, L.turn), D') ∧ Quiet D D' := by
  have hn0 := hL.n0; have hn1 := hL.n1; have ht0 := hL.t0; have ht1 := hL.t1
  have hm := mayB_ok hL hs
  obtain ⟨D1, e1, q1⟩ := count1_up h (k := 0) (by omega) (by omega) none
  obtain ⟨D2, e2, q2⟩ := count1_up q1.up (k := 1) (by omega) (by rw [q1.size]; omega) (titleAt D.size 0 (D.holds 0) none)
  have hkey : titleAt D1.size 1 (D1.holds 1) (titleAt D.size 0 (D.holds 0) none) = some (L.n, L.turn) := by
    rw [q1.size, q1.holds]
    have ht := hb.title
    have ho := hb.other
    have hp : L.turn % 2 = 0 ∨ L.turn % 2 = 1 := by omega
    rcases hp with hp | hp
    · rw [hp] at ht
      rw [show (L.turn + 1) % 2 = 1 by omega] at ho
      rw [ht, titleAt_new hm hn1 ht0 ht1 hp rfl (by omega)]
      rcases ho with ho | ⟨t, h1, h2, ho⟩
      · rw [ho, titleAt_zero]
      · rw [ho, titleAt_old h1 (by omega) h2]
    · rw [hp] at ht
      rw [show (L.turn + 1) % 2 = 0 by omega] at ho
      rw [ht]
      rcases ho with ho | ⟨t, h1, h2, ho⟩
      · rw [ho, titleAt_zero, titleAt_new hm hn1 ht0 ht1 hp rfl (by omega)]
      · rw [ho]
        exact titleAt_new hm hn1 ht0 ht1 hp (titleAt_some h1 (by omega) h2) (by omega)
  refine ⟨D2, ?_, q1.tr q2⟩
  unfold Dk.counts
  rw [e1]
  simp only
  rw [if_pos trivial, e2, hkey]
  simp only
  rw [if_pos trivial]
theorem fieldOf_up (fr : Int) : ∀ (n i : Nat) (D : Dk) (acc : List (List UInt8)), D.Up → 0 ≤ fr → fr + i + n ≤ D.size →
    ∃ D', Dk.fieldOf fr n i D acc = (0, acc ++ (List.range n).map (fun j : Nat => D.holds (fr + i + j)), D') ∧ Quiet D D'
  | 0, i, D, acc, hc, h0, h1 => ⟨D, by simp [Dk.fieldOf], Quiet.refl hc⟩
  | n + 1, i, D, acc, hc, h0, h1 => by
    obtain ⟨D1, e, q⟩ := hc.reads (a := fr + i) (by omega) (by omega)
    obtain ⟨D', g1, g2⟩ := fieldOf_up fr n (i + 1) D1 (acc ++ [D.holds (fr + i)]) q.up h0 (by rw [q.size]; omega)
    refine ⟨D', ?_, q.tr g2⟩
    unfold Dk.fieldOf
    rw [e, if_pos rfl, g1, List.append_assoc]
    congr 3
    rw [List.range_succ_eq_map, List.map_cons, List.map_map, List.singleton_append]
    congr 1
    · simp
    · refine List.map_congr_left fun j _ => ?_
      simp only [Function.comp, q.holds]
      congr 1
      omega
/-- Noughts, from a sector on. -/
def Noughts (a n : Int) (k : Int) (b : List UInt8) : Prop := a ≤ k ∧ k < a + n ∧ b = zero64
theorem clears_up (fr : Int) : ∀ (rest : List (List UInt8)) (D : Dk) (i : Nat) (sync : Bool), D.Up → 0 ≤ fr → fr + i + rest.length ≤ D.size → 0 < D.size → (sync = false → D.loose = []) →
    ((D.clearsGo fr i rest sync).1 = 0 ∧ Laid D (D.clearsGo fr i rest sync).2 ∧ (∀ k, (D.clearsGo fr i rest sync).2.holds k = D.holds k ∨ (Noughts (fr + i) rest.length k ((D.clearsGo fr i rest sync).2.holds k))) ∧
      ∀ (j : Nat) (s : List UInt8), rest[j]? = some s → s ≠ zero64 → (D.clearsGo fr i rest sync).2.holds (fr + i + j) = zero64) ∨
    ((D.clearsGo fr i rest sync).1 = 9 ∧ Fell D (D.clearsGo fr i rest sync).2 (Noughts (fr + i) rest.length))
  | [], D, i, sync, hu, h0, h1, hs, hl => by
    unfold Dk.clearsGo
    cases sync with
    | false => exact .inl ⟨rfl, ⟨hu, rfl, hl rfl, fun h => h⟩, fun k => .inl rfl, fun j s hj => by simp at hj⟩
    | true =>
      rw [if_pos rfl]
      rcases hu.sync hs with ⟨e, h2, h3, h4, ho, h5⟩ | ⟨e, h2, h3, h4, h5, hn⟩
      · exact .inl ⟨e, ⟨h2, h3, h4, ho⟩, fun k => .inl (h5 k), fun j s hj => by simp at hj⟩
      · exact .inr ⟨e, h2, h3, h4, fun x hx => .inl (by rw [← h5]; exact hx), hn⟩
  | s :: rest, D, i, sync, hu, h0, h1, hs, hl => by
    rw [List.length_cons] at h1
    unfold Dk.clearsGo
    have hN : ∀ k b, Noughts (fr + ((i + 1 : Nat) : Int)) rest.length k b → Noughts (fr + i) ((s :: rest).length : Nat) k b := fun k b h => by
      obtain ⟨a, c, d⟩ := h
      refine ⟨by omega, ?_, d⟩
      rw [List.length_cons]; omega
    by_cases hz : s = zero64
    · rw [if_pos hz]
      rcases clears_up fr rest D (i + 1) sync hu h0 (by omega) hs hl with ⟨g1, g2, g3, g4⟩ | ⟨g1, g2⟩
      · refine .inl ⟨g1, g2, fun k => (g3 k).imp id (hN k _), fun j x hj hx => ?_⟩
        cases j with
        | zero => exact absurd ((Option.some.inj hj).symm.trans hz) hx
        | succ j =>
          rw [show fr + (i : Int) + ((j + 1 : Nat) : Int) = fr + ((i + 1 : Nat) : Int) + (j : Int) by omega]
          exact g4 j x (by simpa using hj) hx
      · exact .inr ⟨g1, g2.down, g2.size, g2.firm, fun x hx => (g2.loose x hx).imp id (hN _ _), g2.on⟩
    · rw [if_neg hz]
      rcases hu.write (a := fr + i) (by omega) (by omega) zero64 with ⟨e, h2, h3, h4, h5, ho⟩ | ⟨e, h2, h3, h4, h5, hn⟩
      · rw [if_pos e]
        have hhold : ∀ k, (D.write (fr + i) zero64).2.holds k = if fr + i = k then zero64 else D.holds k := fun k => by
          rw [← holds_write D (fr + i) zero64 k]
          exact holds_of (D := { D with loose := D.loose ++ [(fr + i, zero64)] }) h4 h5 k
        rcases clears_up fr rest (D.write (fr + i) zero64).2 (i + 1) true h2 h0 (by omega) (by omega) (fun h => by cases h) with ⟨g1, g2, g3, g4⟩ | ⟨g1, g2⟩
        · refine .inl ⟨g1, ⟨g2.up, g2.size.trans h3, g2.loose, fun h => g2.off (ho h)⟩, fun k => ?_, fun j x hj hx => ?_⟩
          · rcases g3 k with h | h
            · rw [h, hhold]
              by_cases hk : fr + i = k
              · rw [if_pos hk]
                exact .inr ⟨by omega, by rw [List.length_cons]; omega, rfl⟩
              · rw [if_neg hk]; exact .inl rfl
            · exact .inr (hN k _ h)
          · cases j with
            | zero =>
              rw [show fr + (i : Int) + ((0 : Nat) : Int) = fr + i by omega]
              rcases g3 (fr + i) with h | h
              · rw [h, hhold, if_pos rfl]
              · exact h.2.2
            | succ j =>
              rw [show fr + (i : Int) + ((j + 1 : Nat) : Int) = fr + ((i + 1 : Nat) : Int) + (j : Int) by omega]
              exact g4 j x (by simpa using hj) hx
        · refine .inr ⟨g1, g2.down, g2.size.trans h3, g2.firm.trans h4, fun x hx => ?_, fun h => g2.on (ho h)⟩
          rcases g2.loose x hx with h | h
          · rw [h5] at h
            rcases List.mem_append.1 h with h | h
            · exact .inl h
            · rw [List.mem_singleton.1 h]
              exact .inr ⟨by omega, by rw [List.length_cons]; omega, rfl⟩
          · exact .inr (hN _ _ h)
      · rw [if_neg (by rw [e]; decide)]
        exact .inr ⟨e, h2, h3, h4, fun x hx => .inl (by rw [← h5]; exact hx), hn⟩
/-- Where there is nothing to clear, nothing is written. -/
theorem clears_clean (fr : Int) : ∀ (rest : List (List UInt8)) (D : Dk) (i : Nat), (∀ s ∈ rest, s = zero64) → D.clearsGo fr i rest false = (0, D)
  | [], D, i, _ => rfl
  | s :: rest, D, i, h => by
    unfold Dk.clearsGo
    rw [if_pos (h s (List.mem_cons_self ..))]
    exact clears_clean fr rest D (i + 1) fun x hx => h x (List.mem_cons_of_mem _ hx)
end Go.Proofs.Ytomgdfoahfhijaa
namespace Go.Proofs.Ytomgdfoahfhijaa

def Clean (h : Int → List UInt8) (L : Wl) : Prop := ∀ k, L.fin ≤ k → k < L.n → h (fromOf L.n L.turn + k) = zero64
theorem from_two {n t : Int} (hn : 4 ≤ n) : (fromOf n t = 2 ∧ fromOf n (t + 1) = 2 + n) ∨ (fromOf n t = 2 + n ∧ fromOf n (t + 1) = 2) := by
  unfold fromOf
  have : t % 2 = 0 ∨ t % 2 = 1 := by omega
  rcases this with h | h
  · left; rw [h, show (t + 1) % 2 = 1 by omega]; omega
  · right; rw [h, show (t + 1) % 2 = 0 by omega]; omega
theorem from_again (n t : Int) : fromOf n (t + 1 + 1) = fromOf n t := by
  unfold fromOf
  rw [show (t + 1 + 1) % 2 = t % 2 by omega]
/-- What is turned in the rest of the field leaves the book. -/
theorem Vol.rest {h h' : Int → List UInt8} {L : Wl} (hb : Vol h L) (hL : L.Ok) (hlen : ∀ k, (h' k).length = 64) (hk : ∀ k, ¬ (fromOf L.n L.turn + L.fin ≤ k ∧ k < fromOf L.n L.turn + L.n) → h' k = h k) : Vol h' L := by
  have hn0 := hL.n0; have hf := from_two (t := L.turn) hL.n0; have hf1 := hL.f1; have hs1 := hL.s1; have hs0 := hL.s0
  refine ⟨hlen, ?_, ?_, fun i l hl j b hj => ?_, hb.fin, fun k h0 h1 => ?_⟩
  · rw [hk _ (by omega)]; exact hb.title
  · rw [hk _ (by omega)]; exact hb.other
  · have hi := (List.getElem?_eq_some_iff.1 hl).1
    have h4 := hL.each l (List.mem_of_getElem? hl)
    have e1 := startOf_succ hl
    obtain ⟨m1, m2⟩ := startOf_mono hL.each L.said.length (i + 1) hi (Nat.le_refl _)
    have hjl := (List.getElem?_eq_some_iff.1 hj).1
    have hll := length_lvs L.turn i h4
    have hfin := hb.fin
    rw [hk _ (by omega)]
    exact hb.said i l hl j b hj
  · rw [hk _ (by omega)]; exact hb.far k h0 h1
/-- Some of the rest is laid over with noughts. -/
theorem Torn.noughts {h h' : Int → List UInt8} {L : Wl} (ht : Torn h L) (hL : L.Ok) (hk : ∀ k, h' k = h k ∨ (fromOf L.n L.turn + L.fin ≤ k ∧ k < fromOf L.n L.turn + L.n ∧ h' k = zero64)) : Torn h' L := by
  obtain ⟨hb, b, h4, h1, h2⟩ := ht
  have hs0 := hL.s0; have hs1 := hL.s1; have hn1 := hL.n1; have hf1 := hL.f1
  have hlen : ∀ k, (h' k).length = 64 := fun k => by
    rcases hk k with e | ⟨_, _, e⟩
    · rw [e]; exact hb.len k
    · rw [e]; rfl
  refine ⟨hb.rest hL hlen (fun k hn => ?_), b, h4, fun k a c => ?_, fun hr => ?_⟩
  · rcases hk k with e | ⟨x, y, _⟩
    · exact e
    · exact absurd ⟨x, y⟩ hn
  · rcases hk (fromOf L.n L.turn + k) with e | ⟨_, _, e⟩
    · rw [e]; exact h1 k a c
    · exact .inl (.inl e)
  · obtain ⟨j, s, hj, hne⟩ := h2 hr
    refine ⟨j, s, hj, ?_⟩
    rcases hk (fromOf L.n L.turn + L.fin + j) with e | ⟨_, _, e⟩
    · rw [e]; exact hne
    · rw [e]
      obtain ⟨y, rfl⟩ := lvs_get hj
      exact Before.ne (t0 := L.turn) (m0 := 1) (.inl rfl) hL.t0 hL.t1 (Int.le_refl _) (by omega) (by omega)
theorem Good.rest {h : Int → List UInt8} {L : Wl} (hb : Vol h L) (hL : L.Ok) (hc : Clean h L) : Good h L := by
  refine ⟨hb, fun k h0 h1 => ?_⟩
  by_cases hk : L.fin ≤ k
  · exact .inl (hc k hk h1)
  · have hs1 := hL.s1; have hn1 := hL.n1; have hf1 := hL.f1
    -- below the end there are leaves of what was said
    have hfin := hb.fin
    have key : ∀ (N : Nat), N ≤ L.said.length → k < startOf L.said N → ∃ (i : Nat) (l : List UInt8), i < N ∧ L.said[i]? = some l ∧ startOf L.said i ≤ k ∧ k < startOf L.said i + sectorsOf l.length := by
      intro N
      induction N with
      | zero => intro _ h; rw [startOf_zero] at h; omega
      | succ N ih =>
        intro hN h
        obtain ⟨l, hl⟩ : ∃ l, L.said[N]? = some l := ⟨_, List.getElem?_eq_getElem (by omega)⟩
        by_cases hk2 : k < startOf L.said N
        · obtain ⟨i, l', a, b, c, d⟩ := ih (by omega) hk2
          exact ⟨i, l', by omega, b, c, d⟩
        · exact ⟨N, l, by omega, hl, by omega, by rw [← startOf_succ hl]; exact h⟩
    obtain ⟨i, l, hi, hl, h2, h3⟩ := key L.said.length (Nat.le_refl _) (by omega)
    have h4 := hL.each l (List.mem_of_getElem? hl)
    have hll := length_lvs L.turn i h4
    obtain ⟨s, hs⟩ : ∃ s, (lvs L.turn i l)[(k - startOf L.said i).toNat]? = some s := ⟨_, List.getElem?_eq_getElem (by omega)⟩
    have e := hb.said i l hl _ s hs
    rw [show fromOf L.n L.turn + startOf L.said i + (((k - startOf L.said i).toNat : Nat) : Int) = fromOf L.n L.turn + k by omega] at e
    rw [e]
    obtain ⟨y, rfl⟩ := lvs_get hs
    exact Before.leaf hL.t0 hL.t1 (by omega) (by omega) (.inr ⟨rfl, by omega⟩)
theorem openF_up {D : Dk} {L : Wl} (h : D.Up) (ht : Torn D.holds L) (hL : L.Ok) (hb : L.broken = false) (hl : D.loose = []) (hs : 2 * L.n + 2 ≤ D.size) :
    (∃ D', D.openF L.n L.turn (fieldH D.holds L) = (0, D', some L) ∧ Laid D D' ∧ Torn D'.holds L ∧ Clean D'.holds L) ∨
    (∃ D', D.openF L.n L.turn (fieldH D.holds L) = (9, D', none) ∧ Fell D D' (Noughts (fromOf L.n L.turn + L.fin) (L.n - L.fin))) := by
  have hs0 := hL.s0; have hs1 := hL.s1; have hn0 := hL.n0; have hn1 := hL.n1; have hf1 := hL.f1
  have hf := from_two (t := L.turn) hL.n0
  have hlen := length_fieldH D.holds L
  have hdl : ((fieldH D.holds L).drop L.fin.toNat).length = L.n.toNat - L.fin.toNat := by rw [List.length_drop, hlen]
  have hne : ¬ L.said = [] := fun e => by rw [e] at hs0; simp at hs0
  have hcl := clears_up (fromOf L.n L.turn) ((fieldH D.holds L).drop L.fin.toNat) D L.fin.toNat (decide (0 < D.loose.length)) h (by omega) (by omega) (by omega) (fun _ => hl)
  have hN : ∀ k b, Noughts (fromOf L.n L.turn + ((L.fin.toNat : Nat) : Int)) (((fieldH D.holds L).drop L.fin.toNat).length : Nat) k b → Noughts (fromOf L.n L.turn + L.fin) (L.n - L.fin) k b := fun k b hk => by
    obtain ⟨a, c, d⟩ := hk
    exact ⟨by omega, by omega, d⟩
  unfold Dk.openF
  rw [ht.found hL hb, if_neg hne]
  unfold Dk.clears
  rcases hcl with ⟨g1, g2, g3, g4⟩ | ⟨g1, g2⟩
  · rw [if_pos g1]
    refine .inl ⟨_, rfl, g2, ht.noughts hL (fun k => ?_), fun k h0 h1 => ?_⟩
    · rcases g3 k with e | e
      · exact .inl e
      · obtain ⟨a, c, d⟩ := hN k _ e
        exact .inr ⟨a, by omega, d⟩
    · obtain ⟨s, hsx⟩ : ∃ s, ((fieldH D.holds L).drop L.fin.toNat)[(k - L.fin).toNat]? = some s := ⟨_, List.getElem?_eq_getElem (by omega)⟩
      have e1 : fromOf L.n L.turn + ((L.fin.toNat : Nat) : Int) + (((k - L.fin).toNat : Nat) : Int) = fromOf L.n L.turn + k := by omega
      have hsv : s = D.holds (fromOf L.n L.turn + k) := by
        rw [List.getElem?_drop, fieldH_get (by omega)] at hsx
        rw [← Option.some.inj hsx]
        congr 1
        omega
      by_cases hz : s = zero64
      · rcases g3 (fromOf L.n L.turn + k) with e | e
        · rw [e, ← hsv, hz]
        · exact e.2.2
      · have := g4 _ s hsx hz
        rwa [e1] at this
  · rw [if_neg (by rw [g1]; decide)]
    refine .inr ⟨_, by rw [g1], g2.down, g2.size, g2.firm, fun x hx => (g2.loose x hx).imp id (hN _ _), g2.on⟩
theorem openF_clean {D : Dk} {L : Wl} (h : D.Up) (ht : Torn D.holds L) (hL : L.Ok) (hb : L.broken = false) (hl : D.loose = []) (hc : Clean D.holds L) : D.openF L.n L.turn (fieldH D.holds L) = (0, D, some L) := by
  have hs0 := hL.s0; have hs1 := hL.s1; have hf1 := hL.f1
  have hne : ¬ L.said = [] := fun e => by rw [e] at hs0; simp at hs0
  have hcl := clears_clean (fromOf L.n L.turn) ((fieldH D.holds L).drop L.fin.toNat) D L.fin.toNat (fun s hs => by
    obtain ⟨j, hj⟩ := List.getElem?_of_mem hs
    have hjl := (List.getElem?_eq_some_iff.1 hj).1
    rw [List.length_drop, length_fieldH] at hjl
    rw [List.getElem?_drop, fieldH_get (by omega)] at hj
    rw [← Option.some.inj hj]
    exact hc _ (by omega) (by omega))
  unfold Dk.openF
  rw [ht.found hL hb, if_neg hne]
  unfold Dk.clears
  have hd : decide (0 < D.loose.length) = false := by rw [hl]; rfl
  rw [hd, hcl, if_pos rfl]
/-- An opening of a disk that may be torn. -/
theorem opens_up {D : Dk} {L : Wl} (h : D.Up) (ht : Torn D.holds L) (hL : L.Ok) (hb : L.broken = false) (hl : D.loose = []) (hs : 2 * L.n + 2 ≤ D.size) :
    (∃ D', D.opens = (0, D', some L) ∧ Laid D D' ∧ Torn D'.holds L ∧ Clean D'.holds L) ∨
    (∃ D', D.opens = (9, D', none) ∧ Fell D D' (Noughts (fromOf L.n L.turn + L.fin) (L.n - L.fin))) := by
  have hn0 := hL.n0
  have hf := from_two (t := L.turn) hL.n0
  obtain ⟨D1, e1, q1⟩ := counts_up h ht.1 hL hs
  obtain ⟨D2, e2, q2⟩ := fieldOf_up (fromOf L.n L.turn) L.n.toNat 0 D1 [] q1.up (by omega) (by rw [q1.size]; omega)
  have q := q1.tr q2
  have hfun : D2.holds = D.holds := funext q.holds
  have efield : ([] : List (List UInt8)) ++ (List.range L.n.toNat).map (fun j : Nat => D1.holds (fromOf L.n L.turn + ((0 : Nat) : Int) + j)) = fieldH D2.holds L := by
    unfold fieldH
    rw [List.nil_append]
    refine List.map_congr_left fun j _ => ?_
    rw [q1.holds, q.holds]
    congr 1
    omega
  have ho : D.opens = D2.openF L.n L.turn (fieldH D2.holds L) := by
    unfold Dk.opens
    rw [e1]
    simp only
    unfold Dk.openR
    simp only
    rw [e2]
    simp only
    rw [if_pos trivial, efield]
  rw [ho]
  rcases openF_up q.up (by rw [hfun]; exact ht) hL hb (q.loose.trans hl) (by rw [q.size]; exact hs) with ⟨D', a, b, c, d⟩ | ⟨D', a, b⟩
  · exact .inl ⟨D', a, ⟨b.up, b.size.trans q.size, b.loose, fun h => b.off (by unfold Dk.Off; rw [q.arms]; exact h)⟩, c, d⟩
  · exact .inr ⟨D', a, b.down, b.size.trans q.size, b.firm.trans q.firm, fun x hx => by rw [← q.loose]; exact b.loose x hx, fun h => b.on (by unfold Dk.Off; rw [q.arms]; exact h)⟩
/-- .. and of a clean one: nothing is written. -/
theorem opens_clean {D : Dk} {L : Wl} (h : D.Up) (ht : Torn D.holds L) (hL : L.Ok) (hb : L.broken = false) (hl : D.loose = []) (hs : 2 * L.n + 2 ≤ D.size) (hc : Clean D.holds L) : ∃ D', D.opens = (0, D', some L) ∧ Quiet D D' := by
  have hn0 := hL.n0
  have hf := from_two (t := L.turn) hL.n0
  obtain ⟨D1, e1, q1⟩ := counts_up h ht.1 hL hs
  obtain ⟨D2, e2, q2⟩ := fieldOf_up (fromOf L.n L.turn) L.n.toNat 0 D1 [] q1.up (by omega) (by rw [q1.size]; omega)
  have q := q1.tr q2
  have hfun : D2.holds = D.holds := funext q.holds
  have efield : ([] : List (List UInt8)) ++ (List.range L.n.toNat).map (fun j : Nat => D1.holds (fromOf L.n L.turn + ((0 : Nat) : Int) + j)) = fieldH D2.holds L := by
    unfold fieldH
    rw [List.nil_append]
    refine List.map_congr_left fun j _ => ?_
    rw [q1.holds, q.holds]
    congr 1
    omega
  refine ⟨D2, ?_, q⟩
  unfold Dk.opens
  rw [e1]
  simp only
  unfold Dk.openR
  simp only
  rw [e2]
  simp only
  rw [if_pos trivial, efield]
  exact openF_clean q.up (by rw [hfun]; exact ht) hL hb (q.loose.trans hl) (by rw [hfun]; exact hc)
end Go.Proofs.Ytomgdfoahfhijaa
namespace Go.Proofs.Ytomgdfoahfhijaa

def moreL (L : Wl) (b : List UInt8) : Wl := { L with said := L.said ++ [b], fin := L.fin + sectorsOf b.length }
def anewL (L : Wl) (b : List UInt8) : Wl := ⟨L.n, L.turn + 1, [b], sectorsOf b.length, false⟩
theorem moreL_ok {L : Wl} (hL : L.Ok) {b : List UInt8} (h4 : b.length ≤ 40000) (hr : sectorsOf b.length ≤ L.n - L.fin) : (moreL L b).Ok := by
  obtain ⟨s1, s2⟩ := sectors_le h4
  have hs1 := hL.s1
  refine ⟨hL.n0, hL.n1, hL.t0, hL.t1, by unfold moreL; simp, ?_, ?_, fun l hl => ?_⟩
  · show (((L.said ++ [b]).length : Nat) : Int) ≤ L.fin + sectorsOf b.length
    rw [List.length_append, List.length_singleton]; omega
  · show L.fin + sectorsOf b.length ≤ L.n
    omega
  · rcases List.mem_append.1 hl with h | h
    · exact hL.each l h
    · rw [List.mem_singleton.1 h]; exact h4
theorem anewL_ok {L : Wl} (hL : L.Ok) {b : List UInt8} (h4 : b.length ≤ 40000) (hr : sectorsOf b.length ≤ L.n) (ht : L.turn ≠ 4294967295) : (anewL L b).Ok := by
  obtain ⟨s1, s2⟩ := sectors_le h4
  have := hL.t0; have := hL.t1
  exact ⟨hL.n0, hL.n1, by show 0 ≤ L.turn + 1; omega, by show L.turn + 1 < 4294967296; omega, Nat.le_refl 1, s1, hr, fun l hl => by rw [List.mem_singleton.1 hl]; exact h4⟩
theorem lvs_before {t : Int} {m : Nat} {b s : List UInt8} (h : s ∈ lvs t m b) {t0 m0 : Int} (a : 0 ≤ t) (c : t < 4294967296) (d : (m : Int) < 4294967296) (e : t < t0 ∨ (t = t0 ∧ (m : Int) < m0)) : Before t0 m0 s := by
  obtain ⟨y, rfl⟩ := lvs_mem h
  exact Before.leaf a c (by omega) d e
theorem mix_len {h h' : Int → List UInt8} {a : Int} {t : Int} {m : Nat} {b : List UInt8} (hl : ∀ k, (h k).length = 64) (hm : ∀ k, h' k = h k ∨ Among a (lvs t m b) k (h' k)) (k : Int) : (h' k).length = 64 := by
  rcases hm k with e | ⟨j, hj, _⟩
  · rw [e]; exact hl k
  · exact length_lvs_get hj
/-- One more entry, all of it. -/
theorem append_full {h h' : Int → List UInt8} {L : Wl} {b : List UInt8} (hg : Good h L) (hL : L.Ok) (h4 : b.length ≤ 40000) (hr : sectorsOf b.length ≤ L.n - L.fin)
    (hm : ∀ k, h' k = h k ∨ Among (fromOf L.n L.turn + L.fin) (lvs L.turn L.said.length b) k (h' k)) (hall : ∀ (j : Nat) (s : List UInt8), (lvs L.turn L.said.length b)[j]? = some s → h' (fromOf L.n L.turn + L.fin + j) = s) : Good h' (moreL L b) := by
  obtain ⟨hb, hrest⟩ := hg
  have hs0 := hL.s0; have hs1 := hL.s1; have hn0 := hL.n0; have hn1 := hL.n1; have hf1 := hL.f1
  have hf := from_two (t := L.turn) hL.n0
  have hll := length_lvs L.turn L.said.length h4
  have hold : ∀ k, ¬ (fromOf L.n L.turn + L.fin ≤ k ∧ k < fromOf L.n L.turn + L.n) → h' k = h k := fun k hk => by
    rcases hm k with e | ⟨j, hj, e⟩
    · exact e
    · have := (List.getElem?_eq_some_iff.1 hj).1
      exact absurd (by omega) hk
  have hbk := hb.rest hL (mix_len hb.len hm) hold
  have hfin := hb.fin
  refine ⟨⟨hbk.len, hbk.title, hbk.other, fun i l hl j s hj => ?_, ?_, hbk.far⟩, fun k h0 h1 => ?_⟩
  · show h' (fromOf L.n L.turn + startOf (L.said ++ [b]) i + j) = s
    have hl' : (L.said ++ [b])[i]? = some l := hl
    by_cases hi : i < L.said.length
    · rw [startOf_snoc (by omega)]
      rw [List.getElem?_append_left hi] at hl'
      exact hbk.said i l hl' j s hj
    · rw [List.getElem?_append_right (by omega)] at hl'
      have hi0 : i - L.said.length = 0 := by
        have := (List.getElem?_eq_some_iff.1 hl').1
        simp at this; omega
      rw [hi0] at hl'
      have hi1 : i = L.said.length := by omega
      subst hi1
      obtain rfl : b = l := Option.some.inj hl'
      rw [startOf_snoc (Nat.le_refl _), ← hfin]
      exact hall j s hj
  · show L.fin + sectorsOf b.length = startOf (L.said ++ [b]) (L.said ++ [b]).length
    rw [List.length_append, List.length_singleton, startOf_succ (i := L.said.length) (l := b) (by simp), startOf_snoc (Nat.le_refl _), ← hfin]
  · show Before L.turn ((L.said ++ [b]).length : Nat) (h' (fromOf L.n L.turn + k))
    rw [List.length_append, List.length_singleton]
    rcases hm (fromOf L.n L.turn + k) with e | ⟨j, hj, _⟩
    · rw [e]
      exact (hrest k h0 h1).mono (.inr ⟨rfl, by omega⟩)
    · exact lvs_before (List.mem_of_getElem? hj) hL.t0 hL.t1 (by omega) (.inr ⟨rfl, by omega⟩)
/-- .. or part of it. -/
theorem append_part {h h' : Int → List UInt8} {L : Wl} {b : List UInt8} (hg : Good h L) (hL : L.Ok) (h4 : b.length ≤ 40000) (hr : sectorsOf b.length ≤ L.n - L.fin)
    (hm : ∀ k, h' k = h k ∨ Among (fromOf L.n L.turn + L.fin) (lvs L.turn L.said.length b) k (h' k)) : Torn h' L ∨ Good h' (moreL L b) := by
  by_cases hall : ∀ (j : Nat) (s : List UInt8), (lvs L.turn L.said.length b)[j]? = some s → h' (fromOf L.n L.turn + L.fin + j) = s
  · exact .inr (append_full hg hL h4 hr hm hall)
  · left
    obtain ⟨hb, hrest⟩ := hg
    have hll := length_lvs L.turn L.said.length h4
    have hf1 := hL.f1
    have hold : ∀ k, ¬ (fromOf L.n L.turn + L.fin ≤ k ∧ k < fromOf L.n L.turn + L.n) → h' k = h k := fun k hk => by
      rcases hm k with e | ⟨j, hj, e⟩
      · exact e
      · have := (List.getElem?_eq_some_iff.1 hj).1
        exact absurd (by omega) hk
    refine ⟨hb.rest hL (mix_len hb.len hm) hold, b, h4, fun k h0 h1 => ?_, fun _ => ?_⟩
    · rcases hm (fromOf L.n L.turn + k) with e | ⟨j, hj, e⟩
      · rw [e]; exact .inl (hrest k h0 h1)
      · exact .inr ⟨j, _, hj, by omega, rfl⟩
    · simp only [Classical.not_forall] at hall
      obtain ⟨j, s, hj, hne⟩ := hall
      exact ⟨j, s, hj, hne⟩
/-- The next book's entry is laid, or part of it: the book stands. -/
theorem check_part {h h' : Int → List UInt8} {L : Wl} {b : List UInt8} (hg : Good h L) (hL : L.Ok) (h4 : b.length ≤ 40000) (hr : sectorsOf b.length ≤ L.n) (ht : L.turn ≠ 4294967295)
    (hm : ∀ k, h' k = h k ∨ Among (fromOf L.n (L.turn + 1)) (lvs (L.turn + 1) 0 b) k (h' k)) : Good h' L := by
  obtain ⟨hb, hrest⟩ := hg
  have hs0 := hL.s0; have hs1 := hL.s1; have hn0 := hL.n0; have hn1 := hL.n1; have hf1 := hL.f1; have ht0 := hL.t0; have ht1 := hL.t1
  have hf := from_two (t := L.turn) hL.n0
  have hll := length_lvs (L.turn + 1) 0 h4
  have hold : ∀ k, ¬ (fromOf L.n (L.turn + 1) ≤ k ∧ k < fromOf L.n (L.turn + 1) + L.n) → h' k = h k := fun k hk => by
    rcases hm k with e | ⟨j, hj, e⟩
    · exact e
    · have := (List.getElem?_eq_some_iff.1 hj).1
      exact absurd (by omega) hk
  refine ⟨⟨mix_len hb.len hm, ?_, ?_, fun i l hl j s hj => ?_, hb.fin, fun k h0 h1 => ?_⟩, fun k h0 h1 => ?_⟩
  · rw [hold _ (by omega)]; exact hb.title
  · rw [hold _ (by omega)]; exact hb.other
  · have hi := (List.getElem?_eq_some_iff.1 hl).1
    have h4' := hL.each l (List.mem_of_getElem? hl)
    have e1 := startOf_succ hl
    obtain ⟨m1, m2⟩ := startOf_mono hL.each L.said.length (i + 1) hi (Nat.le_refl _)
    obtain ⟨m3, _⟩ := startOf_mono hL.each L.said.length i (by omega) (Nat.le_refl _)
    have hjl := (List.getElem?_eq_some_iff.1 hj).1
    have hll' := length_lvs L.turn i h4'
    have hfin := hb.fin
    rw [hold _ (by omega)]
    exact hb.said i l hl j s hj
  · rcases hm (fromOf L.n (L.turn + 1) + k) with e | ⟨j, hj, _⟩
    · rw [e]; exact hb.far k h0 h1
    · exact lvs_before (List.mem_of_getElem? hj) (by omega) (by omega) (by omega) (.inr ⟨rfl, by omega⟩)
  · rw [hold _ (by omega)]; exact hrest k h0 h1
/-- .. all of it, and its title. -/
theorem check_full {h h' : Int → List UInt8} {L : Wl} {b : List UInt8} (hg : Good h L) (hL : L.Ok) (h4 : b.length ≤ 40000) (hr : sectorsOf b.length ≤ L.n) (ht : L.turn ≠ 4294967295)
    (hall : ∀ (j : Nat) (s : List UInt8), (lvs (L.turn + 1) 0 b)[j]? = some s → h (fromOf L.n (L.turn + 1) + j) = s)
    (htl : h' ((L.turn + 1) % 2) = titleOf (L.turn + 1) L.n) (hlt : (titleOf (L.turn + 1) L.n).length = 64) (hm : ∀ k, k ≠ (L.turn + 1) % 2 → h' k = h k) : Good h' (anewL L b) := by
  obtain ⟨hb, hrest⟩ := hg
  have hs0 := hL.s0; have hs1 := hL.s1; have hn0 := hL.n0; have hn1 := hL.n1; have hf1 := hL.f1; have ht0 := hL.t0; have ht1 := hL.t1
  have hf := from_two (t := L.turn) hL.n0
  refine ⟨⟨fun k => ?_, htl, ?_, fun i l hl j s hj => ?_, ?_, fun k h0 h1 => ?_⟩, fun k h0 h1 => ?_⟩
  · by_cases hk : k = (L.turn + 1) % 2
    · rw [hk, htl]; exact hlt
    · rw [hm k hk]; exact hb.len k
  · right
    refine ⟨L.turn, ht0, by show L.turn < L.turn + 1; omega, ?_⟩
    show h' ((L.turn + 1 + 1) % 2) = titleOf L.turn L.n
    rw [show (L.turn + 1 + 1) % 2 = L.turn % 2 by omega, hm _ (by omega)]
    exact hb.title
  · have hl' : ([b] : List (List UInt8))[i]? = some l := hl
    cases i with
    | zero =>
      obtain rfl : b = l := Option.some.inj hl'
      have := hall j s hj
      rw [← this]
      show h' (fromOf L.n (L.turn + 1) + startOf [b] 0 + j) = _
      rw [startOf_zero, Int.add_zero, hm _ (by omega)]
    | succ i => simp at hl'
  · show sectorsOf b.length = startOf [b] 1
    rw [startOf_succ (i := 0) (l := b) rfl, startOf_zero]; omega
  · show Before (L.turn + 1 + 1) 1 (h' (fromOf L.n (L.turn + 1 + 1) + k))
    rw [from_again, hm _ (by omega)]
    exact (hrest k h0 h1).mono (.inl (by omega))
  · show Before (L.turn + 1) (([b] : List (List UInt8)).length : Nat) (h' (fromOf L.n (L.turn + 1) + k))
    rw [hm _ (by omega)]
    exact (hb.far k h0 h1).mono (.inr ⟨rfl, by simp⟩)
/-- A log is taken to another, or the power goes on the way. -/
def TakesTo (D : Dk) (L L' : Wl) (r : Int × Dk × Wl) : Prop :=
  (∃ c, (c = 3 ∨ c = 6) ∧ r = (c, D, L)) ∨
  (∃ D', r = (0, D', L') ∧ Laid D D' ∧ Good D'.holds L' ∧ L'.Ok) ∨
  (∃ D', r = (9, D', { L with broken := true }) ∧ D'.Down ∧ D'.size = D.size ∧ ¬ D.Off ∧ ∀ f, Torn (D'.crash f).holds L ∨ (Good (D'.crash f).holds L' ∧ L'.Ok))
theorem refuses_or {L : Wl} (hb : L.broken = false) (n : Nat) : (n ≤ 40000 ∧ L.refuses n = 0) ∨ L.refuses n = 3 := by
  by_cases h : n ≤ 40000
  · exact .inl ⟨h, refuses_ok hb h⟩
  · right
    unfold Wl.refuses
    rw [if_pos (by omega)]
theorem over_among {a : Int} {xs : List (List UInt8)} {h : Int → List UInt8} (k : Int) : over a xs h k = h k ∨ Among a xs k (over a xs h k) := by
  unfold over
  split
  · rename_i hk
    cases hq : xs[(k - a).toNat]? with
    | none => exact .inl rfl
    | some b => exact .inr ⟨(k - a).toNat, hq, by omega⟩
  · exact .inl rfl
theorem over_at {a : Int} {xs : List (List UInt8)} {h : Int → List UInt8} {j : Nat} {s : List UInt8} (hj : xs[j]? = some s) : over a xs h (a + j) = s := by
  unfold over
  rw [if_pos (by omega), show (a + (j : Int) - a).toNat = j by omega, hj]
  rfl
theorem append_up {D : Dk} {L : Wl} (h : D.Up) (hg : Good D.holds L) (hL : L.Ok) (hb : L.broken = false) (hl : D.loose = []) (hs : 2 * L.n + 2 ≤ D.size) (b : List UInt8) : TakesTo D L (moreL L b) (L.append D b) := by
  have hn0 := hL.n0; have hf1 := hL.f1; have hs1 := hL.s1
  have hf := from_two (t := L.turn) hL.n0
  unfold Wl.append
  rcases refuses_or hb b.length with ⟨h4, e⟩ | e
  · rw [if_neg (by rw [e]; decide)]
    by_cases hr : L.n - L.fin < sectorsOf b.length
    · rw [if_pos hr]; exact .inl ⟨6, .inr rfl, rfl⟩
    · rw [if_neg hr]
      have hll := length_lvs L.turn L.said.length h4
      rcases lays_up (lvs L.turn L.said.length b) D (fromOf L.n L.turn + L.fin) h (by omega) (by omega) (by omega) with ⟨g1, g2, g3⟩ | ⟨g1, g2⟩
      · unfold lvs at g1 g2 g3
        rw [if_pos g1]
        refine .inr (.inl ⟨_, rfl, g2, ?_, moreL_ok hL h4 (by omega)⟩)
        refine append_full hg hL h4 (by omega) (fun k => ?_) (fun j s hj => ?_)
        · rw [g3 k]; exact over_among k
        · rw [g3]; exact over_at hj
      · have g2' := g2
        unfold lvs at g1 g2
        rw [if_neg (by rw [g1]; decide), g1]
        refine .inr (.inr ⟨_, rfl, g2.down, g2.size, g2.on, fun f => ?_⟩)
        rcases append_part hg hL h4 (by omega) (fun k => g2'.crash hl f k) with e | e
        · exact .inl e
        · exact .inr ⟨e, moreL_ok hL h4 (by omega)⟩
  · rw [if_pos (by rw [e]; decide), e]
    exact .inl ⟨3, .inl rfl, rfl⟩
theorem length_title (t n : Int) : (titleOf t n).length = 64 := by
  unfold titleOf
  rw [length_sealOf]
  simp [length_be]
theorem check_up {D : Dk} {L : Wl} (h : D.Up) (hg : Good D.holds L) (hL : L.Ok) (hb : L.broken = false) (hl : D.loose = []) (hs : 2 * L.n + 2 ≤ D.size) (b : List UInt8) : TakesTo D L (anewL L b) (L.check D b) := by
  have hn0 := hL.n0; have hf1 := hL.f1; have hs1 := hL.s1; have ht0 := hL.t0; have ht1 := hL.t1
  have hf := from_two (t := L.turn) hL.n0
  unfold Wl.check
  rcases refuses_or hb b.length with ⟨h4, e⟩ | e
  · rw [if_neg (by rw [e]; decide)]
    by_cases hr : L.n < sectorsOf b.length ∨ L.turn = 4294967295
    · rw [if_pos hr]; exact .inl ⟨6, .inr rfl, rfl⟩
    · rw [if_neg hr]
      have hr1 : sectorsOf b.length ≤ L.n := by omega
      have hr2 : L.turn ≠ 4294967295 := fun e => hr (.inr e)
      have hll := length_lvs (L.turn + 1) 0 h4
      have estep : D.step1 L.n (L.turn + 1) b = D.lays (fromOf L.n (L.turn + 1)) (lvs (L.turn + 1) 0 b) := rfl
      rcases lays_up (lvs (L.turn + 1) 0 b) D (fromOf L.n (L.turn + 1)) h (by omega) (by omega) (by omega) with ⟨g1, g2, g3⟩ | ⟨g1, g2⟩
      · rw [← estep] at g1 g2 g3
        have hg1 : Good (D.step1 L.n (L.turn + 1) b).2.holds L := check_part hg hL h4 hr1 hr2 (fun k => by rw [g3 k]; exact over_among k)
        have hall : ∀ (j : Nat) (s : List UInt8), (lvs (L.turn + 1) 0 b)[j]? = some s → (D.step1 L.n (L.turn + 1) b).2.holds (fromOf L.n (L.turn + 1) + j) = s := fun j s hj => by rw [g3]; exact over_at hj
        have e2 : (D.step1 L.n (L.turn + 1) b).2.step2 L.n (L.turn + 1) = (D.step1 L.n (L.turn + 1) b).2.lays ((L.turn + 1) % 2) [titleOf (L.turn + 1) L.n] := rfl
        have ebg : D.begin L.n (L.turn + 1) b = (D.step1 L.n (L.turn + 1) b).2.lays ((L.turn + 1) % 2) [titleOf (L.turn + 1) L.n] := by
          unfold Dk.begin
          rw [if_pos g1, e2]
        have hsz := g2.size
        rw [ebg]
        rcases lays_up [titleOf (L.turn + 1) L.n] (D.step1 L.n (L.turn + 1) b).2 ((L.turn + 1) % 2) g2.up (by omega) (by omega) (by rw [List.length_singleton]; omega) with ⟨k1, k2, k3⟩ | ⟨k1, k2⟩
        · rw [if_pos k1]
          refine .inr (.inl ⟨_, by rw [hb]; rfl, ⟨k2.up, k2.size.trans hsz, k2.loose, fun h => k2.off (g2.off h)⟩, ?_, anewL_ok hL h4 hr1 hr2⟩)
          refine check_full hg1 hL h4 hr1 hr2 hall ?_ (length_title _ _) (fun k hk => ?_)
          · have := over_at (a := (L.turn + 1) % 2) (xs := [titleOf (L.turn + 1) L.n]) (h := (D.step1 L.n (L.turn + 1) b).2.holds) (j := 0) rfl
            rw [Int.natCast_zero, Int.add_zero] at this
            rw [k3, this]
          · rw [k3]
            rcases over_among (a := (L.turn + 1) % 2) (xs := [titleOf (L.turn + 1) L.n]) (h := (D.step1 L.n (L.turn + 1) b).2.holds) k with e | ⟨j, hj, e⟩
            · exact e
            · have := (List.getElem?_eq_some_iff.1 hj).1
              simp at this
              exact absurd (by omega) hk
        · rw [if_neg (by rw [k1]; decide), k1]
          refine .inr (.inr ⟨_, rfl, k2.down, k2.size.trans hsz, fun h => k2.on (g2.off h), fun f => ?_⟩)
          have hk : ∀ k, ((D.step1 L.n (L.turn + 1) b).2.lays ((L.turn + 1) % 2) [titleOf (L.turn + 1) L.n]).2.crash f |>.holds k |> fun v => v = (D.step1 L.n (L.turn + 1) b).2.holds k ∨ (k = (L.turn + 1) % 2 ∧ v = titleOf (L.turn + 1) L.n) := fun k => by
            rcases k2.crash g2.loose f k with e | ⟨j, hj, e⟩
            · exact .inl e
            · have hj2 := (List.getElem?_eq_some_iff.1 hj).1
              simp at hj2
              subst hj2
              exact .inr ⟨by omega, (Option.some.inj hj).symm⟩
          by_cases hnew : (((D.step1 L.n (L.turn + 1) b).2.lays ((L.turn + 1) % 2) [titleOf (L.turn + 1) L.n]).2.crash f).holds ((L.turn + 1) % 2) = titleOf (L.turn + 1) L.n
          · refine .inr ⟨check_full hg1 hL h4 hr1 hr2 hall hnew (length_title _ _) (fun k hne => ?_), anewL_ok hL h4 hr1 hr2⟩
            rcases hk k with e | ⟨e, _⟩
            · exact e
            · exact absurd e hne
          · left
            have hsame : (((D.step1 L.n (L.turn + 1) b).2.lays ((L.turn + 1) % 2) [titleOf (L.turn + 1) L.n]).2.crash f).holds = (D.step1 L.n (L.turn + 1) b).2.holds := funext fun k => by
              rcases hk k with e | ⟨e1, e⟩
              · exact e
              · rw [e1] at e; exact absurd e hnew
            rw [hsame]
            exact hg1.torn hL
      · rw [← estep] at g1 g2
        have ebg : D.begin L.n (L.turn + 1) b = D.step1 L.n (L.turn + 1) b := by
          unfold Dk.begin
          rw [if_neg (by rw [g1]; decide)]
        rw [ebg, if_neg (by rw [g1]; decide), g1]
        exact .inr (.inr ⟨_, rfl, g2.down, g2.size, g2.on, fun f => .inl ((check_part hg hL h4 hr1 hr2 (fun k => g2.crash hl f k)).torn hL)⟩)
  · rw [if_pos (by rw [e]; decide), e]
    exact .inl ⟨3, .inl rfl, rfl⟩
/-- A new log stands so. -/
theorem format_good {n : Int} (h4 : 4 ≤ n) (hn : n ≤ 1000) : Good ((Dk.new (2 * n + 2)).format n).2.holds (Wl.fresh n) := by
  obtain ⟨g1, g2, g3, g4⟩ := format_calm (new_calm (2 * n + 2)) h4 (Int.le_refl (2 * n + 2))
  have hf : fromOf n 0 = 2 := by unfold fromOf; simp
  have hf1 : fromOf n (0 + 1) = 2 + n := by unfold fromOf; simp
  have hz : ∀ k, (over 0 (List.replicate (2 * n + 2).toNat zero64) (Dk.new (2 * n + 2)).holds) k = zero64 := fun k => by
    unfold over
    split
    · rw [List.getElem?_replicate]
      split
      · rfl
      · rfl
    · rfl
  have hx : ∀ k, ((Dk.new (2 * n + 2)).format n).2.holds k = if k = 0 then titleOf 0 n else if k = 2 then (leafOf 0 0 0 []).1 else zero64 := fun k => by
    rw [g4 k]
    by_cases h0 : k = 0
    · subst h0; rfl
    · rw [if_neg h0]
      have e1 : over 0 [titleOf 0 n] (over 2 [(leafOf 0 0 0 []).1] (over 0 (List.replicate (2 * n + 2).toNat zero64) (Dk.new (2 * n + 2)).holds)) k = over 2 [(leafOf 0 0 0 []).1] (over 0 (List.replicate (2 * n + 2).toNat zero64) (Dk.new (2 * n + 2)).holds) k := by
        rcases over_among (a := 0) (xs := [titleOf 0 n]) (h := over 2 [(leafOf 0 0 0 []).1] (over 0 (List.replicate (2 * n + 2).toNat zero64) (Dk.new (2 * n + 2)).holds)) k with e | ⟨j, hj, e⟩
        · exact e
        · have := (List.getElem?_eq_some_iff.1 hj).1
          simp at this
          exact absurd (by omega) h0
      rw [e1]
      by_cases h2 : k = 2
      · subst h2; rfl
      · rw [if_neg h2]
        rcases over_among (a := 2) (xs := [(leafOf 0 0 0 []).1]) (h := over 0 (List.replicate (2 * n + 2).toNat zero64) (Dk.new (2 * n + 2)).holds) k with e | ⟨j, hj, e⟩
        · rw [e, hz]
        · have := (List.getElem?_eq_some_iff.1 hj).1
          simp at this
          exact absurd (by omega) h2
  have hlv : lvs 0 0 [] = [(leafOf 0 0 0 []).1] := by
    unfold lvs
    rw [leavesOf_le (by decide)]
    rfl
  refine ⟨⟨fun k => ?_, ?_, .inl ?_, fun i l hl j s hj => ?_, ?_, fun k h0 h1 => ?_⟩, fun k h0 h1 => ?_⟩
  · rw [hx k]
    split
    · exact length_title _ _
    · split
      · exact (leafOf 0 0 0 []).2
      · rfl
  · show ((Dk.new (2 * n + 2)).format n).2.holds (0 % 2) = titleOf 0 n
    rw [hx]; rfl
  · show ((Dk.new (2 * n + 2)).format n).2.holds ((0 + 1) % 2) = zero64
    rw [hx]; rfl
  · have hl' : ([[]] : List (List UInt8))[i]? = some l := hl
    cases i with
    | zero =>
      obtain rfl : [] = l := Option.some.inj hl'
      have hj' : (lvs 0 0 [])[j]? = some s := hj
      rw [hlv] at hj'
      cases j with
      | zero =>
        obtain rfl : (leafOf 0 0 0 []).1 = s := Option.some.inj hj'
        show ((Dk.new (2 * n + 2)).format n).2.holds (fromOf n 0 + startOf [[]] 0 + ((0 : Nat) : Int)) = _
        rw [hf, startOf_zero, hx]; rfl
      | succ j => simp at hj'
    | succ i => simp at hl'
  · show (1 : Int) = startOf [[]] 1
    rfl
  · show Before (0 + 1) 1 (((Dk.new (2 * n + 2)).format n).2.holds (fromOf n (0 + 1) + k))
    rw [hf1, hx, if_neg (by omega), if_neg (by omega)]
    exact .inl rfl
  · show Before 0 ((1 : Nat) : Int) (((Dk.new (2 * n + 2)).format n).2.holds (fromOf n 0 + k))
    have h1' : k < n := h1
    rw [hf, hx, if_neg (by omega)]
    split
    · exact Before.leaf (Int.le_refl 0) (by decide) (Int.le_refl 0) (by decide) (.inr ⟨rfl, by decide⟩)
    · exact .inl rfl
end Go.Proofs.Ytomgdfoahfhijaa

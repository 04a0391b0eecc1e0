/- maps whose keys are whole numbers, and whose elements are blocks of bytes. -/
import Derived.Test.YtomgdfoahfhijaaZer
import Derived.MapKept
import Derived.Maps.Keyed
set_option linter.unusedVariables false
set_option linter.unusedSimpArgs false
namespace Go.Proofs.Ytomgdfoahfhijaa
open Go.RowKit

/-- What a map holds, entry by entry. -/
abbrev Ents := List (Int × List UInt8)
def Ents.look (es : Ents) (a : Int) : Option (List UInt8) := (es.find? (fun p => p.1 == a)).map (·.2)
def Ents.put : Ents → Int → List UInt8 → Ents
  | [], a, v => [(a, v)]
  | p :: es, a, v => if p.1 == a then (a, v) :: es else p :: Ents.put es a v
theorem Ents.look_put : ∀ (es : Ents) (a b : Int) (v : List UInt8), (es.put a v).look b = if b = a then some v else es.look b
  | [], a, b, v => by
    unfold Ents.put Ents.look
    by_cases h : b = a
    · subst h; simp
    · simp [h, Ne.symm h]
  | p :: es, a, b, v => by
    unfold Ents.put
    by_cases hp : p.1 = a
    · rw [if_pos (by simp [hp])]
      unfold Ents.look
      by_cases h : b = a
      · subst h; simp
      · simp [h, Ne.symm h, hp]
    · rw [if_neg (by simp [hp])]
      have ih := Ents.look_put es a b v
      unfold Ents.look at ih ⊢
      by_cases h : b = a
      · subst h; simp [hp] at ih ⊢; exact ih
      · simp only [List.find?_cons]
        by_cases hb : p.1 = b
        · simp [hb, h]
        · have : (p.1 == b) = false := by simpa using hb
          rw [this]; exact ih

def entOf (e : MapEntry) : Value × Value := (e.key, e.val)
def blockV (l : List UInt8) : Value := .agg (bvs l).toArray
def IsMap (w : World) (m : Nat) (es : Ents) : Prop := ∃ arr clock, w.heap[m]? = some (.map arr clock) ∧ arr.toList.map entOf = es.map fun p => (.int .i64 p.1, blockV p.2)

theorem find_now (a : Int) : ∀ (l : List MapEntry) (es : Ents) (i : Nat), l.map entOf = es.map (fun p => (.int .i64 p.1, blockV p.2)) →
    Instr.findNow (.int .i64) (.int .i64 a) l i = some ((es.findIdx? (fun p => p.1 == a)).map fun j => (i + j, blockV ((es.look a).getD [])))
  | [], [], i, _ => rfl
  | [], _ :: _, _, h => by cases h
  | _ :: _, [], _, h => by cases h
  | e :: l, p :: es, i, h => by
    simp only [List.map_cons, List.cons.injEq, entOf, Prod.mk.injEq] at h
    obtain ⟨⟨hk, hv⟩, ht⟩ := h
    unfold Instr.findNow
    rw [hk]
    simp only [Instr.sameNow, if_true]
    by_cases hp : p.1 = a
    · simp [hp, Ents.look, hv, List.findIdx?_cons]
    · have e1 : (a == p.1) = false := by simpa using Ne.symm hp
      have e2 : (p.1 == a) = false := by simpa using hp
      simp only [e1]
      rw [find_now a l es (i + 1) ht]
      simp only [Ents.look, List.findIdx?_cons, List.find?_cons, e2, Option.map_map, Bool.false_eq_true, if_false]
      congr 2
      funext j
      show (i + 1 + j, _) = (i + (j + 1), _)
      rw [Nat.add_assoc, Nat.add_comm 1 j]

theorem find_key {P : Program} {k : TypeId} (hk : P.underlying k = some (.int .i64)) (a : Int) {l : List MapEntry} {es : Ents} (h : l.map entOf = es.map (fun p => (.int .i64 p.1, blockV p.2))) (w : World) :
    (Instr.findKey k (.int .i64 a) l).run P w = .ok ((es.findIdx? (fun p => p.1 == a)).map fun j => (j, blockV ((es.look a).getD []))) w := by
  unfold Instr.findKey
  simp [run_underlying hk, find_now a l es 0 h]
theorem check_key {P : Program} {k : TypeId} (hk : P.underlying k = some (.int .i64)) (b : Bool) (a : Int) (w : World) : (Instr.checkKey b 10000 k (.int .i64 a)).run P w = .ok () w := by
  rw [show (10000 : Nat) = 9999 + 1 from rfl]
  unfold Instr.checkKey
  simp [run_underlying hk]

theorem look_none {es : Ents} {a : Int} (h : es.findIdx? (fun p => p.1 == a) = none) : es.look a = none := by
  unfold Ents.look
  rw [List.findIdx?_eq_none_iff] at h
  rw [Option.map_eq_none_iff, List.find?_eq_none]
  intro p hp
  simp [h p hp]
theorem look_some {es : Ents} {a : Int} {j : Nat} (h : es.findIdx? (fun p => p.1 == a) = some j) : ∃ v, es.look a = some v := by
  cases hl : es.look a with
  | some v => exact ⟨v, rfl⟩
  | none =>
    exfalso
    unfold Ents.look at hl
    rw [Option.map_eq_none_iff, List.find?_eq_none] at hl
    have := List.findIdx?_eq_some_iff_getElem.1 h
    obtain ⟨hj, h1, _⟩ := this
    exact hl _ (List.getElem_mem hj) h1

theorem run_lookup_block {P : Program} {t k e : TypeId} {w : World} {m : Nat} {es : Ents} {z : List UInt8} (ht : P.underlying t = some (.map k e)) (hk : P.underlying k = some (.int .i64)) (hz : (zeroValue e).run P w = .ok (blockV z) w)
    (hm : IsMap w m es) (a : Int) : (Instr.lookup t (.map (some m)) (.int .i64 a) false).run P w = .ok (blockV ((es.look a).getD z)) w := by
  obtain ⟨arr, clock, hh, he⟩ := hm
  have h2 := check_key hk arr.isEmpty a w
  have h3 := find_key (P := P) hk a he w
  unfold Instr.lookup
  cases hf : es.findIdx? (fun p => p.1 == a) with
  | none =>
    rw [hf] at h3
    rw [look_none hf]
    simp [run_underlying ht, MapKept.run_getObj_map hh, h2, h3, hz, Result.andThen]
  | some j =>
    rw [hf] at h3
    obtain ⟨v, hv⟩ := look_some hf
    rw [hv] at h3 ⊢
    simp [run_underlying ht, MapKept.run_getObj_map hh, h2, h3, Result.andThen]

theorem Ents.put_none : ∀ {es : Ents} {a : Int} (v : List UInt8), es.findIdx? (fun p => p.1 == a) = none → es.put a v = es ++ [(a, v)]
  | [], _, _, _ => rfl
  | p :: es, a, v, h => by
    rw [List.findIdx?_cons] at h
    by_cases hp : (p.1 == a) = true
    · rw [if_pos hp] at h; cases h
    · rw [if_neg hp] at h
      unfold Ents.put
      rw [if_neg hp, Ents.put_none v (by simpa using h)]
      rfl
theorem Ents.put_some : ∀ {es : Ents} {a : Int} {j : Nat} (v : List UInt8), es.findIdx? (fun p => p.1 == a) = some j → es.put a v = es.set j (a, v)
  | [], _, _, _, h => by cases h
  | p :: es, a, j, v, h => by
    rw [List.findIdx?_cons] at h
    by_cases hp : (p.1 == a) = true
    · rw [if_pos hp] at h
      cases h
      unfold Ents.put
      rw [if_pos hp]
      rfl
    · rw [if_neg hp] at h
      obtain ⟨j', hj, rfl⟩ := Option.map_eq_some_iff.1 h
      unfold Ents.put
      rw [if_neg hp, Ents.put_some v hj]
      rfl
theorem run_update_block {P : Program} {t k e : TypeId} {w : World} {m : Nat} {es : Ents} (ht : P.underlying t = some (.map k e)) (hk : P.underlying k = some (.int .i64)) (hm : IsMap w m es) (a : Int) (v : List UInt8) :
    ∃ w', (Instr.mapUpdate t (.map (some m)) (.int .i64 a) (blockV v)).run P w = .ok () w' ∧ IsMap w' m (es.put a v) ∧ Upd (OneS m) w w' := by
  obtain ⟨arr, clock, hh, he⟩ := hm
  have h2 := check_key hk false a w
  have h3 := find_key (P := P) hk a he w
  have hset : ∀ o, Upd (OneS m) w { w with heap := w.heap.setIfInBounds m o } := fun o => ⟨rfl, rfl, rfl, by simp, fun k hk hn => by
    show (w.heap.setIfInBounds m o)[k]? = _
    rw [Array.getElem?_setIfInBounds_ne (fun e => hn e.symm)]⟩
  have hget : ∀ o, ({ w with heap := w.heap.setIfInBounds m o } : World).heap[m]? = some o := fun o => by
    show (w.heap.setIfInBounds m o)[m]? = _
    rw [Array.getElem?_setIfInBounds_self_of_lt (lt_of_heap hh)]
  unfold Instr.mapUpdate
  cases hf : es.findIdx? (fun p => p.1 == a) with
  | none =>
    rw [hf] at h3
    refine ⟨_, by simp [run_underlying ht, MapKept.run_getObj_map hh, MapKept.run_setObj_map _ hh, h2, h3, Result.andThen]; rfl, ⟨_, _, hget _, ?_⟩, hset _⟩
    rw [Ents.put_none v hf]
    simp [he, entOf]
  | some j =>
    rw [hf] at h3
    have hj : j < es.length := by
      obtain ⟨h1, _⟩ := List.findIdx?_eq_some_iff_getElem.1 hf
      exact h1
    have hlen : arr.size = es.length := by simpa using congrArg List.length he
    have hja : j < arr.size := by omega
    have hkey : arr[j].key = .int .i64 a := by
      have h4 := congrArg (fun l => l[j]?) he
      simp [hj, hja, entOf] at h4
      obtain ⟨_, h5, _⟩ := List.findIdx?_eq_some_iff_getElem.1 hf
      rw [h4.1]
      have : es[j].1 = a := by simpa using h5
      rw [this]
    refine ⟨_, by simp [run_underlying ht, MapKept.run_getObj_map hh, MapKept.run_setObj_map _ hh, h2, h3, Result.andThen, hja, hkey, Instr.keyThatStays, Instr.sameBits]; rfl, ⟨_, _, hget _, ?_⟩, hset _⟩
    rw [Ents.put_some v hf, List.map_set, ← he]
    apply List.ext_getElem?
    intro i
    simp only [Array.toList_modify, List.getElem?_map, List.getElem?_set, List.getElem?_modify]
    by_cases hij : j = i
    · subst hij; simp [hja, entOf]
    · simp [hij]
end Go.Proofs.Ytomgdfoahfhijaa

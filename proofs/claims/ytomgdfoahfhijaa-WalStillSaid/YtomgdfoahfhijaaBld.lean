/- structs and slice literals that are built of arrays. -/
import Derived.Test.YtomgdfoahfhijaaDsa
import Derived.Great.BuildSlice
set_option linter.unusedVariables false
set_option linter.unusedSimpArgs false
namespace Go.Proofs.Ytomgdfoahfhijaa
open Go.RowKit

theorem fold_set : ∀ (vs : List Value) (off i : Nat) (cells : Array Value), off + i + vs.length ≤ cells.size →
    ((vs.zipIdx i).foldl (fun cs x => cs.setIfInBounds (off + x.2) x.1) cells).toList = cells.toList.take (off + i) ++ vs ++ cells.toList.drop (off + i + vs.length)
  | [], off, i, cells, _ => by simp
  | v :: vs, off, i, cells, h => by
    simp only [List.length_cons] at h
    rw [List.zipIdx_cons, List.foldl_cons, fold_set vs off (i + 1) _ (by simp; omega), Array.toList_setIfInBounds]
    have ho : off + i < cells.toList.length := by rw [Array.length_toList]; omega
    simp only [List.length_cons]
    rw [show off + (i + 1) = off + i + 1 by omega, show off + i + 1 + vs.length = off + i + (vs.length + 1) by omega, List.drop_set_of_lt (by omega), List.take_set, List.take_succ_eq_append_getElem ho, List.set_append_right _ _ (by rw [List.length_take]; omega)]
    have ho' : off + i < cells.size := by omega
    simp [Nat.min_eq_left (Nat.le_of_lt ho')]
/-- One part laid. -/
theorem fill_one {place : Nat → Option (Nat × Nat)} {cells : Array Value} {i off size : Nat} {v : Value} {rest : List (Nat × Value)} (hp : place i = some (off, size)) (hs : v.cells.size = size) (hf : off + size ≤ cells.size) :
    Instr.fill place cells ((i, v) :: rest) = Instr.fill place (cells.toList.take off ++ v.cells.toList ++ cells.toList.drop (off + size)).toArray rest := by
  have e : v.cells.zipIdx.foldl (fun cs (c, j) => cs.setIfInBounds (off + j) c) cells = (cells.toList.take off ++ v.cells.toList ++ cells.toList.drop (off + size)).toArray := by
    apply Array.ext'
    rw [List.toList_toArray, ← Array.foldl_toList, Array.toList_zipIdx]
    have := fold_set v.cells.toList off 0 cells (by simp; omega)
    simpa [hs] using this
  rw [Instr.fill.eq_def]
  simp only [hp]
  rw [if_neg (by simp [hs]; omega), e]
theorem cells_block (l : List UInt8) : (blockV l).cells = (bvs l).toArray := rfl
theorem cells_int (k : IntKind) (n : Int) : (Value.int k n).cells = #[.int k n] := rfl

def placesOf (P : Program) (t : TypeId) : Option (List (Nat × Nat)) :=
  match P.underlying t with
  | some (.struct fields) => fields.toList.mapM (fun f => (P.info? f.type).map fun i => (f.offset, i.size))
  | _ => none
def zeroOf (P : Program) (t : TypeId) : Option Nat := (P.info? t).bind fun i => i.zero.map fun z => z.cells.size
/-- A struct is built: its zero's cells, its parts laid over them. -/
theorem built_struct {P : Program} {t : TypeId} {n : Nat} {places : List (Nat × Nat)} (hp : placesOf P t = some places) (hz : zeroOf P t = some n) (parts : List (Nat × Value)) :
    ∃ zs : Array Value, zs.size = n ∧ P.built t parts = Instr.fill (places.toArray[·]?) zs parts := by
  obtain ⟨it, hit, h1⟩ := Option.bind_eq_some_iff.1 hz
  obtain ⟨z, hzz, hzs⟩ := Option.map_eq_some_iff.1 h1
  refine ⟨z.cells, hzs, ?_⟩
  unfold placesOf at hp
  unfold Program.built
  cases hu : P.underlying t with
  | none => rw [hu] at hp; cases hp
  | some d =>
    rw [hu] at hp
    cases d with
    | struct fields =>
      simp only at hp
      simp only [hit, hzz, hp]
    | _ => simp at hp
theorem placesW : placesOf Try.prog 108 = some [(0, 1), (1, 64)] := by kernel_rfl
theorem zeroW : zeroOf Try.prog 108 = some 65 := by kernel_rfl
theorem size_blockV {b : List UInt8} (hb : b.length = 64) : (blockV b).cells.size = 64 := by simp [cells_block, hb]
theorem builtWrote (a : Int) (b : List UInt8) (hb : b.length = 64) : Try.prog.built 108 [(0, .int .i64 a), (1, blockV b)] = some (wrote (a, b)).toArray := by
  obtain ⟨zs, hzs, h⟩ := built_struct placesW zeroW [(0, .int .i64 a), (1, blockV b)]
  have hl : (bvs b).length = 64 := by simp [hb]
  rw [h, fill_one (off := 0) (size := 1) rfl rfl (by omega), cells_int, fill_one (off := 1) (size := 64) rfl (size_blockV hb) (by simp; omega), cells_block]
  rw [Instr.fill.eq_1]
  refine congrArg some (Array.ext' ?_)
  rw [List.toList_toArray, List.toList_toArray]
  have e1 : (zs.toList.drop (0 + 1)).length = 64 := by simp [hzs]
  simp only [List.take_zero, List.nil_append, List.singleton_append, List.take_succ_cons, List.drop_succ_cons, wrote, List.cons_append, Nat.zero_add]
  rw [List.drop_of_length_le (by simp [hzs]), List.append_nil]
end Go.Proofs.Ytomgdfoahfhijaa

/- wal: a book's small words. -/
import Derived.Test.YtomgdfoahfhijaaWas
set_option linter.unusedVariables false
set_option linter.unusedSimpArgs false
namespace Go.Proofs.Ytomgdfoahfhijaa
open Go.RowKit

def bookV (d : Nat) (n turn : Int) : Value := .agg #[.pointer (some ⟨d, 0, none⟩), .int .i64 n, .int .u32 turn]
def fromOf (n turn : Int) : Int := 2 + turn % 2 * n
set_option maxRecDepth 100000 in
theorem walFrom (w : World) (d : Nat) (n turn : Int) (hn0 : 0 ≤ n) (hn : n ≤ 1000) (ht0 : 0 ≤ turn) (ht : turn < 4294967296) :
    Calls Try.prog 47 #[bookV d n turn] w fun e w' => e = .returned (.int .i64 (fromOf n turn)) ∧ Upd NoS w w' := by
  have h1 : turn.tmod 2 = turn % 2 := Int.tmod_eq_emod_of_nonneg ht0
  have h2 : 0 ≤ turn % 2 := Int.emod_nonneg _ (by decide)
  have h3 : turn % 2 < 2 := Int.emod_lt_of_pos _ (by decide)
  have h4 : 0 ≤ turn % 2 * n := Int.mul_nonneg h2 hn0
  have h5 : turn % 2 * n ≤ 1000 := by
    have : turn % 2 = 0 ∨ turn % 2 = 1 := by omega
    rcases this with h | h <;> rw [h] <;> omega
  unfold bookV fromOf
  go_enter Try.func47, Try.ntmps47
  go_wp2
  go_ret
  exact ⟨rfl, (Upd.refl NoS w).alloc _⟩
set_option maxRecDepth 100000 in
theorem walNext (w : World) (d : Nat) (n turn : Int) (ht0 : 0 ≤ turn) (ht : turn < 4294967295) :
    Calls Try.prog 54 #[bookV d n turn] w fun e w' => e = .returned (bookV d n (turn + 1)) ∧ Upd NoS w w' := by
  have h1 : (turn + 1) % 4294967296 = turn + 1 := by omega
  unfold bookV
  go_enter Try.func54, Try.ntmps54
  go_wp2
  have hb := heap_new (w.alloc (.cells #[.pointer (some ⟨d, 0, none⟩), .int .i64 n, .int .u32 turn] 71)) (.cells #[.pointer (some ⟨d, 0, none⟩), .int .i64 n, .int .u32 (turn + 1)] 71)
  refine bodyPost_ret (results_cell_row rfl _ _ (w.heap.size + 1) _ _ _ _ rfl (by simpa using hb) Try.underlying71 rfl (by kernel_rfl)) rfl ⟨rfl, ((Upd.refl NoS w).alloc _).alloc _⟩
end Go.Proofs.Ytomgdfoahfhijaa

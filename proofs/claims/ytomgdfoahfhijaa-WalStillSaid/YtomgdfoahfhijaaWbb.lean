/- blocks compared. -/
import Derived.Test.YtomgdfoahfhijaaWba
import Derived.Test.YtomgdfoahfhijaaGrd
import Derived.Stop.BytesEq
set_option linter.unusedVariables false
set_option linter.unusedSimpArgs false
namespace Go.Proofs.Ytomgdfoahfhijaa
open Go.RowKit

theorem sizeOfB (w : World) : (sizeOf 5).run Try.prog w = .ok 1 w := by
  obtain ⟨i, hi, h⟩ := Option.map_eq_some_iff.1 sizeB
  simp [sizeOf, typeInfo, hi, h]
theorem run_eql_block (w : World) {a b : List UInt8} (ha : a.length = 64) (hb : b.length = 64) : (binOp .eql 80 (.agg (bvs a).toArray) (.agg (bvs b).toArray)).run Try.prog w = .ok (.bool (a == b)) w :=
  run_eql_bytes w _ _ 64 Try.underlying80 Try.underlying5 sizeOfB a b ha hb
theorem run_neq_bytes {P : Program} (w : World) (t e : TypeId) (n : Nat) (ht : P.underlying t = some (.array n e)) (he : P.underlying e = some (.int .u8)) (hsz : ∀ w, (sizeOf e).run P w = .ok 1 w)
    (xs ys : List UInt8) (hx : xs.length = n) (hy : ys.length = n) :
    (binOp .neq t (.agg (xs.map Extern.Stop.cell).toArray) (.agg (ys.map Extern.Stop.cell).toArray)).run P w = .ok (.bool (!(xs == ys))) w := by
  rw [run_neq_struct, run_equalIn_bytes w 9998 t e n ht he hsz xs ys hx hy]
  rfl
theorem run_neq_block (w : World) {a b : List UInt8} (ha : a.length = 64) (hb : b.length = 64) : (binOp .neq 80 (.agg (bvs a).toArray) (.agg (bvs b).toArray)).run Try.prog w = .ok (.bool (!(a == b))) w :=
  run_neq_bytes w _ _ 64 Try.underlying80 Try.underlying5 sizeOfB a b ha hb
theorem exec_eql_block {w : World} {o : Oper} {ev : Operand → Value} {x y : Operand} {t : TypeId} {a b : List UInt8} (ho : o.op = .binOp .eql 80 x y t) (hx : ev x = .agg (bvs a).toArray) (hy : ev y = .agg (bvs b).toArray) (ha : a.length = 64) (hb : b.length = 64) :
    (execOp ev o).run Try.prog w = .ok (.value (.bool (a == b))) w := by
  unfold execOp
  simp only [ho, hx, hy, Sem.run_bind, run_eqGuard_agg w _ _ _ _ _ _ Try.eqGuardType80, Result.andThen_ok, run_eql_block w ha hb, Sem.run_pure]
theorem exec_neq_block {w : World} {o : Oper} {ev : Operand → Value} {x y : Operand} {t : TypeId} {a b : List UInt8} (ho : o.op = .binOp .neq 80 x y t) (hx : ev x = .agg (bvs a).toArray) (hy : ev y = .agg (bvs b).toArray) (ha : a.length = 64) (hb : b.length = 64) :
    (execOp ev o).run Try.prog w = .ok (.value (.bool (!(a == b)))) w := by
  unfold execOp
  simp only [ho, hx, hy, Sem.run_bind, run_eqGuard_agg w _ _ _ _ _ _ Try.eqGuardType80, Result.andThen_ok, run_neq_block w ha hb, Sem.run_pure]
end Go.Proofs.Ytomgdfoahfhijaa

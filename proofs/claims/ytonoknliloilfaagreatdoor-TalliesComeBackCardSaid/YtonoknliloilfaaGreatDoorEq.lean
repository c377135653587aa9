/- What '==' and '!=' give on the program's small structs. -/
import Derived.Test.YtonoknliloilfaaGreatDoorCmp
namespace Go.Proofs.YtonoknliloilfaaGreatDoor
open Go.RowKit

theorem gCell : Tryz.prog.eqGuardType Tryz.prog.depth 35 = false := by kernel_rfl
theorem eqinCell (x y x' y' : Int) (w : World) : (Op.equalIn 10000 35 (.agg #[.int .i64 x, .int .i64 y]) (.agg #[.int .i64 x', .int .i64 y'])).run Tryz.prog w = .ok (decide (x = x') && decide (y = y')) w := by
  have u3 := Tryz.underlying3
  have a3 := Tryz.isAgg3
  have z3 := Tryz.sizeOf3
  have hS : Tryz.prog.underlying 35 = some (.struct (Tryz.prog.fieldsOf 35)) := by kernel_rfl
  have hp : Tryz.prog.stoodInHeld 35 = false := by kernel_rfl
  rw [show (10000 : Nat) = 9999 + 1 from rfl, run_equalIn_agg w 9999 35 _ _ hS hp]
  simp only [Program.fieldsOf, Tryz.underlying35]
  go_simp
  by_cases h1 : x = x' <;> by_cases h2 : y = y' <;> simp [h1, h2]
theorem neqCell (x y x' y' : Int) (w : World) : (binOp .neq 35 (.agg #[.int .i64 x, .int .i64 y]) (.agg #[.int .i64 x', .int .i64 y'])).run Tryz.prog w = .ok (.bool (!(decide (x = x') && decide (y = y')))) w := by
  rw [run_neq_struct, eqinCell]; rfl
theorem eqlCell (x y x' y' : Int) (w : World) : (binOp .eql 35 (.agg #[.int .i64 x, .int .i64 y]) (.agg #[.int .i64 x', .int .i64 y'])).run Tryz.prog w = .ok (.bool (decide (x = x') && decide (y = y'))) w := by
  rw [run_eql_struct, eqinCell]; rfl
end Go.Proofs.YtonoknliloilfaaGreatDoor

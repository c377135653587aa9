/- The small calls of 'ready': CellOf(-1, 250, 100). -/
import Derived.Test.YtonoknliloilfaaGreatDoorDem1
namespace Go.Proofs.YtonoknliloilfaaGreatDoor
open Go.RowKit

set_option maxHeartbeats 400000 in
theorem down_m1 (w : World) : Calls Tryz.prog 54 #[.int .i64 (-1), .int .i64 100] w fun e w' => e = .returned (.int .i64 (-1)) ∧ w = w' := by
  go_enter Tryz.func54, Tryz.ntmps54
  go_wp2
  go_ret
  exact ⟨rfl, rfl⟩
set_option maxHeartbeats 400000 in
theorem down_250 (w : World) : Calls Tryz.prog 54 #[.int .i64 250, .int .i64 100] w fun e w' => e = .returned (.int .i64 2) ∧ w = w' := by
  go_enter Tryz.func54, Tryz.ntmps54
  go_wp2
  go_ret
  exact ⟨rfl, rfl⟩
set_option maxHeartbeats 400000 in
theorem cellOf_rdy (w : World) : Calls Tryz.prog 27 #[.int .i64 (-1), .int .i64 250, .int .i64 100] w fun e w' => e = .returned (.tuple #[.agg #[.int .i64 (-1), .int .i64 2], .int .i64 0]) ∧ Keep [] w w' := by
  have h1 : isPtB (-1) 250 = true := by decide
  have h2 : outB 100 1 10000 = false := by decide
  go_enter Tryz.func27, Tryz.ntmps27
  go_wp2_with (first | (go_at_call 30; refine (isPoint_any _ _ _).mono ?_; rintro e w' ⟨rfl, rfl⟩) | (go_at_call 31; refine (out_any _ _ _ _).mono ?_; rintro e w' ⟨rfl, rfl⟩))
  refine (down_m1 _).mono ?_
  rintro e w' ⟨rfl, rfl⟩
  go_wp2_with fail
  refine (down_250 _).mono ?_
  rintro e w' ⟨rfl, rfl⟩
  go_wp2_with fail
  exact bodyPost_ret (v := .tuple #[.agg #[.int .i64 (-1), .int .i64 2], .int .i64 0]) (by simp [results, Tryz.results27, go_sem]) rfl ⟨rfl, (by repeat (first | with_reducible assumption | with_reducible apply Keep.drew | with_reducible apply Keep.drewN | with_reducible apply Keep.alloc | with_reducible exact Keep.refl _ _))⟩
end Go.Proofs.YtonoknliloilfaaGreatDoor

/- The small calls of 'ready': Divide(10, [1, 1, 1]): the sort finds nothing to do. -/
import Derived.Test.YtonoknliloilfaaGreatDoorRdyA
import Derived.Test.YtonoknliloilfaaGreatDoorOwn
namespace Go.Proofs.YtonoknliloilfaaGreatDoor
open Go.RowKit

set_option maxHeartbeats 400000 in
theorem isNaNU_any (x : Int) (w : World) : Calls Tryz.prog 124 #[.int .u64 x] w fun e w' => e = .returned (.bool false) ∧ w = w' := by
  go_enter Tryz.func124, Tryz.ntmps124
  go_wp2
  go_ret
  exact ⟨rfl, rfl⟩
set_option maxHeartbeats 400000 in
theorem compareU_11 (w : World) : Calls Tryz.prog 85 #[.int .u64 1, .int .u64 1] w fun e w' => e = .returned (.int .i64 0) ∧ w = w' := by
  go_enter Tryz.func85, Tryz.ntmps85
  go_wp2_with (go_at_call 124; refine (isNaNU_any _ _).mono ?_; rintro e w' ⟨rfl, rfl⟩)
  go_ret
  exact ⟨rfl, rfl⟩
set_option maxHeartbeats 400000 in
theorem divCmp_11 (i j : Int) (w : World) : Calls Tryz.prog 84 #[.agg #[.int .i64 i, .int .u64 1], .agg #[.int .i64 j, .int .u64 1]] w fun e w' => e = .returned (.int .i64 0) ∧ Keep [] w w' := by
  go_enter Tryz.func84, Tryz.ntmps84
  go_wp2_with (go_at_call 85; refine (compareU_11 _).mono ?_; rintro e w' ⟨rfl, rfl⟩)
  go_ret
  exact ⟨rfl, (by repeat (first | with_reducible assumption | with_reducible apply Keep.drew | with_reducible apply Keep.drewN | with_reducible apply Keep.alloc | with_reducible exact Keep.refl _ _))⟩

/-- three rests, each with 1 left -/
def Rests (w : World) (b : Nat) : Prop := ∀ i, i < 3 → w.cell? ⟨b, i * 2, none⟩ = some (.int .i64 i) ∧ w.cell? ⟨b, i * 2 + 1, none⟩ = some (.int .u64 1)
theorem Rests.keep {w w' : World} {b : Nat} (h : Rests w b) (k : Keep [] w w') : Rests w' b := fun i hi => ⟨k.known (h i hi).1 (by simp), k.known (h i hi).2 (by simp)⟩

set_option maxHeartbeats 2000000 in
theorem insRests (b cap : Nat) (w : World) (h : Rests w b) :
    Calls Tryz.prog 159 #[.slice (some ⟨b, 0, none⟩) 3 cap, .int .i64 0, .int .i64 3, .func (.func 84) #[] #[]] w fun e w' => e = .returned (.tuple #[]) ∧ Keep [] w w' := by
  have H := Lib.hid h; clear h
  go_enter Tryz.func159, Tryz.ntmps159
  go_wp2_with fail
  go_loopw [8] (fun i wr => ∃ k : Nat, 1 ≤ k ∧ k ≤ 3 ∧ i = .int .i64 k ∧ Keep [] w wr) (fun i _ => 3 - (intOf i).toNat)
  case atStart => exact ⟨1, by omega, by omega, rfl, Keep.refl _ _⟩
  case round =>
    obtain ⟨k, hk0, hk, rfl, kp⟩ := hrel
    by_cases hlt : k < 3
    · obtain ⟨c0, c1⟩ := (H.out.keep kp) k hlt
      obtain ⟨d0, d1⟩ := (H.out.keep kp) (k - 1) (by omega)
      have k0 : ∀ w', Keep [] wr w' → w'.cell? ⟨b, k * 2, none⟩ = some (.int .i64 k) := fun _ q => q.known c0 (by simp)
      have k1 : ∀ w', Keep [] wr w' → w'.cell? ⟨b, k * 2 + 1, none⟩ = some (.int .u64 1) := fun _ q => q.known c1 (by simp)
      have k2 : ∀ w', Keep [] wr w' → w'.cell? ⟨b, (k - 1) * 2, none⟩ = some (.int .i64 ((k - 1 : Nat) : Int)) := fun _ q => q.known d0 (by simp)
      have k3 : ∀ w', Keep [] wr w' → w'.cell? ⟨b, (k - 1) * 2 + 1, none⟩ = some (.int .u64 1) := fun _ q => q.known d1 (by simp)
      clear c0 c1 d0 d1
      have hd : decide ((0 : Int) < (k : Int)) = true := by simp; omega
      have hd' : decide (0 < k) = true := by simp; omega
      have hk5 : IntKind.i64.wrap ((k : Int) - 1) = ((k - 1 : Nat) : Int) := by rw [IntWalk.i64_in _ (by omega)]; omega
      have hk6 : k - 1 < 3 := by omega
      have hk7 : ((k - 1 : Nat) : Int) < 3 := by omega
      go_wp2_with fail
      refine wp_loop_rounds 1 ?_
      rw [rounds_succ]
      go_wp2_with fail
      go_region_held3 (fun w' => Keep [] wr w') (first | exact (Keep.refl _ _).drew | exact Keep.tr (by assumption) (by assumption) | exact Keep.alloc (by assumption) _ | assumption | exact Keep.drew (Keep.drewN (by assumption) _) | exact Keep.drew (by assumption)) (first | (go_at_call 84; refine (divCmp_11 _ _ _).mono ?_; rintro e w' ⟨rfl, hk⟩))
      go_wp2_with fail
      refine ⟨?_, ?measure⟩
      case measure => simp [intOf]; omega
      first | exact ⟨k + 1, by omega, by omega, by go_num, kp.tr (by assumption)⟩ | ((repeat apply Exists.intro); refine ⟨?_, rfl⟩; exact ⟨k + 1, by omega, by omega, by go_num, kp.tr (by assumption)⟩)
    · go_wp2_with fail
      go_end0
      exact ⟨rfl, kp⟩

set_option maxHeartbeats 2000000 in
theorem stableRests (b cap : Nat) (w : World) (h : Rests w b) :
    Calls Tryz.prog 123 #[.slice (some ⟨b, 0, none⟩) 3 cap, .int .i64 3, .func (.func 84) #[] #[]] w fun e w' => e = .returned (.tuple #[]) ∧ Keep [] w w' := by
  have H := Lib.hid h; clear h
  go_enter Tryz.func123, Tryz.ntmps123
  go_wp2_with fail
  refine wp_loop_rounds 1 ?_
  rw [rounds_succ]
  go_wp2_with (go_at_call 159; refine (insRests _ _ _ H.out).mono ?_; rintro e w' ⟨rfl, hk⟩)
  refine wp_loop_rounds 1 ?_
  rw [rounds_succ]
  go_wp2_with fail
  go_end0
  exact ⟨rfl, hk⟩
set_option maxHeartbeats 2000000 in
theorem sortStableRests (b cap : Nat) (w : World) (h : Rests w b) :
    Calls Tryz.prog 83 #[.slice (some ⟨b, 0, none⟩) 3 cap, .func (.func 84) #[] #[]] w fun e w' => e = .returned (.tuple #[]) ∧ Keep [] w w' := by
  have H := Lib.hid h; clear h
  go_enter Tryz.func83, Tryz.ntmps83
  go_wp2_with (go_at_call 123; refine (stableRests _ _ _ H.out).mono ?_; rintro e w' ⟨rfl, hk⟩)
  go_end0
  exact ⟨rfl, hk⟩
set_option maxRecDepth 100000 in
set_option maxHeartbeats 400000 in
theorem div64_10 (w : World) : Calls Tryz.prog 82 #[.int .u64 0, .int .u64 10, .int .u64 3] w fun e w' => e = .returned (.tuple #[.int .u64 3, .int .u64 1]) ∧ Keep [] w w' := by
  go_enter Tryz.func82, Tryz.ntmps82
  go_wp2_with fail
  go_quiet (fail)
  go_wp2_with fail
  go_ret2
  exact ⟨rfl, (by repeat (first | with_reducible assumption | with_reducible apply Keep.drew | with_reducible apply Keep.drewN | with_reducible apply Keep.alloc | with_reducible exact Keep.refl _ _))⟩
set_option maxHeartbeats 400000 in
theorem mul64_10 (w : World) : Calls Tryz.prog 81 #[.int .u64 10, .int .u64 1] w fun e w' => e = .returned (.tuple #[.int .u64 0, .int .u64 10]) ∧ w = w' := by
  go_enter Tryz.func81, Tryz.ntmps81
  go_wp2_with fail
  go_ret2
  exact ⟨rfl, rfl⟩
end Go.Proofs.YtonoknliloilfaaGreatDoor

/- live.Rides at the one event of 'ready': byName. -/
import Derived.Test.YtonoknliloilfaaGreatDoorNk
namespace Go.Proofs.YtonoknliloilfaaGreatDoor
open Go.RowKit

set_option maxHeartbeats 4000000 in
set_option maxRecDepth 100000 in
theorem byName_rdy (b cap : Nat) (w : World) (h : EvAt w b) :
    Calls Tryz.prog 87 #[.slice (some ⟨b, 0, none⟩) 1 cap] w fun e w' => (∃ m, e = .returned (.map (some m)) ∧ w.heap.size ≤ m ∧ MapIs encName (Value.int .i64) w' m [((⟨#[115]⟩, 1), 0)]) ∧ Keep [] w w' := by
  have r0 : ∀ w', Keep [] w w' → w'.cell? ⟨b, 0, none⟩ = some (.string ⟨#[115]⟩) := fun _ k => k.known (h 0 _ rfl) (by simp)
  have r1 : ∀ w', Keep [] w w' → w'.cell? ⟨b, 1, none⟩ = some (.int .i64 1) := fun _ k => k.known (h 1 _ rfl) (by simp)
  have r2 : ∀ w', Keep [] w w' → w'.cell? ⟨b, 2, none⟩ = some (.int .i64 0) := fun _ k => k.known (h 2 _ rfl) (by simp)
  have r3 : ∀ w', Keep [] w w' → w'.cell? ⟨b, 3, none⟩ = some (.int .i64 1) := fun _ k => k.known (h 3 _ rfl) (by simp)
  have r4 : ∀ w', Keep [] w w' → w'.cell? ⟨b, 4, none⟩ = some (.string ⟨#[114]⟩) := fun _ k => k.known (h 4 _ rfl) (by simp)
  have r5 : ∀ w', Keep [] w w' → w'.cell? ⟨b, 5, none⟩ = some (.string ⟨#[]⟩) := fun _ k => k.known (h 5 _ rfl) (by simp)
  have r6 : ∀ w', Keep [] w w' → w'.cell? ⟨b, 6, none⟩ = some (.string ⟨#[]⟩) := fun _ k => k.known (h 6 _ rfl) (by simp)
  have r7 : ∀ w', Keep [] w w' → w'.cell? ⟨b, 7, none⟩ = some (.int .i64 5) := fun _ k => k.known (h 7 _ rfl) (by simp)
  have r8 : ∀ w', Keep [] w w' → w'.cell? ⟨b, 8, none⟩ = some (.int .i64 9) := fun _ k => k.known (h 8 _ rfl) (by simp)
  have r9 : ∀ w', Keep [] w w' → w'.cell? ⟨b, 9, none⟩ = some (.string ⟨#[]⟩) := fun _ k => k.known (h 9 _ rfl) (by simp)
  have r10 : ∀ w', Keep [] w w' → w'.cell? ⟨b, 10, none⟩ = some (.int .i64 0) := fun _ k => k.known (h 10 _ rfl) (by simp)
  clear h
  have hmm := @run_makeMap Tryz.prog
  go_enter Tryz.func87, Tryz.ntmps87
  go_wp2_with fail
  have kp0 : Keep [] w (w.alloc (.map #[] 0)) := (Keep.refl _ _).alloc _
  have hm := MapIs.new (κ := ByteArray × Int) (ν := Int) (encK := encName) (encV := Value.int .i64) w
  refine wp_loop_rounds 2 ?_
  rw [rounds_succ]
  go_wp2_with fail
  have kp1 := kp0.alloc (.cells #[.string ⟨#[115]⟩, .int .i64 1, .int .i64 0, .int .i64 1, .string ⟨#[114]⟩, .string ⟨#[]⟩, .string ⟨#[]⟩, .int .i64 5, .int .i64 9, .string ⟨#[]⟩, .int .i64 0] 78)
  replace hm := hm.keep ((Keep.refl [] _).alloc (.cells #[.string ⟨#[115]⟩, .int .i64 1, .int .i64 0, .int .i64 1, .string ⟨#[114]⟩, .string ⟨#[]⟩, .string ⟨#[]⟩, .int .i64 5, .int .i64 9, .string ⟨#[]⟩, .int .i64 0] 78)) (by simp)
  obtain ⟨w3, hrun, hk3, hs3, hm3⟩ := MapIs.update hm kName Tryz.underlying159 (⟨#[115]⟩, 1) (0 : Int)
  have kM := kp1.trans hk3 (fun i hi hlt => by simp only [List.mem_singleton] at hi; omega)
  simp only [encName] at hrun
  rw [hrun]
  clear hrun
  go_wp2_with fail
  rw [rounds_succ]
  go_wp2_with fail
  go_ret
  exact ⟨⟨_, rfl, Nat.le_refl _, hm3⟩, kM⟩
end Go.Proofs.YtonoknliloilfaaGreatDoor

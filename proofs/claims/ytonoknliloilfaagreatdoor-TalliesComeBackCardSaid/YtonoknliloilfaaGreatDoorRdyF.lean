/- live.Rides at the one event of 'ready': CheckEvents, byName. -/
import Derived.Test.YtonoknliloilfaaGreatDoorRdyE
import Derived.Test.YtonoknliloilfaaGreatDoorMap
namespace Go.Proofs.YtonoknliloilfaaGreatDoor
open Go.RowKit

/-- the one event of 'ready' in a block -/
def EvAt (w : World) (b : Nat) : Prop := ∀ i v, evR[i]? = some v → w.cell? ⟨b, i, none⟩ = some v
theorem EvAt.keep {w w' : World} {b : Nat} (h : EvAt w b) (k : Keep [] w w') : EvAt w' b := fun i v hi => k.known (h i v hi) (by simp)

theorem mapLen {κ ν : Type} {encK : κ → Value} {encV : ν → Value} {P : Program} {t k e : TypeId} {w : World} {b : Nat} {m : List (κ × ν)} (h : MapIs encK encV w b m) (ht : P.underlying t = some (.map k e)) (ty : TypeId) :
    (Builtin.len_ #[t] ty #[.map (some b)]).run P w = .ok (.int .i64 m.length) w := by
  obtain ⟨es, clock, hb, h1, _⟩ := h
  have hl : es.size = m.length := by have := congrArg List.length h1; simpa using this
  simp [Builtin.len_, run_underlying ht, run_getObj_map hb, goInt, Result.andThen, hl]
theorem kStr : MapKey Tryz.prog 9 Value.string := mapKey_string Tryz.underlying9

set_option maxHeartbeats 4000000 in
set_option maxRecDepth 100000 in
theorem checkEvents_rdy (b cap : Nat) (w : World) (h : EvAt w b) :
    Calls Tryz.prog 86 #[.slice (some ⟨b, 0, none⟩) 1 cap] w fun e w' => e = .returned (.int .i64 0) ∧ Keep [] w w' := by
  have r0 : ∀ w', Keep [] w w' → w'.cell? ⟨b, 0, none⟩ = some (.string ⟨#[115]⟩) := fun _ k => k.known (h 0 _ rfl) (by simp)
  have r1 : ∀ w', Keep [] w w' → w'.cell? ⟨b, 1, none⟩ = some (.int .i64 1) := fun _ k => k.known (h 1 _ rfl) (by simp)
  have r2 : ∀ w', Keep [] w w' → w'.cell? ⟨b, 2, none⟩ = some (.int .i64 0) := fun _ k => k.known (h 2 _ rfl) (by simp)
  have r3 : ∀ w', Keep [] w w' → w'.cell? ⟨b, 3, none⟩ = some (.int .i64 1) := fun _ k => k.known (h 3 _ rfl) (by simp)
  have r4 : ∀ w', Keep [] w w' → w'.cell? ⟨b, 4, none⟩ = some (.string ⟨#[114]⟩) := fun _ k => k.known (h 4 _ rfl) (by simp)
  have r5 : ∀ w', Keep [] w w' → w'.cell? ⟨b, 5, none⟩ = some (.string ⟨#[]⟩) := fun _ k => k.known (h 5 _ rfl) (by simp)
  have r6 : ∀ w', Keep [] w w' → w'.cell? ⟨b, 6, none⟩ = some (.string ⟨#[]⟩) := fun _ k => k.known (h 6 _ rfl) (by simp)
  have r7 : ∀ w', Keep [] w w' → w'.cell? ⟨b, 7, none⟩ = some (.int .i64 5) := fun _ k => k.known (h 7 _ rfl) (by simp)
  have r8 : ∀ w', Keep [] w w' → w'.cell? ⟨b, 8, none⟩ = some (.int .i64 9) := fun _ k => k.known (h 8 _ rfl) (by simp)
  have r9 : ∀ w', Keep [] w w' → w'.cell? ⟨b, 9, none⟩ = some (.string ⟨#[]⟩) := fun _ k => k.known (h 9 _ rfl) (by simp)
  have r10 : ∀ w', Keep [] w w' → w'.cell? ⟨b, 10, none⟩ = some (.int .i64 0) := fun _ k => k.known (h 10 _ rfl) (by simp)
  clear h
  have hmm := @run_makeMap Tryz.prog
  go_enter Tryz.func86, Tryz.ntmps86
  go_wp2_with fail
  have kp0 : Keep [] w (w.alloc (.map #[] 0)) := (Keep.refl _ _).alloc _
  have hm := MapIs.new (κ := ByteArray) (ν := Int) (encK := Value.string) (encV := Value.int .i64) w
  refine wp_loop_rounds 2 ?_
  rw [rounds_succ]
  go_wp2_with fail
  have kp1 := kp0.alloc (.cells #[.string ⟨#[115]⟩, .int .i64 1, .int .i64 0, .int .i64 1, .string ⟨#[114]⟩, .string ⟨#[]⟩, .string ⟨#[]⟩, .int .i64 5, .int .i64 9, .string ⟨#[]⟩, .int .i64 0] 78)
  have hb1 := Blk.new (w.alloc (.map #[] 0)) #[.string ⟨#[115]⟩, .int .i64 1, .int .i64 0, .int .i64 1, .string ⟨#[114]⟩, .string ⟨#[]⟩, .string ⟨#[]⟩, .int .i64 5, .int .i64 9, .string ⟨#[]⟩, .int .i64 0] 78
  rw [World.size_alloc] at hb1
  have kM := fun w' (k : Keep [w.heap.size] _ w') => kp1.trans k (fun i hi hlt => by simp only [List.mem_singleton] at hi; omega)
  replace hm := hm.keep ((Keep.refl [] _).alloc (.cells #[.string ⟨#[115]⟩, .int .i64 1, .int .i64 0, .int .i64 1, .string ⟨#[114]⟩, .string ⟨#[]⟩, .string ⟨#[]⟩, .int .i64 5, .int .i64 9, .string ⟨#[]⟩, .int .i64 0] 78)) (by simp)
  generalize (w.alloc (.map #[] 0)).alloc (.cells #[.string ⟨#[115]⟩, .int .i64 1, .int .i64 0, .int .i64 1, .string ⟨#[114]⟩, .string ⟨#[]⟩, .string ⟨#[]⟩, .int .i64 5, .int .i64 9, .string ⟨#[]⟩, .int .i64 0] 78) = W0 at *
  generalize w.heap.size = M at *
  have x0 : ∀ w', Keep [] W0 w' → w'.cell? ⟨M + 1, 0, none⟩ = some (.string ⟨#[115]⟩) := fun _ k => k.known (hb1.cell 0) (by simp)
  have x1 : ∀ w', Keep [] W0 w' → w'.cell? ⟨M + 1, 1, none⟩ = some (.int .i64 1) := fun _ k => k.known (hb1.cell 1) (by simp)
  have x2 : ∀ w', Keep [] W0 w' → w'.cell? ⟨M + 1, 2, none⟩ = some (.int .i64 0) := fun _ k => k.known (hb1.cell 2) (by simp)
  have x3 : ∀ w', Keep [] W0 w' → w'.cell? ⟨M + 1, 3, none⟩ = some (.int .i64 1) := fun _ k => k.known (hb1.cell 3) (by simp)
  have x4 : ∀ w', Keep [] W0 w' → w'.cell? ⟨M + 1, 4, none⟩ = some (.string ⟨#[114]⟩) := fun _ k => k.known (hb1.cell 4) (by simp)
  have x5 : ∀ w', Keep [] W0 w' → w'.cell? ⟨M + 1, 5, none⟩ = some (.string ⟨#[]⟩) := fun _ k => k.known (hb1.cell 5) (by simp)
  have x6 : ∀ w', Keep [] W0 w' → w'.cell? ⟨M + 1, 6, none⟩ = some (.string ⟨#[]⟩) := fun _ k => k.known (hb1.cell 6) (by simp)
  have x7 : ∀ w', Keep [] W0 w' → w'.cell? ⟨M + 1, 7, none⟩ = some (.int .i64 5) := fun _ k => k.known (hb1.cell 7) (by simp)
  have x8 : ∀ w', Keep [] W0 w' → w'.cell? ⟨M + 1, 8, none⟩ = some (.int .i64 9) := fun _ k => k.known (hb1.cell 8) (by simp)
  have x9 : ∀ w', Keep [] W0 w' → w'.cell? ⟨M + 1, 9, none⟩ = some (.string ⟨#[]⟩) := fun _ k => k.known (hb1.cell 9) (by simp)
  have x10 : ∀ w', Keep [] W0 w' → w'.cell? ⟨M + 1, 10, none⟩ = some (.int .i64 0) := fun _ k => k.known (hb1.cell 10) (by simp)
  have kf : ∀ w', Keep [] W0 w' → Keep [] w w' := fun _ k => kp1.tr k
  have hlk : ∀ w', Keep [] W0 w' → (Instr.lookup 196 (.map (some M)) (.string ⟨#[115]⟩) false).run Tryz.prog w' = .ok (.int .i64 0) w' := fun w' k => (hm.keep k (by simp)).lookup kStr Tryz.underlying196 (fun _ => rfl) ⟨#[115]⟩
  have hf := eventFault_rdy W0
  simp only [evR] at hf
  refine hf.mono ?_
  rintro e w1 ⟨rfl, hk1⟩
  clear hf hb1 kp0 kp1 r0 r1 r2 r3 r4 r5 r6 r7 r8 r9 r10
  go_wp2_with fail
  go_quiet (fail)
  go_wp2_with fail
  obtain ⟨w3, hrun, hk3, hs3, hm3⟩ := MapIs.update (hm.keep (hk1.drewN nq) (by simp)) kStr Tryz.underlying196 ⟨#[115]⟩ (1 : Int)
  rw [hrun]
  go_wp2_with fail
  rw [rounds_succ]
  go_wp2_with fail
  have hlen := mapLen hm3 Tryz.underlying196 3
  rw [hlen]
  have hle : ((mput (⟨#[115]⟩ : ByteArray) (1 : Int) []).length : Int) = 1 := rfl
  go_wp2_with fail
  go_ret
  exact ⟨rfl, kM _ (((hk1.drewN nq).mono (by simp)).tr hk3)⟩
end Go.Proofs.YtonoknliloilfaaGreatDoor

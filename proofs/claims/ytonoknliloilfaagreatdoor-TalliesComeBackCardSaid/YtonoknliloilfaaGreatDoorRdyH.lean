/- live.follow at the one event of 'ready'. -/
import Derived.Test.YtonoknliloilfaaGreatDoorRdyS
namespace Go.Proofs.YtonoknliloilfaaGreatDoor
open Go.RowKit

set_option maxHeartbeats 8000000 in
set_option maxRecDepth 100000 in
theorem follow_rdy (b cap : Nat) (w : World) (h : EvAt w b) :
    Calls Tryz.prog 50 #[.slice (some ⟨b, 0, none⟩) 1 cap, .int .i64 3, .nilFunc] w fun e w' => (∃ d r s, e = .returned (.pointer (some ⟨d, 0, none⟩)) ∧ w'.cell? ⟨d, 1, none⟩ = some (.map (some r)) ∧ MapIs Value.string (fun a => .pointer (some a)) w' r [(⟨#[114]⟩, (⟨s, 0, none⟩ : Addr))] ∧ Blk w' s stR 122) ∧ Keep [] w w' := by
  have r0 : ∀ w', Keep [] w w' → w'.cell? ⟨b, 0, none⟩ = some (.string ⟨#[115]⟩) := fun _ k => k.known (h 0 _ rfl) (by simp)
  have r1 : ∀ w', Keep [] w w' → w'.cell? ⟨b, 1, none⟩ = some (.int .i64 1) := fun _ k => k.known (h 1 _ rfl) (by simp)
  have r2 : ∀ w', Keep [] w w' → w'.cell? ⟨b, 2, none⟩ = some (.int .i64 0) := fun _ k => k.known (h 2 _ rfl) (by simp)
  have r3 : ∀ w', Keep [] w w' → w'.cell? ⟨b, 3, none⟩ = some (.int .i64 1) := fun _ k => k.known (h 3 _ rfl) (by simp)
  have r4 : ∀ w', Keep [] w w' → w'.cell? ⟨b, 4, none⟩ = some (.string ⟨#[114]⟩) := fun _ k => k.known (h 4 _ rfl) (by simp)
  have r5 : ∀ w', Keep [] w w' → w'.cell? ⟨b, 5, none⟩ = some (.string ⟨#[]⟩) := fun _ k => k.known (h 5 _ rfl) (by simp)
  have r6 : ∀ w', Keep [] w w' → w'.cell? ⟨b, 6, none⟩ = some (.string ⟨#[]⟩) := fun _ k => k.known (h 6 _ rfl) (by simp)
  have r7 : ∀ w', Keep [] w w' → w'.cell? ⟨b, 7, none⟩ = some (.int .i64 5) := fun _ k => k.known (h 7 _ rfl) (by simp)
  have r8 : ∀ w', Keep [] w w' → w'.cell? ⟨b, 8, none⟩ = some (.int .i64 9) := fun _ k => k.known (h 8 _ rfl) (by simp)
  have r9 : ∀ w', Keep [] w w' → w'.cell? ⟨b, 9, none⟩ = some (.string ⟨#[]⟩) := fun _ k => k.known (h 9 _ rfl) (by simp)
  have r10 : ∀ w', Keep [] w w' → w'.cell? ⟨b, 10, none⟩ = some (.int .i64 0) := fun _ k => k.known (h 10 _ rfl) (by simp)
  have HE := Lib.hid h
  clear h
  have hmm := @run_makeMap Tryz.prog
  have hnn : ∀ w, (binOp .neq 115 .nilFunc .nilFunc).run Tryz.prog w = .ok (.bool false) w := fun _ => by kernel_rfl
  go_enter Tryz.func50, Tryz.ntmps50
  go_wp2_with fail
  obtain ⟨M, hM⟩ : ∃ M, M = w.heap.size := ⟨_, rfl⟩
  have mR : MapIs Value.string (fun a => .pointer (some a)) _ w.heap.size ([] : List (ByteArray × Addr)) := ((MapIs.new w).keep ((((Keep.refl [] _).alloc (.map #[] 0)).alloc (.map #[] 0)).alloc (.map #[] 0)) (by simp)).keep ((Keep.refl [] _).alloc (.cells #[.slice (some ⟨b, 0, none⟩) 1 cap, .map (some w.heap.size), .map (some (w.heap.size + 1)), .slice none 0 0, .map (some (w.heap.size + 1 + 1)), .map (some (w.heap.size + 1 + 1 + 1)), .nilFunc] 117)) (by simp)
  have mG : MapIs (Value.int .i64) (Value.int .i64) _ _ ([] : List (Int × Int)) := ((MapIs.new ((w.alloc (.map #[] 0)).alloc (.map #[] 0))).keep ((Keep.refl [] _).alloc (.map #[] 0)) (by simp)).keep ((Keep.refl [] _).alloc (.cells #[.slice (some ⟨b, 0, none⟩) 1 cap, .map (some w.heap.size), .map (some (w.heap.size + 1)), .slice none 0 0, .map (some (w.heap.size + 1 + 1)), .map (some (w.heap.size + 1 + 1 + 1)), .nilFunc] 117)) (by simp)
  have bD := Blk.new ((((w.alloc (.map #[] 0)).alloc (.map #[] 0)).alloc (.map #[] 0)).alloc (.map #[] 0)) #[.slice (some ⟨b, 0, none⟩) 1 cap, .map (some w.heap.size), .map (some (w.heap.size + 1)), .slice none 0 0, .map (some (w.heap.size + 1 + 1)), .map (some (w.heap.size + 1 + 1 + 1)), .nilFunc] 117
  have kA : Keep [] w _ := (((((Keep.refl _ w).alloc (.map #[] 0)).alloc (.map #[] 0)).alloc (.map #[] 0)).alloc (.map #[] 0)).alloc (.cells #[.slice (some ⟨b, 0, none⟩) 1 cap, .map (some w.heap.size), .map (some (w.heap.size + 1)), .slice none 0 0, .map (some (w.heap.size + 1 + 1)), .map (some (w.heap.size + 1 + 1 + 1)), .nilFunc] 117)
  simp only [World.size_alloc] at mG bD
  generalize (((((w.alloc (.map #[] 0)).alloc (.map #[] 0)).alloc (.map #[] 0)).alloc (.map #[] 0)).alloc (.cells #[.slice (some ⟨b, 0, none⟩) 1 cap, .map (some w.heap.size), .map (some (w.heap.size + 1)), .slice none 0 0, .map (some (w.heap.size + 1 + 1)), .map (some (w.heap.size + 1 + 1 + 1)), .nilFunc] 117)) = WD at *
  rw [← hM] at mR mG bD ⊢
  have HM := Lib.hid hM; clear hM
  have HK := Lib.hid kA
  refine (byName_rdy b cap WD (fun i v hv => kA.known (HE.out i v hv) (by simp))).mono ?_
  rintro e w1 ⟨⟨m, rfl, hm, hmn⟩, hk1⟩
  have mR1 := mR.keep hk1 (by simp)
  have mG1 := mG.keep hk1 (by simp)
  have bD1 := bD.keep hk1 (by simp)
  have kA1 := kA.tr hk1
  have kup : ∀ w', Keep [] w1 w' → Keep [] w w' := fun _ k => kA1.tr k
  have d0 : ∀ w', Keep [] w1 w' → w'.cell? ⟨M + 1 + 1 + 1 + 1, 0, none⟩ = some (.slice (some ⟨b, 0, none⟩) 1 cap) := fun _ k => k.known (bD1.cell 0) (by simp)
  have d1 : ∀ w', Keep [] w1 w' → w'.cell? ⟨M + 1 + 1 + 1 + 1, 4, none⟩ = some (.map (some (M + 1 + 1))) := fun _ k => k.known (bD1.cell 4) (by simp)
  have l1 : ∀ w', Keep [] w1 w' → (Instr.lookup 159 (.map (some m)) (.agg #[.string ⟨#[]⟩, .int .i64 0]) true).run Tryz.prog w' = .ok (.tuple #[.int .i64 0, .bool false]) w' := fun w' k => (hmn.keep k (by simp)).lookup_ok kName Tryz.underlying159 (z := .int .i64 0) (fun _ => rfl) (⟨#[]⟩, 0)
  have l2 : ∀ w', Keep [] w1 w' → (Instr.lookup 113 (.map (some (M + 1 + 1))) (.int .i64 0) true).run Tryz.prog w' = .ok (.tuple #[.int .i64 0, .bool false]) w' := fun w' k => (mG1.keep k (by simp)).lookup_ok (mapKey_int .i64 Tryz.underlying3) Tryz.underlying113 (z := .int .i64 0) (fun _ => rfl) 0
  clear mG bD mG1 mR kA hk1
  go_wp2_with fail
  refine wp_loop_rounds 2 ?_
  rw [rounds_succ]
  go_wp2_with fail
  rw [rounds_succ]
  go_wp2_with fail
  refine wp_loop_rounds 2 ?_
  rw [rounds_succ]
  go_wp2_with fail
  have k2 : Keep [] w1 ((w1.alloc (.cells #[.string ⟨#[115]⟩, .int .i64 1, .int .i64 0, .int .i64 1, .string ⟨#[114]⟩, .string ⟨#[]⟩, .string ⟨#[]⟩, .int .i64 5, .int .i64 9, .string ⟨#[]⟩, .int .i64 0] 78)).alloc (.cells #[.string ⟨#[115]⟩, .int .i64 1, .int .i64 0, .int .i64 1, .string ⟨#[114]⟩, .string ⟨#[]⟩, .string ⟨#[]⟩, .int .i64 5, .int .i64 9, .string ⟨#[]⟩, .int .i64 0] 78)) := ((Keep.refl _ _).alloc _).alloc _
  generalize (w1.alloc (.cells #[.string ⟨#[115]⟩, .int .i64 1, .int .i64 0, .int .i64 1, .string ⟨#[114]⟩, .string ⟨#[]⟩, .string ⟨#[]⟩, .int .i64 5, .int .i64 9, .string ⟨#[]⟩, .int .i64 0] 78)).alloc (.cells #[.string ⟨#[115]⟩, .int .i64 1, .int .i64 0, .int .i64 1, .string ⟨#[114]⟩, .string ⟨#[]⟩, .string ⟨#[]⟩, .int .i64 5, .int .i64 9, .string ⟨#[]⟩, .int .i64 0] 78) = W2 at *
  have hs := step_rdy (M + 1 + 1 + 1 + 1) M 0 (.map (some m)) W2 ((bD1.keep k2 (by simp)).cell 1) (by omega) (mR1.keep k2 (by simp))
  have bD2 := Lib.hid (bD1.keep k2 (by simp))
  have KW : Hid (Keep [] w W2) := kA1.tr k2
  simp only [evR] at hs
  refine hs.mono ?_
  rintro e w4 ⟨⟨s, v, rfl, hs1, hs2, hs3⟩, hk4⟩
  have bD4 := bD2.out.keep hk4 (by simp; omega)
  have d6 : ∀ w', Keep [] w4 w' → w'.cell? ⟨M + 1 + 1 + 1 + 1, 6, none⟩ = some (.nilFunc) := fun _ k => k.known (bD4.cell 6) (by simp)
  have HF := Lib.hid (And.intro hs2 (And.intro hs3 (bD4.cell 1)))
  have KF : Hid (Keep [] w w4) := KW.out.trans hk4 (fun i hi hlt => by have := HM.out; simp only [List.mem_singleton] at hi; omega)
  clear hs hs1 hs2 hs3 hk4 bD4 mR1 bD1 kA1 kup d0 d1 l1 l2 r0 r1 r2 r3 r4 r5 r6 r7 r8 r9 r10 hmm hmn hm
  go_wp2_with fail
  rw [rounds_succ]
  go_wp2_with fail
  go_ret
  exact ⟨⟨_, _, _, rfl, HF.out.2.2, HF.out.1, HF.out.2.1⟩, KF.out⟩
end Go.Proofs.YtonoknliloilfaaGreatDoor

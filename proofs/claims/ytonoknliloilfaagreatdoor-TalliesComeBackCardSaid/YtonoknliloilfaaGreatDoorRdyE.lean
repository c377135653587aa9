/- live.Rides at the one event of 'ready': its checks. -/
import Derived.Test.YtonoknliloilfaaGreatDoorKp
namespace Go.Proofs.YtonoknliloilfaaGreatDoor
open Go.RowKit

def useCells : Array Value := #[.string ⟨#[98, 111, 111, 107]⟩, .bool true, .bool false, .bool false, .bool true, .bool false, .string ⟨#[97, 115, 115, 105, 103, 110]⟩, .bool true, .bool true, .bool false, .bool false, .bool false, .string ⟨#[111, 110]⟩, .bool true, .bool true, .bool true, .bool false, .bool false, .string ⟨#[111, 102, 102]⟩, .bool true, .bool true, .bool true, .bool false, .bool false, .string ⟨#[99, 97, 110, 99, 101, 108]⟩, .bool true, .bool false, .bool false, .bool false, .bool false, .string ⟨#[97, 98, 115, 101, 110, 116]⟩, .bool true, .bool false, .bool false, .bool false, .bool false, .string ⟨#[112, 97, 115, 115]⟩, .bool false, .bool true, .bool true, .bool false, .bool false, .string ⟨#[98, 114, 111, 107, 101, 110]⟩, .bool false, .bool true, .bool false, .bool false, .bool false, .string ⟨#[117, 110, 100, 111]⟩, .bool false, .bool false, .bool false, .bool false, .bool true]

set_option maxHeartbeats 2000000 in
theorem uses_any (w : World) : Calls Tryz.prog 161 #[] w fun e w' => e = .returned (.slice (some ⟨w.heap.size, 0, none⟩) 9 9) ∧ w.alloc (.cells useCells 227) = w' := by
  go_enter Tryz.func161, Tryz.ntmps161
  go_wp2
  go_ret
  exact ⟨rfl, rfl⟩

def evR : Array Value := #[.string ⟨#[115]⟩, .int .i64 1, .int .i64 0, .int .i64 1, .string ⟨#[114]⟩, .string ⟨#[]⟩, .string ⟨#[]⟩, .int .i64 5, .int .i64 9, .string ⟨#[]⟩, .int .i64 0]

theorem neqEvR (w : World) : (binOp .neq 78 (.agg evR) (.agg evR)).run Tryz.prog w = .ok (.bool false) w := by
  kernel_rfl
theorem gEv : Tryz.prog.eqGuardType Tryz.prog.depth 78 = false := by kernel_rfl

set_option maxHeartbeats 4000000 in
set_option maxRecDepth 100000 in
theorem eventFault_rdy (w : World) : Calls Tryz.prog 125 #[.agg evR] w fun e w' => e = .returned (.int .i64 0) ∧ Keep [] w w' := by
  unfold evR
  have hq := neqEvR
  unfold evR at hq
  have hg := gEv
  have k1 : keyB ⟨#[115]⟩ = true := by decide
  have k2 : keyB ⟨#[114]⟩ = true := by decide
  have o1 : outB 1 1 3000 = false := by decide
  have o2 : momB 0 = true := by decide
  have o3 : outB 1 1 9 = false := by decide
  have o4 : outB 5 0 345686399999 = false := by decide
  have o5 : outB 9 5 345686399999 = false := by decide
  go_enter Tryz.func125, Tryz.ntmps125
  go_wp2_with (first | (go_at_call 73; refine (key_any _ _ (by decide)).mono ?_; rintro e w' ⟨rfl, rfl⟩) | (go_at_call 31; refine (out_any _ _ _ _).mono ?_; rintro e w' ⟨rfl, rfl⟩) | (go_at_call 46; refine (moment_any _ _).mono ?_; rintro e w' ⟨rfl, rfl⟩))
  have kp0 : Keep [] w (w.alloc (.cells #[.string ⟨#[115]⟩, .int .i64 1, .int .i64 0, .int .i64 1, .string ⟨#[114]⟩, .string ⟨#[]⟩, .string ⟨#[]⟩, .int .i64 5, .int .i64 9, .string ⟨#[]⟩, .int .i64 0] 78)) := (Keep.refl _ _).alloc _
  have b1 := Blk.new w #[.string ⟨#[115]⟩, .int .i64 1, .int .i64 0, .int .i64 1, .string ⟨#[114]⟩, .string ⟨#[]⟩, .string ⟨#[]⟩, .int .i64 5, .int .i64 9, .string ⟨#[]⟩, .int .i64 0] 78
  generalize w.alloc (.cells #[.string ⟨#[115]⟩, .int .i64 1, .int .i64 0, .int .i64 1, .string ⟨#[114]⟩, .string ⟨#[]⟩, .string ⟨#[]⟩, .int .i64 5, .int .i64 9, .string ⟨#[]⟩, .int .i64 0] 78) = W0 at *
  generalize w.heap.size = B at *
  have r0 : ∀ w', Keep [] W0 w' → w'.cell? ⟨B, 0, none⟩ = some (.string ⟨#[115]⟩) := fun _ k => k.known (b1.cell 0) (by simp)
  have r1 : ∀ w', Keep [] W0 w' → w'.cell? ⟨B, 1, none⟩ = some (.int .i64 1) := fun _ k => k.known (b1.cell 1) (by simp)
  have r2 : ∀ w', Keep [] W0 w' → w'.cell? ⟨B, 2, none⟩ = some (.int .i64 0) := fun _ k => k.known (b1.cell 2) (by simp)
  have r3 : ∀ w', Keep [] W0 w' → w'.cell? ⟨B, 3, none⟩ = some (.int .i64 1) := fun _ k => k.known (b1.cell 3) (by simp)
  have r4 : ∀ w', Keep [] W0 w' → w'.cell? ⟨B, 4, none⟩ = some (.string ⟨#[114]⟩) := fun _ k => k.known (b1.cell 4) (by simp)
  have r5 : ∀ w', Keep [] W0 w' → w'.cell? ⟨B, 5, none⟩ = some (.string ⟨#[]⟩) := fun _ k => k.known (b1.cell 5) (by simp)
  have r6 : ∀ w', Keep [] W0 w' → w'.cell? ⟨B, 6, none⟩ = some (.string ⟨#[]⟩) := fun _ k => k.known (b1.cell 6) (by simp)
  have r7 : ∀ w', Keep [] W0 w' → w'.cell? ⟨B, 7, none⟩ = some (.int .i64 5) := fun _ k => k.known (b1.cell 7) (by simp)
  have r8 : ∀ w', Keep [] W0 w' → w'.cell? ⟨B, 8, none⟩ = some (.int .i64 9) := fun _ k => k.known (b1.cell 8) (by simp)
  have r9 : ∀ w', Keep [] W0 w' → w'.cell? ⟨B, 9, none⟩ = some (.string ⟨#[]⟩) := fun _ k => k.known (b1.cell 9) (by simp)
  have r10 : ∀ w', Keep [] W0 w' → w'.cell? ⟨B, 10, none⟩ = some (.int .i64 0) := fun _ k => k.known (b1.cell 10) (by simp)
  have kup : ∀ w', Keep [] W0 w' → Keep [] w w' := fun _ k => kp0.tr k
  clear b1 kp0
  have hwx : IntKind.i64.wrap ((1 : Int) - 1) = ((0 : Nat) : Int) := by decide
  have hwy : IntKind.i64.wrap 0 = ((0 : Nat) : Int) := by decide
  have u0 : ∀ W w' : World, Keep [] (W.alloc (.cells useCells 227)) w' → w'.cell? ⟨W.heap.size, 0, none⟩ = some (.string ⟨#[98, 111, 111, 107]⟩) := fun W _ k => k.known ((Blk.new W useCells 227).cell 0) (by simp)
  have u1 : ∀ W w' : World, Keep [] (W.alloc (.cells useCells 227)) w' → w'.cell? ⟨W.heap.size, 1, none⟩ = some (.bool true) := fun W _ k => k.known ((Blk.new W useCells 227).cell 1) (by simp)
  have u2 : ∀ W w' : World, Keep [] (W.alloc (.cells useCells 227)) w' → w'.cell? ⟨W.heap.size, 2, none⟩ = some (.bool false) := fun W _ k => k.known ((Blk.new W useCells 227).cell 2) (by simp)
  have u3 : ∀ W w' : World, Keep [] (W.alloc (.cells useCells 227)) w' → w'.cell? ⟨W.heap.size, 3, none⟩ = some (.bool false) := fun W _ k => k.known ((Blk.new W useCells 227).cell 3) (by simp)
  have u4 : ∀ W w' : World, Keep [] (W.alloc (.cells useCells 227)) w' → w'.cell? ⟨W.heap.size, 4, none⟩ = some (.bool true) := fun W _ k => k.known ((Blk.new W useCells 227).cell 4) (by simp)
  have u5 : ∀ W w' : World, Keep [] (W.alloc (.cells useCells 227)) w' → w'.cell? ⟨W.heap.size, 5, none⟩ = some (.bool false) := fun W _ k => k.known ((Blk.new W useCells 227).cell 5) (by simp)
  have v0 : ∀ (W : World) (w' : World), Keep [] ((W.alloc (.cells #[.string ⟨#[]⟩, .bool false, .bool false, .bool false, .bool false, .bool false] 227)).alloc (.cells useCells 227)) w' → w'.cell? ⟨W.heap.size + 1, 0, none⟩ = some (.string ⟨#[98, 111, 111, 107]⟩) := fun W _ k => k.known (by rw [← World.size_alloc W (.cells #[.string ⟨#[]⟩, .bool false, .bool false, .bool false, .bool false, .bool false] 227)]; exact (Blk.new (W.alloc (.cells #[.string ⟨#[]⟩, .bool false, .bool false, .bool false, .bool false, .bool false] 227)) useCells 227).cell 0) (by simp)
  have v1 : ∀ (W : World) (w' : World), Keep [] ((W.alloc (.cells #[.string ⟨#[]⟩, .bool false, .bool false, .bool false, .bool false, .bool false] 227)).alloc (.cells useCells 227)) w' → w'.cell? ⟨W.heap.size + 1, 1, none⟩ = some (.bool true) := fun W _ k => k.known (by rw [← World.size_alloc W (.cells #[.string ⟨#[]⟩, .bool false, .bool false, .bool false, .bool false, .bool false] 227)]; exact (Blk.new (W.alloc (.cells #[.string ⟨#[]⟩, .bool false, .bool false, .bool false, .bool false, .bool false] 227)) useCells 227).cell 1) (by simp)
  have v2 : ∀ (W : World) (w' : World), Keep [] ((W.alloc (.cells #[.string ⟨#[]⟩, .bool false, .bool false, .bool false, .bool false, .bool false] 227)).alloc (.cells useCells 227)) w' → w'.cell? ⟨W.heap.size + 1, 2, none⟩ = some (.bool false) := fun W _ k => k.known (by rw [← World.size_alloc W (.cells #[.string ⟨#[]⟩, .bool false, .bool false, .bool false, .bool false, .bool false] 227)]; exact (Blk.new (W.alloc (.cells #[.string ⟨#[]⟩, .bool false, .bool false, .bool false, .bool false, .bool false] 227)) useCells 227).cell 2) (by simp)
  have v3 : ∀ (W : World) (w' : World), Keep [] ((W.alloc (.cells #[.string ⟨#[]⟩, .bool false, .bool false, .bool false, .bool false, .bool false] 227)).alloc (.cells useCells 227)) w' → w'.cell? ⟨W.heap.size + 1, 3, none⟩ = some (.bool false) := fun W _ k => k.known (by rw [← World.size_alloc W (.cells #[.string ⟨#[]⟩, .bool false, .bool false, .bool false, .bool false, .bool false] 227)]; exact (Blk.new (W.alloc (.cells #[.string ⟨#[]⟩, .bool false, .bool false, .bool false, .bool false, .bool false] 227)) useCells 227).cell 3) (by simp)
  have v4 : ∀ (W : World) (w' : World), Keep [] ((W.alloc (.cells #[.string ⟨#[]⟩, .bool false, .bool false, .bool false, .bool false, .bool false] 227)).alloc (.cells useCells 227)) w' → w'.cell? ⟨W.heap.size + 1, 4, none⟩ = some (.bool true) := fun W _ k => k.known (by rw [← World.size_alloc W (.cells #[.string ⟨#[]⟩, .bool false, .bool false, .bool false, .bool false, .bool false] 227)]; exact (Blk.new (W.alloc (.cells #[.string ⟨#[]⟩, .bool false, .bool false, .bool false, .bool false, .bool false] 227)) useCells 227).cell 4) (by simp)
  have v5 : ∀ (W : World) (w' : World), Keep [] ((W.alloc (.cells #[.string ⟨#[]⟩, .bool false, .bool false, .bool false, .bool false, .bool false] 227)).alloc (.cells useCells 227)) w' → w'.cell? ⟨W.heap.size + 1, 5, none⟩ = some (.bool false) := fun W _ k => k.known (by rw [← World.size_alloc W (.cells #[.string ⟨#[]⟩, .bool false, .bool false, .bool false, .bool false, .bool false] 227)]; exact (Blk.new (W.alloc (.cells #[.string ⟨#[]⟩, .bool false, .bool false, .bool false, .bool false, .bool false] 227)) useCells 227).cell 5) (by simp)
  go_cut [3] from 24 to 29 (fun s3 wx => ∃ b, s3 = .pointer (some ⟨b, 0, none⟩) ∧ Blk wx b #[.string ⟨#[98, 111, 111, 107]⟩, .bool true, .bool false, .bool false, .bool true, .bool false] 227 ∧ Keep [] W0 wx)
  case first =>
    go_region_with (go_at_call 161; refine (uses_any _).mono ?_; rintro e w' ⟨rfl, rfl⟩)
    all_goals go_wp2_with fail
    all_goals go_meet
    all_goals refine ⟨_, rfl, ?_, (by repeat (first | with_reducible assumption | with_reducible apply Keep.drew | with_reducible apply Keep.drewN | with_reducible apply Keep.alloc | with_reducible exact Keep.refl _ _))⟩
    all_goals first | exact (Blk.new W0 _ _).alloc _ | (rw [← World.size_alloc W0 (.cells useCells 227)]; exact Blk.new _ _ _)
  case rest =>
    obtain ⟨b, rfl, hb, kp⟩ := hcut
    have t0 : ∀ w', Keep [] wc w' → w'.cell? ⟨b, 0, none⟩ = some (.string ⟨#[98, 111, 111, 107]⟩) := fun _ k => k.known (hb.cell 0) (by simp)
    have t1 : ∀ w', Keep [] wc w' → w'.cell? ⟨b, 1, none⟩ = some (.bool true) := fun _ k => k.known (hb.cell 1) (by simp)
    have t2 : ∀ w', Keep [] wc w' → w'.cell? ⟨b, 2, none⟩ = some (.bool false) := fun _ k => k.known (hb.cell 2) (by simp)
    have t3 : ∀ w', Keep [] wc w' → w'.cell? ⟨b, 3, none⟩ = some (.bool false) := fun _ k => k.known (hb.cell 3) (by simp)
    have t4 : ∀ w', Keep [] wc w' → w'.cell? ⟨b, 4, none⟩ = some (.bool true) := fun _ k => k.known (hb.cell 4) (by simp)
    have t5 : ∀ w', Keep [] wc w' → w'.cell? ⟨b, 5, none⟩ = some (.bool false) := fun _ k => k.known (hb.cell 5) (by simp)
    clear hb u0 u1 u2 u3 u4 u5 v0 v1 v2 v3 v4 v5
    go_wp2_with fail
    obtain ⟨wd, hwd⟩ : ∃ x, x = wc := ⟨_, rfl⟩
    subst hwd
    go_cut [] from 56 to 61 (fun wx => Blk wx wd.heap.size #[.string ⟨#[115]⟩, .int .i64 1, .int .i64 0, .int .i64 1, .string ⟨#[114]⟩, .string ⟨#[]⟩, .string ⟨#[]⟩, .int .i64 5, .int .i64 9, .string ⟨#[]⟩, .int .i64 0] 78 ∧ Keep [] wd wx)
    case first =>
      go_region
      all_goals go_wp2_with fail
      all_goals go_meet
      all_goals exact ⟨Blk.new _ _ _, (by repeat (first | with_reducible assumption | with_reducible apply Keep.drew | with_reducible apply Keep.drewN | with_reducible apply Keep.alloc | with_reducible exact Keep.refl _ _))⟩
    case rest =>
      obtain ⟨hb, kw⟩ := hcut
      generalize wd.heap.size = X at *
      have x0 : ∀ w', Keep [] wc w' → w'.cell? ⟨X, 0, none⟩ = some (.string ⟨#[115]⟩) := fun _ k => k.known (hb.cell 0) (by simp)
      have x1 : ∀ w', Keep [] wc w' → w'.cell? ⟨X, 1, none⟩ = some (.int .i64 1) := fun _ k => k.known (hb.cell 1) (by simp)
      have x2 : ∀ w', Keep [] wc w' → w'.cell? ⟨X, 2, none⟩ = some (.int .i64 0) := fun _ k => k.known (hb.cell 2) (by simp)
      have x3 : ∀ w', Keep [] wc w' → w'.cell? ⟨X, 3, none⟩ = some (.int .i64 1) := fun _ k => k.known (hb.cell 3) (by simp)
      have x4 : ∀ w', Keep [] wc w' → w'.cell? ⟨X, 4, none⟩ = some (.string ⟨#[114]⟩) := fun _ k => k.known (hb.cell 4) (by simp)
      have x5 : ∀ w', Keep [] wc w' → w'.cell? ⟨X, 5, none⟩ = some (.string ⟨#[]⟩) := fun _ k => k.known (hb.cell 5) (by simp)
      have x6 : ∀ w', Keep [] wc w' → w'.cell? ⟨X, 6, none⟩ = some (.string ⟨#[]⟩) := fun _ k => k.known (hb.cell 6) (by simp)
      have x7 : ∀ w', Keep [] wc w' → w'.cell? ⟨X, 7, none⟩ = some (.int .i64 5) := fun _ k => k.known (hb.cell 7) (by simp)
      have x8 : ∀ w', Keep [] wc w' → w'.cell? ⟨X, 8, none⟩ = some (.int .i64 9) := fun _ k => k.known (hb.cell 8) (by simp)
      have x9 : ∀ w', Keep [] wc w' → w'.cell? ⟨X, 9, none⟩ = some (.string ⟨#[]⟩) := fun _ k => k.known (hb.cell 9) (by simp)
      have x10 : ∀ w', Keep [] wc w' → w'.cell? ⟨X, 10, none⟩ = some (.int .i64 0) := fun _ k => k.known (hb.cell 10) (by simp)
      have kr : ∀ w', Keep [] wc w' → Keep [] W0 w' := fun _ k => kp.tr (kw.tr k)
      have kc : ∀ w', Keep [] wc w' → Keep [] wd w' := fun _ k => kw.tr k
      replace r0 := fun w' (k : Keep [] wc w') => r0 w' (kr w' k)
      replace r1 := fun w' (k : Keep [] wc w') => r1 w' (kr w' k)
      replace r2 := fun w' (k : Keep [] wc w') => r2 w' (kr w' k)
      replace r3 := fun w' (k : Keep [] wc w') => r3 w' (kr w' k)
      replace r4 := fun w' (k : Keep [] wc w') => r4 w' (kr w' k)
      replace r5 := fun w' (k : Keep [] wc w') => r5 w' (kr w' k)
      replace r6 := fun w' (k : Keep [] wc w') => r6 w' (kr w' k)
      replace r7 := fun w' (k : Keep [] wc w') => r7 w' (kr w' k)
      replace r8 := fun w' (k : Keep [] wc w') => r8 w' (kr w' k)
      replace r9 := fun w' (k : Keep [] wc w') => r9 w' (kr w' k)
      replace r10 := fun w' (k : Keep [] wc w') => r10 w' (kr w' k)
      replace t0 := fun w' (k : Keep [] wc w') => t0 w' (kc w' k)
      replace t1 := fun w' (k : Keep [] wc w') => t1 w' (kc w' k)
      replace t2 := fun w' (k : Keep [] wc w') => t2 w' (kc w' k)
      replace t3 := fun w' (k : Keep [] wc w') => t3 w' (kc w' k)
      replace t4 := fun w' (k : Keep [] wc w') => t4 w' (kc w' k)
      replace t5 := fun w' (k : Keep [] wc w') => t5 w' (kc w' k)
      have kf : ∀ w', Keep [] wc w' → Keep [] w w' := fun _ k => kup _ (kp.tr (kw.tr k))
      clear hb kr kc kw kp kup
      go_wp2_with (first | (go_at_call 73; refine (key_any _ _ (by decide)).mono ?_; rintro e w' ⟨rfl, rfl⟩) | (go_at_call 31; refine (out_any _ _ _ _).mono ?_; rintro e w' ⟨rfl, rfl⟩))
      go_ret
      exact ⟨rfl, kf _ (by repeat (first | with_reducible assumption | with_reducible apply Keep.drew | with_reducible apply Keep.drewN | with_reducible apply Keep.alloc | with_reducible exact Keep.refl _ _))⟩
end Go.Proofs.YtonoknliloilfaaGreatDoor

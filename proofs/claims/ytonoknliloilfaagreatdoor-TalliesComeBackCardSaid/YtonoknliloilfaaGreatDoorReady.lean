/- 'ready' answers true, in whatever memory, and what was there stays. -/
import Derived.Test.YtonoknliloilfaaGreatDoorRdyU
import Derived.Test.YtonoknliloilfaaGreatDoorRdyI
import Derived.Test.YtonoknliloilfaaGreatDoorRdyC
import Derived.Test.YtonoknliloilfaaGreatDoorRdyA
namespace Go.Proofs.YtonoknliloilfaaGreatDoor
open Go.RowKit

set_option maxHeartbeats 8000000 in
set_option maxRecDepth 100000 in
theorem ready_any (w : World) : Calls Tryz.prog 9 #[] w fun e w' => e = .returned (.bool true) ∧ Keep [] w w' := by
  go_enter Tryz.func9, Tryz.ntmps9
  go_wp2_with fail
  have bK := Blk.new w #[.int .i64 0, .int .i64 100, .int .i64 1000, .int .i64 600] 68
  have kw : Keep [] w (w.alloc (.cells #[.int .i64 0, .int .i64 100, .int .i64 1000, .int .i64 600] 68)) := (Keep.refl _ _).alloc _
  generalize w.alloc (.cells #[.int .i64 0, .int .i64 100, .int .i64 1000, .int .i64 600] 68) = W1 at *
  have hR : Row encKnt 2 W1 w.heap.size 0 [kn1, kn2] := fun i j hi hj => by
    rw [bK.cell]
    have hi' : i < 2 := hi
    match i, hi', j, hj with
    | 0, _, 0, _ => rfl
    | 0, _, 1, _ => rfl
    | 1, _, 0, _ => rfl
    | 1, _, 1, _ => rfl
  refine (timeOn_rdy w.heap.size 2 W1 hR bK.lt).mono ?_
  rintro e W2 ⟨rfl, k2⟩
  have kw2 := kw.tr k2
  clear hR bK kw k2
  go_wp2_with fail
  have bI := Blk.new W2 #[.int .i64 1, .int .i64 1, .int .i64 1] 3
  have kw3 : Keep [] w (W2.alloc (.cells #[.int .i64 1, .int .i64 1, .int .i64 1] 3)) := kw2.alloc _
  generalize W2.alloc (.cells #[.int .i64 1, .int .i64 1, .int .i64 1] 3) = W3 at *
  refine (fareDivide_rdy W2.heap.size 3 W3 (Ints.ofBlk bI _ rfl) bI.lt).mono ?_
  rintro e W4 ⟨v, rfl, ho, k4⟩
  have kw4 := kw3.tr k4
  have HO := Lib.hid ho
  clear bI kw3 k4 kw2 ho
  go_wp2_with fail
  have bE := Blk.new W4 #[.string ⟨#[115]⟩, .int .i64 1, .int .i64 0, .int .i64 1, .string ⟨#[114]⟩, .string ⟨#[]⟩, .string ⟨#[]⟩, .int .i64 5, .int .i64 9, .string ⟨#[]⟩, .int .i64 0] 78
  have kw5 : Keep [] w (W4.alloc (.cells #[.string ⟨#[115]⟩, .int .i64 1, .int .i64 0, .int .i64 1, .string ⟨#[114]⟩, .string ⟨#[]⟩, .string ⟨#[]⟩, .int .i64 5, .int .i64 9, .string ⟨#[]⟩, .int .i64 0] 78)) := kw4.alloc _
  have k45 : Keep [] W4 (W4.alloc (.cells #[.string ⟨#[115]⟩, .int .i64 1, .int .i64 0, .int .i64 1, .string ⟨#[114]⟩, .string ⟨#[]⟩, .string ⟨#[]⟩, .int .i64 5, .int .i64 9, .string ⟨#[]⟩, .int .i64 0] 78)) := (Keep.refl _ _).alloc _
  generalize W4.alloc (.cells #[.string ⟨#[115]⟩, .int .i64 1, .int .i64 0, .int .i64 1, .string ⟨#[114]⟩, .string ⟨#[]⟩, .string ⟨#[]⟩, .int .i64 5, .int .i64 9, .string ⟨#[]⟩, .int .i64 0] 78) = W5 at *
  refine (rides_rdy W4.heap.size 1 W5 (fun i v hv => by rw [bE.cell]; exact hv)).mono ?_
  rintro e W6 ⟨⟨v2, rfl, ho2⟩, k6⟩
  have HO6 := Lib.hid (own_keep (own_keep HO.out k45 (by simp)) k6 (by simp))
  have kw6 := kw5.tr k6
  obtain ⟨g2, c2, rfl, _, _, _, _, _⟩ := own_cells ho2 (by omega)
  clear bE kw5 kw4 k45 k6 ho2 HO
  go_wp2_with (go_at_call 27; refine (cellOf_rdy _).mono ?_; rintro e w' ⟨rfl, k7⟩)
  have HO7 := Lib.hid (own_keep HO6.out k7 (by simp))
  have kw7 := kw6.tr k7
  obtain ⟨g, c1, rfl, _, hgl, _, gc, _⟩ := own_cells HO7.out (by omega)
  clear HO6 kw6 k7
  have bC := (Blk.new w' #[.int .i64 (-1), .int .i64 2] 35).alloc (.cells #[.int .i64 4, .int .i64 3, .int .i64 3] 3)
  have bL := Blk.new (w'.alloc (.cells #[.int .i64 (-1), .int .i64 2] 35)) #[.int .i64 4, .int .i64 3, .int .i64 3] 3
  simp only [World.size_alloc] at bL
  have k8 : Keep [] w' ((w'.alloc (.cells #[.int .i64 (-1), .int .i64 2] 35)).alloc (.cells #[.int .i64 4, .int .i64 3, .int .i64 3] 3)) := ((Keep.refl _ _).alloc _).alloc _
  generalize (w'.alloc (.cells #[.int .i64 (-1), .int .i64 2] 35)).alloc (.cells #[.int .i64 4, .int .i64 3, .int .i64 3] 3) = W8 at *
  have g0 := k8.known (gc 0 (by omega)) (by simp)
  have g1 := k8.known (gc 1 (by omega)) (by simp)
  have g2' := k8.known (gc 2 (by omega)) (by simp)
  refine (Tryz.slices_Equal_int g 0 3 c1 (w'.heap.size + 1) 0 3 3 [4, 3, 3] [4, 3, 3] W8 (by simp) (by simp) (by omega) (by omega) (fun j hj => ?_) (fun j hj => ?_)).mono ?_
  · have hj' : j < 3 := hj
    match j, hj' with
    | 0, _ => exact g0
    | 1, _ => exact g1
    | 2, _ => exact g2'
  · have hj' : j < 3 := hj
    rw [show 0 + j = j by omega, bL.cell]
    match j, hj' with
    | 0, _ => rfl
    | 1, _ => rfl
    | 2, _ => rfl
  rintro e W9 ⟨rfl, q, rfl⟩
  have kq : Keep [] w (W8.drewN q) := (kw7.tr k8).drewN q
  have x0 : ∀ w'', Keep [] (W8.drewN q) w'' → w''.cell? ⟨w'.heap.size, 0, none⟩ = some (.int .i64 (-1)) := fun _ k => k.known ((bC.drewN q).cell 0) (by simp)
  have x1 : ∀ w'', Keep [] (W8.drewN q) w'' → w''.cell? ⟨w'.heap.size, 1, none⟩ = some (.int .i64 2) := fun _ k => k.known ((bC.drewN q).cell 1) (by simp)
  have hb3 : ((List.take 3 [(4 : Int), 3, 3]) == List.take 3 [(4 : Int), 3, 3]) = true := by decide
  rw [hb3]
  clear bC bL k8 g0 g1 g2' gc kw7
  generalize W8.drewN q = W9 at *
  go_wp2_with fail
  go_ret
  exact ⟨rfl, kq⟩
end Go.Proofs.YtonoknliloilfaaGreatDoor

/- (*day).step at the one event of 'ready': a ride is booked. -/
import Derived.Test.YtonoknliloilfaaGreatDoorRdyG
namespace Go.Proofs.YtonoknliloilfaaGreatDoor
open Go.RowKit

def stR : Array Value := #[.string ⟨#[114]⟩, .string ⟨#[]⟩, .int .i64 1, .int .i64 5, .int .i64 9, .int .i64 0, .int .i64 0]
set_option maxHeartbeats 4000000 in
set_option maxRecDepth 100000 in
theorem step_rdy (d r : Nat) (i : Int) (there : Value) (w : World) (hd : w.cell? ⟨d, 1, none⟩ = some (.map (some r))) (hdr : d ≠ r) (hr : MapIs Value.string (fun a => Value.pointer (some a)) w r ([] : List (ByteArray × Addr))) :
    Calls Tryz.prog 88 #[.pointer (some ⟨d, 0, none⟩), .int .i64 i, .agg evR, there] w fun e w' => (∃ s v, e = .returned (.tuple #[v, .int .i64 0]) ∧ w.heap.size ≤ s ∧ MapIs Value.string (fun a => Value.pointer (some a)) w' r [(⟨#[114]⟩, (⟨s, 0, none⟩ : Addr))] ∧
      Blk w' s stR 122) ∧ Keep [r] w w' := by
  unfold evR
  have hrw := hr.lt
  have k1 : ∀ w', Keep [r] w w' → w'.cell? ⟨d, 1, none⟩ = some (.map (some r)) := fun _ k => k.known hd (by simpa using hdr)
  have hlk : ∀ w', Keep [] w w' → (Instr.lookup 110 (.map (some r)) (.string ⟨#[114]⟩) false).run Tryz.prog w' = .ok (.pointer none) w' := fun w' k => (hr.keep k (by simp)).lookup kStr Tryz.underlying110 (fun _ => rfl) ⟨#[114]⟩
  have HD := Lib.hid hd
  have HR := Lib.hid hr
  clear hd hr
  go_enter Tryz.func88, Tryz.ntmps88
  go_wp2_with fail
  go_quiet (fail)
  go_wp2_with fail
  have b0 := Blk.new w #[.string ⟨#[115]⟩, .int .i64 1, .int .i64 0, .int .i64 1, .string ⟨#[114]⟩, .string ⟨#[]⟩, .string ⟨#[]⟩, .int .i64 5, .int .i64 9, .string ⟨#[]⟩, .int .i64 0] 78
  have kp0 : Keep [] w ((w.alloc (.cells #[.string ⟨#[115]⟩, .int .i64 1, .int .i64 0, .int .i64 1, .string ⟨#[114]⟩, .string ⟨#[]⟩, .string ⟨#[]⟩, .int .i64 5, .int .i64 9, .string ⟨#[]⟩, .int .i64 0] 78)).drewN nq) := ((Keep.refl _ _).alloc _).drewN _
  replace b0 := b0.drewN nq
  generalize (w.alloc (.cells #[.string ⟨#[115]⟩, .int .i64 1, .int .i64 0, .int .i64 1, .string ⟨#[114]⟩, .string ⟨#[]⟩, .string ⟨#[]⟩, .int .i64 5, .int .i64 9, .string ⟨#[]⟩, .int .i64 0] 78)).drewN nq = W0 at *
  have hsz : w.heap.size < W0.heap.size := b0.lt
  generalize hB : w.heap.size = B at *
  have x4 : ∀ w', Keep [r] W0 w' → w'.cell? ⟨B, 4, none⟩ = some (.string ⟨#[114]⟩) := fun _ k => k.known (b0.cell 4) (by simp; omega)
  have x7 : ∀ w', Keep [r] W0 w' → w'.cell? ⟨B, 7, none⟩ = some (.int .i64 5) := fun _ k => k.known (b0.cell 7) (by simp; omega)
  have x8 : ∀ w', Keep [r] W0 w' → w'.cell? ⟨B, 8, none⟩ = some (.int .i64 9) := fun _ k => k.known (b0.cell 8) (by simp; omega)
  have y1 : ∀ w', Keep [r] W0 w' → w'.cell? ⟨d, 1, none⟩ = some (.map (some r)) := fun _ k => k1 _ ((kp0.mono (by simp)).tr k)
  have hrd := (HR.out.keep kp0 (by simp)).keep (((Keep.refl [] W0).alloc (.cells stR 122)).drew) (by simp)
  have kA : Keep [] W0 (W0.alloc (.cells stR 122)).drew := ((Keep.refl _ _).alloc _).drew
  have bS : Blk (W0.alloc (.cells stR 122)).drew W0.heap.size stR 122 := Blk.new W0 stR 122
  obtain ⟨w3, hrun, hk3, hs3, hm3⟩ := MapIs.update hrd kStr Tryz.underlying110 ⟨#[114]⟩ (⟨W0.heap.size, 0, none⟩ : Addr)
  have bS3 := bS.keep hk3 (by simp; omega)
  have kf : Keep [r] W0 w3 := (kA.mono (by simp)).tr hk3
  have KF := Lib.hid (And.intro hm3 bS3)
  have KP := Lib.hid kp0
  unfold stR at hrun
  clear hrd kA bS hk3 hs3 hm3 bS3 b0 kp0 k1 hlk hrw
  go_region_held3 (fun w' => Keep [r] W0 w') (first | exact (Keep.refl _ _).drew | exact ((Keep.refl _ _).alloc _).drew | exact Keep.alloc (by assumption) _ | assumption) (fail)
  go_wp2_with fail
  go_ret2
  have hB0 : W0.heap.size < w3.heap.size := KF.out.2.lt
  have kup : Keep [r] w w3 := (KP.out.mono (by simp)).tr kf
  exact ⟨⟨W0.heap.size, _, rfl, by omega, KF.out.1.keep ((Keep.refl [] _).alloc _) (by simp), KF.out.2.keep ((Keep.refl [] _).alloc _) (by simp)⟩, kup.alloc _⟩
end Go.Proofs.YtonoknliloilfaaGreatDoor

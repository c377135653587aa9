/- road.TimeOn at the arc of 'ready': two strings that are sorted, drive.Time. -/
import Derived.Test.YtonoknliloilfaaGreatDoorRd4
import Derived.Test.YtonoknliloilfaaGreatDoorKp
import Derived.Test.YtonoknliloilfaaGreatDoorOwn
namespace Go.Proofs.YtonoknliloilfaaGreatDoor
open Go.RowKit

theorem elNode : ElemOf Tryz.prog 97 100 3 32 := ElemOf.mk' Tryz.underlying97 (by omega) (by kernel_rfl)
def sX : ByteArray := ⟨#[120]⟩
def sY : ByteArray := ⟨#[121]⟩

set_option maxHeartbeats 400000 in
theorem isNaNS_any (x : ByteArray) (w : World) : Calls Tryz.prog 158 #[.string x] w fun e w' => e = .returned (.bool false) ∧ w = w' := by
  go_enter Tryz.func158, Tryz.ntmps158
  go_wp2
  go_ret
  exact ⟨rfl, rfl⟩
set_option maxHeartbeats 400000 in
theorem lessS_any (x y : ByteArray) (w : World) : Calls Tryz.prog 112 #[.string x, .string y] w fun e w' => e = .returned (.bool (Op.bytesLess x.toList y.toList)) ∧ w = w' := by
  go_enter Tryz.func112, Tryz.ntmps112
  go_wp2_with (go_at_call 158; refine (isNaNS_any _ _).mono ?_; rintro e w' ⟨rfl, rfl⟩)
  go_ret
  exact ⟨rfl, rfl⟩

set_option maxHeartbeats 2000000 in
theorem insXY (b cap : Nat) (w : World) (h0 : w.cell? ⟨b, 0, none⟩ = some (.string ⟨#[120]⟩)) (h1 : w.cell? ⟨b, 1, none⟩ = some (.string ⟨#[121]⟩)) :
    Calls Tryz.prog 106 #[.slice (some ⟨b, 0, none⟩) 2 cap, .int .i64 0, .int .i64 2] w fun e w' => e = .returned (.tuple #[]) ∧ Keep [] w w' := by
  have k0 : ∀ w', Keep [] w w' → w'.cell? ⟨b, 0, none⟩ = some (.string ⟨#[120]⟩) := fun _ k => k.known h0 (by simp)
  have k1 : ∀ w', Keep [] w w' → w'.cell? ⟨b, 1, none⟩ = some (.string ⟨#[121]⟩) := fun _ k => k.known h1 (by simp)
  have hl : Op.bytesLess (⟨#[121]⟩ : ByteArray).toList (⟨#[120]⟩ : ByteArray).toList = false := by rw [ba_toList, ba_toList]; decide
  have hw : IntKind.i64.wrap (0 : Int) = 0 := by decide
  clear h0 h1
  go_enter Tryz.func106, Tryz.ntmps106
  go_wp2_with fail
  refine wp_loop_rounds 2 ?_
  rw [rounds_succ]
  go_wp2_with fail
  refine wp_loop_rounds 1 ?_
  rw [rounds_succ]
  go_wp2_with fail
  go_region_held3 (fun w' => Keep [] w w') (first | exact (Keep.refl _ _).drew | exact Keep.tr (by assumption) (by assumption) | exact Keep.alloc (by assumption) _ | assumption | exact Keep.drew (Keep.drewN (by assumption) _) | exact Keep.drew (by assumption)) (first | (go_at_call 112; refine (lessS_any _ _ _).mono ?_; rintro e w' ⟨rfl, rfl⟩))
  go_wp2_with fail
  rw [rounds_succ]
  go_wp2_with fail
  go_end0
  exact ⟨rfl, by assumption⟩
set_option maxHeartbeats 2000000 in
theorem pdqXY (b cap : Nat) (l : Value) (w : World) (h0 : w.cell? ⟨b, 0, none⟩ = some (.string ⟨#[120]⟩)) (h1 : w.cell? ⟨b, 1, none⟩ = some (.string ⟨#[121]⟩)) :
    Calls Tryz.prog 70 #[.slice (some ⟨b, 0, none⟩) 2 cap, .int .i64 0, .int .i64 2, l] w fun e w' => e = .returned (.tuple #[]) ∧ Keep [] w w' := by
  have HC := Lib.hid (And.intro h0 h1); clear h0 h1
  go_enter Tryz.func70, Tryz.ntmps70
  go_wp2_with fail
  refine wp_loop_rounds 1 ?_
  rw [rounds_succ]
  go_wp2_with (go_at_call 106; refine (insXY _ _ _ HC.out.1 HC.out.2).mono ?_; rintro e w' ⟨rfl, hk⟩)
  refine bodyPost_ret (results_none rfl _ _ _) rfl ?_
  exact ⟨rfl, hk⟩
set_option maxHeartbeats 2000000 in
theorem sortXY (b cap : Nat) (w : World) (h0 : w.cell? ⟨b, 0, none⟩ = some (.string ⟨#[120]⟩)) (h1 : w.cell? ⟨b, 1, none⟩ = some (.string ⟨#[121]⟩)) :
    Calls Tryz.prog 43 #[.slice (some ⟨b, 0, none⟩) 2 cap] w fun e w' => e = .returned (.tuple #[]) ∧ Keep [] w w' := by
  have HC := Lib.hid (And.intro h0 h1); clear h0 h1
  go_enter Tryz.func43, Tryz.ntmps43
  go_wp2_with (first | (go_at_call 71; refine (Tryz.bits_Len 2 _ (by omega) (by omega)).mono ?_; rintro e w' ⟨rfl, rfl⟩) | (go_at_call 70; refine (pdqXY _ _ _ _ HC.out.1 HC.out.2).mono ?_; rintro e w' ⟨rfl, hk⟩))
  go_end0
  exact ⟨rfl, hk⟩
set_option maxHeartbeats 2000000 in
theorem compactXY (b cap : Nat) (w : World) (h0 : w.cell? ⟨b, 0, none⟩ = some (.string ⟨#[120]⟩)) (h1 : w.cell? ⟨b, 1, none⟩ = some (.string ⟨#[121]⟩)) :
    Calls Tryz.prog 44 #[.slice (some ⟨b, 0, none⟩) 2 cap] w fun e w' => e = .returned (.slice (some ⟨b, 0, none⟩) 2 cap) ∧ Keep [] w w' := by
  have k0 : ∀ w', Keep [] w w' → w'.cell? ⟨b, 0, none⟩ = some (.string ⟨#[120]⟩) := fun _ k => k.known h0 (by simp)
  have k1 : ∀ w', Keep [] w w' → w'.cell? ⟨b, 1, none⟩ = some (.string ⟨#[121]⟩) := fun _ k => k.known h1 (by simp)
  have hl : ((⟨#[121]⟩ : ByteArray).toList == (⟨#[120]⟩ : ByteArray).toList) = false := by rw [ba_toList, ba_toList]; decide
  clear h0 h1
  go_enter Tryz.func44, Tryz.ntmps44
  go_wp2_with fail
  refine wp_loop_rounds 2 ?_
  rw [rounds_succ]
  go_wp2_with fail
  go_quiet (fail)
  go_wp2_with fail
  rw [rounds_succ]
  go_wp2_with fail
  go_ret
  exact ⟨rfl, (by repeat (first | with_reducible assumption | with_reducible apply Keep.drew | with_reducible apply Keep.drewN | with_reducible apply Keep.alloc | with_reducible exact Keep.refl _ _))⟩

def kn1 : Knt := ⟨0, 100⟩
def kn2 : Knt := ⟨1000, 600⟩
set_option maxHeartbeats 2000000 in
theorem time1_any (a t x : Int) (w : World) : Calls Tryz.prog 79 #[.agg #[.int .i64 a, .int .i64 t], .int .i64 x] w fun e w' => e = .returned (.int .i64 (cmpI a x)) ∧ Keep [] w w' := by
  go_enter Tryz.func79, Tryz.ntmps79
  go_wp2_with (go_at_call 58; refine (compareI_any _ _ _).mono ?_; rintro e w' ⟨rfl, rfl⟩)
  go_ret
  exact ⟨rfl, (by repeat (first | with_reducible assumption | with_reducible apply Keep.drew | with_reducible apply Keep.drewN | with_reducible apply Keep.alloc | with_reducible exact Keep.refl _ _))⟩
set_option maxHeartbeats 4000000 in
theorem after_rdy (kb kc : Nat) (W : World) (q0 : W.cell? ⟨kb, 2, none⟩ = some (.int .i64 1000)) (q1 : W.cell? ⟨kb, 3, none⟩ = some (.int .i64 600)) :
   Calls Tryz.prog 80 #[.slice (some ⟨kb, 0, none⟩) 2 kc, .int .i64 0] W fun e w' => e = .returned (.agg #[.int .i64 1000, .int .i64 600]) ∧ W.alloc (.cells #[.int .i64 1000, .int .i64 600] 68) = w' := by
  have hkb : kb < W.heap.size := World.block_lt_of_cell? W ⟨kb, 2, none⟩ q0
  have k0 : ∀ w', Keep [] W w' → w'.cell? ⟨kb, 2, none⟩ = some (.int .i64 1000) := fun _ k => k.known q0 (by simp)
  have k1 : ∀ w', Keep [] W w' → w'.cell? ⟨kb, 3, none⟩ = some (.int .i64 600) := fun _ k => k.known q1 (by simp)
  clear q0 q1
  go_enter Tryz.func80, Tryz.ntmps80
  go_wp2_with fail
  exact bodyPost_ret (v := .agg #[.int .i64 1000, .int .i64 600]) (by simp [results, Tryz.results80, go_sem]) rfl ⟨rfl, rfl⟩

set_option maxHeartbeats 4000000 in
theorem time_rdy (d kb kc : Nat) (w : World) (hd : w.cell? ⟨d, 4, none⟩ = some (.slice (some ⟨kb, 0, none⟩) 2 kc)) (h : Row encKnt 2 w kb 0 [kn1, kn2]) (hb : kb < w.heap.size) :
    Calls Tryz.prog 47 #[.pointer (some ⟨d, 0, none⟩), .int .i64 500] w fun e w' => e = .returned (.int .i64 350) ∧ Keep [] w w' := by
  have k0 : ∀ w', Keep [] w w' → w'.cell? ⟨d, 4, none⟩ = some (.slice (some ⟨kb, 0, none⟩) 2 kc) := fun _ k => k.known hd (by simp)
  have q0 : ∀ w', Keep [] w w' → w'.cell? ⟨kb, 0, none⟩ = some (.int .i64 0) := h.known (i := 0) 0 (by simp) (by omega) rfl
  have q1 : ∀ w', Keep [] w w' → w'.cell? ⟨kb, 1, none⟩ = some (.int .i64 100) := h.known (i := 0) 1 (by simp) (by omega) rfl
  have hbs : ∀ W, Keep [] w W → Calls Tryz.prog 78 #[.slice (some ⟨kb, 0, none⟩) 2 kc, .int .i64 500, .func (.func 79) #[] #[]] W
      fun e w' => e = .returned (.tuple #[.int .i64 1, .bool false]) ∧ Keep [] W w' := fun W kp =>
    (bsKnot_any kb 0 2 kc [kn1, kn2] W rfl (by omega) (h.keep (S := []) kp hb (by simp)) (Nat.lt_of_lt_of_le hb kp.size) 79 #[] (.int .i64 500) (fun i => cmpI (([kn1, kn2] : List Knt).getD i default).a 500) (enters_of Tryz.func79 (by kernel_rfl) rfl) (fun i w' _ _ => time1_any _ _ _ w')
      (fun a b hab hb hc => by
        by_cases e : a = b
        · subst e; exact hc
        · obtain rfl : a = 0 := by omega
          decide)).mono
      fun e w' h => by
        obtain ⟨⟨i, ⟨h1, h2, h3⟩, rfl⟩, hk⟩ := h
        have hi : i = 1 := by
          match i, h1 with
          | 0, _ => exact absurd (h3 0 (by omega) (by omega)) (by decide)
          | 1, _ => rfl
          | 2, _ => exact absurd (h2 1 (by omega)) (by decide)
        subst hi
        exact ⟨rfl, hk⟩
  have haf : ∀ W, Keep [] w W → Calls Tryz.prog 80 #[.slice (some ⟨kb, 0, none⟩) 2 kc, .int .i64 0] W fun e w' => e = .returned (.agg #[.int .i64 1000, .int .i64 600]) ∧ W.alloc (.cells #[.int .i64 1000, .int .i64 600] 68) = w' := fun W kp =>
    after_rdy kb kc W (h.known (i := 1) 0 (by simp) (by omega) rfl W kp) (h.known (i := 1) 1 (by simp) (by omega) rfl W kp)
  clear h hd
  go_enter Tryz.func47, Tryz.ntmps47
  go_wp2_with (go_at_call 78; refine (hbs _ (by repeat (first | with_reducible assumption | with_reducible apply Keep.drew | with_reducible apply Keep.drewN | with_reducible apply Keep.alloc | with_reducible exact Keep.refl _ _))).mono ?_; rintro e w' ⟨rfl, hk⟩)
  go_region_held3 (fun w' => Keep [] w w') (((repeat (first | assumption | exact Keep.refl _ _ | refine Keep.drew ?_ | refine Keep.drewN ?_ _ | refine Keep.alloc ?_ _)); try exact Keep.tr (by assumption) (by assumption))) (first | (go_at_call 80; refine (haf _ (by assumption)).mono ?_; rintro e w' ⟨rfl, rfl⟩))
  all_goals go_wp2_with fail
  all_goals go_ret
  all_goals exact ⟨rfl, by assumption⟩
end Go.Proofs.YtonoknliloilfaaGreatDoor

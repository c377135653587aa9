/- live.Rides at the one event of 'ready': one ride is known. -/
import Derived.Test.YtonoknliloilfaaGreatDoorRdyH
import Derived.Test.YtonoknliloilfaaGreatDoorOwn
namespace Go.Proofs.YtonoknliloilfaaGreatDoor
open Go.RowKit

theorem elState : ElemOf Tryz.prog 74 122 7 72 := ElemOf.mk' Tryz.underlying74 (by omega) (by kernel_rfl)

set_option maxHeartbeats 2000000 in
theorem momentFault_rdy (b cap : Nat) (w : World) (h : EvAt w b) :
    Calls Tryz.prog 49 #[.slice (some ⟨b, 0, none⟩) 1 cap, .int .i64 3] w fun e w' => e = .returned (.int .i64 0) ∧ Keep [] w w' := by
  have hm : momB 3 = true := by decide
  have HE := Lib.hid h; clear h
  go_enter Tryz.func49, Tryz.ntmps49
  go_wp2_with (go_at_call 86; refine (checkEvents_rdy _ _ _ HE.out).mono ?_; rintro e w' ⟨rfl, hk⟩)
  go_wp2_with (go_at_call 46; refine (moment_any _ _).mono ?_; rintro e w' ⟨rfl, rfl⟩)
  go_ret
  exact ⟨rfl, (by repeat (first | with_reducible assumption | with_reducible apply Keep.drew | with_reducible apply Keep.drewN | with_reducible apply Keep.alloc | with_reducible exact Keep.refl _ _))⟩

set_option maxHeartbeats 2000000 in
theorem insState1 (p : Option Addr) (cap : Nat) (f : Value) (w : World) :
    Calls Tryz.prog 131 #[.slice p 1 cap, .int .i64 0, .int .i64 1, f] w fun e w' => e = .returned (.tuple #[]) ∧ w = w' := by
  go_enter Tryz.func131, Tryz.ntmps131
  go_wp2_with fail
  refine wp_loop_rounds 1 ?_
  rw [rounds_succ]
  go_wp2_with fail
  go_end0
  exact ⟨rfl, rfl⟩
set_option maxHeartbeats 2000000 in
theorem pdqState1 (p : Option Addr) (cap : Nat) (f l : Value) (w : World) :
    Calls Tryz.prog 89 #[.slice p 1 cap, .int .i64 0, .int .i64 1, l, f] w fun e w' => e = .returned (.tuple #[]) ∧ w = w' := by
  go_enter Tryz.func89, Tryz.ntmps89
  go_wp2_with fail
  refine wp_loop_rounds 1 ?_
  rw [rounds_succ]
  go_wp2_with (go_at_call 131; refine (insState1 _ _ _ _).mono ?_; rintro e w' ⟨rfl, rfl⟩)
  refine bodyPost_ret (results_none rfl _ _ _) rfl ?_
  exact ⟨rfl, rfl⟩
set_option maxHeartbeats 2000000 in
theorem sortState1 (p : Option Addr) (cap : Nat) (f : Value) (w : World) :
    Calls Tryz.prog 51 #[.slice p 1 cap, f] w fun e w' => e = .returned (.tuple #[]) ∧ w = w' := by
  go_enter Tryz.func51, Tryz.ntmps51
  go_wp2_with (first | (go_at_call 71; refine (Tryz.bits_Len 1 _ (by omega) (by omega)).mono ?_; rintro e w' ⟨rfl, rfl⟩) | (go_at_call 89; refine (pdqState1 _ _ _ _ _).mono ?_; rintro e w' ⟨rfl, rfl⟩))
  go_end0
  exact ⟨rfl, rfl⟩

set_option maxHeartbeats 8000000 in
set_option maxRecDepth 100000 in
theorem rides_rdy (b cap : Nat) (w : World) (h : EvAt w b) :
    Calls Tryz.prog 26 #[.slice (some ⟨b, 0, none⟩) 1 cap, .int .i64 3] w fun e w' => (∃ v, e = .returned (.tuple #[v, .int .i64 0]) ∧ w'.ownsRow w.heap.size 122 7 v 1 stR.toList) ∧ Keep [] w w' := by
  have HE := Lib.hid h; clear h
  go_enter Tryz.func26, Tryz.ntmps26
  go_wp2_with (go_at_call 49; refine (momentFault_rdy _ _ _ HE.out).mono ?_; rintro e w' ⟨rfl, hk⟩)
  refine (follow_rdy _ _ _ (HE.out.keep hk)).mono ?_
  rintro e w1 ⟨⟨d, r, s, rfl, hd, hr, hs⟩, hk1⟩
  go_wp2_with fail
  have ka := hk.tr hk1
  obtain ⟨w2, hrun, hk2, hsz2, hit⟩ := hr.range Tryz.underlying110
  rw [hrun]
  clear hrun
  go_wp2_with fail
  refine wp_loop_rounds 2 ?_
  rw [rounds_succ]
  go_wp2_with fail
  obtain ⟨p, l1, l2, w3, he, hrun3, hk3, hsz3, hit3, hent⟩ := (IterAt.next (P := Tryz.prog) (ty := 0) hit).2 (by simp)
  obtain ⟨rfl, rfl, rfl⟩ : l1 = [] ∧ l2 = [] ∧ p = (⟨#[114]⟩, (⟨s, 0, none⟩ : Addr)) := by
    cases l1 with
    | nil => simp at he; exact ⟨rfl, he.2, he.1.symm⟩
    | cons a l1 => simp at he
  rw [hrun3]
  have HZ := Lib.hid (And.intro hsz2 hsz3)
  have k3 : Keep [] w w3 := (ka.tr hk2).trans hk3 (fun i hi hlt => by have := ka.size; simp only [List.mem_singleton] at hi; omega)
  have hs3 : Blk w3 s stR 122 := (hs.keep hk2 (by simp)).keep hk3 (by have := hs.lt; simp; omega)
  have hit4 := (IterAt.next (P := Tryz.prog) (ty := 0) hit3).1 (by simp)
  clear hrun3 hit he hk3 hsz2 hsz3
  have s0 : ∀ w', Keep [] w3 w' → w'.cell? ⟨s, 0, none⟩ = some (.string ⟨#[114]⟩) := fun _ k => k.known (hs3.cell 0) (by simp)
  have s1 : ∀ w', Keep [] w3 w' → w'.cell? ⟨s, 1, none⟩ = some (.string ⟨#[]⟩) := fun _ k => k.known (hs3.cell 1) (by simp)
  have s2 : ∀ w', Keep [] w3 w' → w'.cell? ⟨s, 2, none⟩ = some (.int .i64 1) := fun _ k => k.known (hs3.cell 2) (by simp)
  have s3 : ∀ w', Keep [] w3 w' → w'.cell? ⟨s, 3, none⟩ = some (.int .i64 5) := fun _ k => k.known (hs3.cell 3) (by simp)
  have s4 : ∀ w', Keep [] w3 w' → w'.cell? ⟨s, 4, none⟩ = some (.int .i64 9) := fun _ k => k.known (hs3.cell 4) (by simp)
  have s5 : ∀ w', Keep [] w3 w' → w'.cell? ⟨s, 5, none⟩ = some (.int .i64 0) := fun _ k => k.known (hs3.cell 5) (by simp)
  have s6 : ∀ w', Keep [] w3 w' → w'.cell? ⟨s, 6, none⟩ = some (.int .i64 0) := fun _ k => k.known (hs3.cell 6) (by simp)
  have HI := Lib.hid (And.intro hit3 k3)
  have hsz : w.heap.size ≤ w3.heap.size := k3.size
  clear hit4 hit3 k3
  go_wp2_with (at_builtin; refine wpList_append1 rfl _ _ rfl elState rfl rfl (World.ownsRow_nil w3 w.heap.size _ _) rfl (by simp [Value.oneCell']) (by unfold maxLen; omega) (by omega) hsz ?_; intro v' w6 ho6 q6)
  have q6' : Keep [] w3 w6 := q6
  have hit6 := (IterAt.next (P := Tryz.prog) (ty := 0) (HI.out.1.keep q6' (by simp) (by simp))).1 (by simp)
  have k6 := Lib.hid (HI.out.2.tr q6')
  have HO := Lib.hid ho6
  clear q6 q6' s0 s1 s2 s3 s4 s5 s6 ho6
  rw [rounds_succ]
  go_wp2_with fail
  obtain ⟨g, cap', rfl, hg, hgl, _, gc, gf⟩ := own_cells HO.out (by omega)
  clear gc gf hit6
  go_wp2_with (go_at_call 51; refine (sortState1 _ _ _ _).mono ?_; rintro e w' ⟨rfl, rfl⟩)
  go_ret2
  exact ⟨⟨_, rfl, by simpa [stR] using HO.out⟩, k6.out⟩
end Go.Proofs.YtonoknliloilfaaGreatDoor

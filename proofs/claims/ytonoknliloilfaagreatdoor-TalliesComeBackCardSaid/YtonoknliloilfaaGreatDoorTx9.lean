/- Contracts: demand.Text and jitref1.TallyLines at rows that the program owns (they may be empty). -/
import Derived.Test.YtonoknliloilfaaGreatDoorTx8
namespace Go.Proofs.YtonoknliloilfaaGreatDoor
open Go.RowKit

set_option maxHeartbeats 1000000 in
theorem text_nil (p : Option Addr) (cap : Nat) (w : World) : Calls Tryz.prog 5 #[.slice p 0 cap] w fun e w' => e = .returned (.tuple #[.string (str (talText [])), .int .i64 0]) ∧ Keep [] w w' := by
  go_enter Tryz.func5, Tryz.ntmps5
  go_wp2_with (go_at_call 12; refine (checkTallies_nil _ _ _).mono ?_; rintro e w' ⟨rfl, rfl⟩)
  obtain ⟨B, hB⟩ : ∃ B, B = w.heap.size := ⟨_, rfl⟩
  have hbu := Bld.new (B := w.heap.size) w (Nat.le_refl _)
  have kw : Keep [] w (w.alloc (.cells #[.pointer none, .slice none 0 0] 47)) := (Keep.refl _ _).alloc _
  generalize w.alloc (.cells #[.pointer none, .slice none 0 0] 47) = W0 at *
  rw [← hB] at hbu ⊢
  have HI : Hid (Bld w.heap.size W0 B (talText []) ∧ Keep [] w W0) := ⟨by rw [← hB]; exact hbu, kw⟩
  have hlL : ((Lib.byteCells (talText [])).length : Int) ≤ 200000 := by decide
  clear hB hbu kw
  refine wp_loop_rounds 1 ?_
  rw [rounds_succ]
  go_wp2_with (first | (go_at_call 15; refine (((Tryz.Builder_Len _ _ _ _ HI.out.1.toIs).mono fun _ _ h => And.intro h.1 h.2.symm)).mono ?_; rintro e w' ⟨rfl, rfl⟩) | (go_at_call 16; refine (Tryz.Builder_String_any _ _ _ _ HI.out.1.toIs HI.out.2.size).mono ?_; rintro e w' ⟨rfl, hbe⟩))
  go_ret2
  exact ⟨rfl, keep_below HI.out.2 hbe⟩
set_option maxHeartbeats 1000000 in
theorem lines_nil (p : Option Addr) (cap : Nat) (w : World) : Calls Tryz.prog 21 #[.slice p 0 cap] w fun e w' => e = .returned (.string (str (talText []))) ∧ Keep [] w w' := by
  go_enter Tryz.func21, Tryz.ntmps21
  go_wp2_with fail
  obtain ⟨B, hB⟩ : ∃ B, B = w.heap.size := ⟨_, rfl⟩
  have hbu := Bld.new (B := w.heap.size) w (Nat.le_refl _)
  have kw : Keep [] w (w.alloc (.cells #[.pointer none, .slice none 0 0] 47)) := (Keep.refl _ _).alloc _
  generalize w.alloc (.cells #[.pointer none, .slice none 0 0] 47) = W0 at *
  have HI : Hid (Bld w.heap.size W0 B (talText []) ∧ Keep [] w W0) := ⟨by rw [hB]; exact hbu, kw⟩
  rw [← hB]
  clear hB hbu kw
  refine wp_loop_rounds 1 ?_
  rw [rounds_succ]
  go_wp2_with (go_at_call 16; refine (Tryz.Builder_String_any _ _ _ _ HI.out.1.toIs HI.out.2.size).mono ?_; rintro e w' ⟨rfl, hbe⟩)
  go_ret
  exact ⟨rfl, keep_below HI.out.2 hbe⟩

theorem checkTal_len {l : List Tal} (h : checkTal l = 0) : l.length ≤ 67200 := by
  unfold checkTal at h
  split at h
  · omega
  · omega
theorem text_own {w : World} {B : Nat} {v : Value} {l : List Tal} (hE : Env w) (h : w.ownsRow B 37 4 v l.length (talCells l)) (hok : checkTal l = 0) (hlen : (talText l).length ≤ 200000) :
    Calls Tryz.prog 5 #[v] w fun e w' => e = .returned (.tuple #[.string (str (talText l)), .int .i64 0]) ∧ Keep [] w w' := by
  by_cases h0 : l = []
  · subst h0
    obtain ⟨p, cap, rfl⟩ := own_nil h
    exact text_nil p cap w
  · obtain ⟨g, cap, rfl, hr, hg, _⟩ := own_row h h0
    exact text_any g 0 l.length cap l w hE rfl (by have := checkTal_len hok; omega) hr hg hok hlen
theorem lines_own {w : World} {B : Nat} {v : Value} {l : List Tal} (hE : Env w) (h : w.ownsRow B 37 4 v l.length (talCells l)) (hok : checkTal l = 0) (hm : l.length ≤ 1000) :
    Calls Tryz.prog 21 #[v] w fun e w' => e = .returned (.string (str (talText l))) ∧ Keep [] w w' := by
  by_cases h0 : l = []
  · subst h0
    obtain ⟨p, cap, rfl⟩ := own_nil h
    exact lines_nil p cap w
  · obtain ⟨g, cap, rfl, hr, hg, _⟩ := own_row h h0
    exact lines_tal g 0 l.length cap l w hE rfl hm hr hg hok
end Go.Proofs.YtonoknliloilfaaGreatDoor

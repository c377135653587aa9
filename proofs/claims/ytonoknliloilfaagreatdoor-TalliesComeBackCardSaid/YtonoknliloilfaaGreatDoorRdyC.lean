/- The small calls of 'ready': Divide(10, [1, 1, 1]) is 4, 3, 3. -/
import Derived.Test.YtonoknliloilfaaGreatDoorRdyB
import Derived.Test.YtonoknliloilfaaGreatDoorStream
namespace Go.Proofs.YtonoknliloilfaaGreatDoor
open Go.RowKit

theorem elInt : ElemOf Tryz.prog 22 3 1 8 := ElemOf.mk' Tryz.underlying22 (by omega) (by kernel_rfl)
theorem elRest : ElemOf Tryz.prog 148 154 2 16 := ElemOf.mk' Tryz.underlying148 (by omega) (by kernel_rfl)

def restCells : Nat → List Value
  | 0 => []
  | k + 1 => restCells k ++ [.int .i64 k, .int .u64 1]

set_option maxRecDepth 100000 in
set_option maxHeartbeats 4000000 in
theorem divide_rdy (b cap : Nat) (w : World) (h : Ints w b [1, 1, 1]) (hb : b < w.heap.size) :
    Calls Tryz.prog 48 #[.int .i64 10, .slice (some ⟨b, 0, none⟩) 3 cap] w fun e w' => ∃ v, e = .returned v ∧ w'.ownsRow w.heap.size 3 1 v 3 [.int .i64 4, .int .i64 3, .int .i64 3] ∧ Keep [] w w' := by
  have HI := Lib.hid h; clear h
  obtain ⟨B, hBB⟩ : ∃ B, B = w.heap.size := ⟨_, rfl⟩
  have HBB := Lib.hid hBB
  have hB0 : B ≤ w.heap.size := by omega
  have hbB : b < B := by omega
  clear hBB
  go_enter Tryz.func48, Tryz.ntmps48
  go_wp2_with fail
  go_loop [5, 21] (fun s i => ∃ k : Nat, k ≤ 3 ∧ i = .int .i64 k ∧ s = .int .i64 k) (fun _ i => 3 - (intOf i).toNat)
  case atStart => exact ⟨0, by omega, rfl, rfl⟩
  case round =>
    obtain ⟨k, hk, rfl, rfl⟩ := hrel
    by_cases hlt : k < 3
    · have hc : w.cell? ⟨b, k, none⟩ = some (.int .i64 1) := by
        rw [HI.out k hlt]; match k, hlt with | 0, _ => rfl | 1, _ => rfl | 2, _ => rfl
      go_wp2_with fail
      refine ⟨?_, ?measure⟩
      case measure => simp [intOf]; omega
      first | exact ⟨k + 1, by omega, by go_num, by go_num⟩ | ((repeat apply Exists.intro); refine ⟨?_, rfl⟩; exact ⟨k + 1, by omega, by go_num, by go_num⟩)
    · obtain rfl : k = 3 := by omega
      go_wp2_with fail
      clear hlt hk
      go_loopw [8, 9, 10, 32] (fun o r l i wr => ∃ k : Nat, k ≤ 3 ∧ i = .int .i64 k ∧ l = .int .i64 (10 - 3 * (k : Int)) ∧ Hid (wr.ownsRow B 3 1 o k (List.replicate k (.int .i64 3))) ∧ Hid (wr.ownsRow B 154 2 r k (restCells k)) ∧ KeepB B [] w wr ∧ B ≤ wr.heap.size) (fun _ _ _ i _ => 3 - (intOf i).toNat)
      case atStart => exact ⟨0, by omega, rfl, rfl, World.ownsRow_nil _ _ _ _, World.ownsRow_nil _ _ _ _, KeepB.refl _ _ _, hB0⟩
      case round =>
        obtain ⟨k, hk, rfl, rfl, ho, hr, kb, hBw⟩ := hrel
        by_cases hlt : k < 3
        · have hc : wr.cell? ⟨b, k, none⟩ = some (.int .i64 1) := by
            have : wr.cell? ⟨b, k, none⟩ = w.cell? ⟨b, k, none⟩ := World.cell?_of_block (kb.block b hbB (by simp))
            rw [this, HI.out k hlt]; match k, hlt with | 0, _ => rfl | 1, _ => rfl | 2, _ => rfl
          go_wp2_with (first | (go_at_call 81; refine (mul64_10 _).mono ?_; rintro e w' ⟨rfl, rfl⟩) | (go_at_call 82; refine (div64_10 _).mono ?_; rintro e w' ⟨rfl, hk1⟩) | (at_builtin; refine wpList_append1 rfl _ _ rfl elInt rfl rfl (own_keep ho.out hk1 (by simp)) rfl (by simp [Value.oneCell']) (by unfold maxLen; omega) (by omega) (Nat.le_trans hBw hk1.size) ?_; intro v1 w1 ho1 q1) | (at_builtin; refine wpList_append1 rfl _ _ rfl elRest rfl rfl (own_keepN (own_keep hr.out hk1 (by simp)) q1 (own_own (own_keep hr.out hk1 (by simp)) (own_keep ho.out hk1 (by simp)) (by decide))) rfl (by simp [Value.oneCell']) (by unfold maxLen; omega) (by omega) (Nat.le_trans (Nat.le_trans hBw hk1.size) q1.size) ?_; intro v2 w2 hr2 q2))
          have hr1 := own_keepN (own_keep hr.out hk1 (by simp)) q1 (own_own (own_keep hr.out hk1 (by simp)) (own_keep ho.out hk1 (by simp)) (by decide))
          have ho2 := own_keepN ho1 q2 (own_own ho1 hr1 (by decide))
          have b1 := own_block ho.out
          have b2 := own_block hr.out
          refine ⟨?_, ?measure⟩
          case measure => simp [intOf]; omega
          first | exact ⟨k + 1, by omega, by go_num, by go_num, by rw [List.replicate_succ']; exact ho2, hr2, ((kb.tr hk1 hB0 (by simp)).tr q1 hB0 (fun i hi hlt => by have := b1 i hi; omega)).tr q2 hB0 (fun i hi hlt => by have := b2 i hi; omega), Nat.le_trans (Nat.le_trans (Nat.le_trans hBw hk1.size) q1.size) q2.size⟩ | ((repeat apply Exists.intro); refine ⟨?_, rfl⟩; exact ⟨k + 1, by omega, by go_num, by go_num, by rw [List.replicate_succ']; exact ho2, hr2, ((kb.tr hk1 hB0 (by simp)).tr q1 hB0 (fun i hi hlt => by have := b1 i hi; omega)).tr q2 hB0 (fun i hi hlt => by have := b2 i hi; omega), Nat.le_trans (Nat.le_trans (Nat.le_trans hBw hk1.size) q1.size) q2.size⟩)
        · obtain rfl : k = 3 := by omega
          obtain ⟨g, cg, rfl, hg, hgl, hgc, gc, gf⟩ := own_cells ho.out (by omega)
          obtain ⟨g2, cg2, rfl, hg2, hgl2, hgc2, gc2, gf2⟩ := own_cells hr.out (by omega)
          have hR : Rests wr g2 := fun i hi => by
            match i, hi with
            | 0, _ => exact ⟨gc2 0 (by omega), gc2 1 (by omega)⟩
            | 1, _ => exact ⟨gc2 2 (by omega), gc2 3 (by omega)⟩
            | 2, _ => exact ⟨gc2 4 (by omega), gc2 5 (by omega)⟩
          have HR := Lib.hid hR
          have c0 := gc 0 (by omega)
          have c1 := gc2 0 (by omega)
          have c2 := gc2 1 (by omega)
          have f0 := gf 0
          have HC := Lib.hid (And.intro c0 (And.intro c1 (And.intro c2 f0)))
          clear hR gc2 gf2 gc gf c0 c1 c2 f0
          go_wp2_with (go_at_call 83; refine (sortStableRests _ _ _ HR.out).mono ?_; rintro e w' ⟨rfl, hk2⟩)
          have c0 : w'.cell? ⟨g, 0, none⟩ = some (.int .i64 3) := hk2.known HC.out.1 (by simp)
          have c1 : w'.cell? ⟨g2, 0, none⟩ = some (.int .i64 0) := hk2.known HC.out.2.1 (by simp)
          have c2 : w'.cell? ⟨g2, 1, none⟩ = some (.int .u64 1) := hk2.known HC.out.2.2.1 (by simp)
          have f0 : w'.frozen? ⟨g, 0, none⟩ = false := by rw [hk2.frozen hgl (by simp)]; exact HC.out.2.2.2
          have hg' : g < w'.heap.size := Nat.lt_of_lt_of_le hgl hk2.size
          have hg2' : g2 < w'.heap.size := Nat.lt_of_lt_of_le hgl2 hk2.size
          refine wp_loop_rounds 2 ?_
          rw [rounds_succ]
          go_wp2_with fail
          rw [rounds_succ]
          go_wp2_with fail
          go_ret
          have ho1 := (own_keep ho.out hk2 (by simp)).stored 0 (.int .i64 4)
          exact ⟨_, rfl, by rw [← HBB.out]; exact ho1.1.alloc _, by
            have kz := ((kb.tr hk2 hB0 (by simp)).tr ((Keep.refl [g] w').setCell (p := ⟨g, 0, none⟩) (.inl (by simp)) (.int .i64 4)) hB0 (fun i hi hlt => by simp at hi; omega)).tr ((Keep.refl [] _).alloc (.cells #[.int .i64 0, .int .u64 1] 154)) hB0 (by simp)
            rw [HBB.out] at kz; exact kz.toKeep⟩

set_option maxHeartbeats 4000000 in
theorem fareDivide_rdy (b cap : Nat) (w : World) (h : Ints w b [1, 1, 1]) (hb : b < w.heap.size) :
    Calls Tryz.prog 25 #[.int .i64 10, .slice (some ⟨b, 0, none⟩) 3 cap] w fun e w' => ∃ v, e = .returned (.tuple #[v, .int .i64 0]) ∧ w'.ownsRow w.heap.size 3 1 v 3 [.int .i64 4, .int .i64 3, .int .i64 3] ∧ Keep [] w w' := by
  have HI := Lib.hid h; clear h
  have h1 : outB 10 0 1000000000 = false := by decide
  have h2 : outB 1 0 1000000000 = false := by decide
  go_enter Tryz.func25, Tryz.ntmps25
  go_wp2_with (go_at_call 31; refine (out_any _ _ _ _).mono ?_; rintro e w' ⟨rfl, rfl⟩)
  go_loop [6, 16] (fun s i => ∃ k : Nat, k ≤ 3 ∧ i = .int .i64 k ∧ s = .int .i64 k) (fun _ i => 3 - (intOf i).toNat)
  case atStart => exact ⟨0, by omega, rfl, rfl⟩
  case round =>
    obtain ⟨k, hk, rfl, rfl⟩ := hrel
    by_cases hlt : k < 3
    · have hc : w.cell? ⟨b, k, none⟩ = some (.int .i64 1) := by
        rw [HI.out k hlt]; match k, hlt with | 0, _ => rfl | 1, _ => rfl | 2, _ => rfl
      go_wp2_with (go_at_call 31; refine (out_any _ _ _ _).mono ?_; rintro e w' ⟨rfl, rfl⟩)
      refine ⟨?_, ?measure⟩
      case measure => simp [intOf]; omega
      first | exact ⟨k + 1, by omega, by go_num, by go_num⟩ | ((repeat apply Exists.intro); refine ⟨?_, rfl⟩; exact ⟨k + 1, by omega, by go_num, by go_num⟩)
    · obtain rfl : k = 3 := by omega
      go_wp2_with (go_at_call 48; refine (divide_rdy _ _ _ HI.out hb).mono ?_; rintro e w' ⟨v, rfl, ho, hk2⟩)
      go_ret2
      exact ⟨v, rfl, ho, hk2⟩
end Go.Proofs.YtonoknliloilfaaGreatDoor

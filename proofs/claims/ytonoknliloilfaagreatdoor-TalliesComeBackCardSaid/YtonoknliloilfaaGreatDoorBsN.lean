/- slices.BinarySearchFunc at Node. Printed by gen_bs.py. -/
import Derived.Test.YtonoknliloilfaaGreatDoorRoad
namespace Go.Proofs.YtonoknliloilfaaGreatDoor
open Go.RowKit

set_option maxHeartbeats 4000000 in
theorem bsNode_any (b off n cap : Nat) (l : List Nd) (w : World) (hn : Hid (l.length = n)) (hm : n ≤ 1000000) (hc : Row encNd 3 w b off l) (hb : b < w.heap.size)
    (g : Nat) (cb : Array Value) (tv : Value) (c : Nat → Int) (eg : ∀ args w, (callFunc g args).run Tryz.prog w = .ok (.enter g args) w)
    (hcmp : ∀ i w', Keep [] w w' → i < n → Calls Tryz.prog g (#[.agg (encNd (l.getD i default)).toArray, tv] ++ cb) w' fun e w'' => e = .returned (.int .i64 (c i)) ∧ Keep [] w' w'')
    (hmono : Hid (∀ a b, a ≤ b → b < n → c b < 0 → c a < 0)) :
    Calls Tryz.prog 118 #[.slice (some ⟨b, off, none⟩) n cap, tv, .func (.func g) #[] cb] w
      fun e w' => (∃ i, Found c n i ∧ e = .returned (.tuple #[.int .i64 i, .bool (decide (i < n) && decide (c i = 0))])) ∧ Keep [] w w' := by
  have HC := Lib.hid hc; clear hc
  have HCMP := Lib.hid hcmp; clear hcmp
  go_enter Tryz.func118, Tryz.ntmps118
  go_wp2_with fail
  go_loopw [9, 10] (fun x y wr => ∃ i j : Nat, i ≤ j ∧ j ≤ n ∧ x = .int .i64 i ∧ y = .int .i64 j ∧ Keep [] w wr ∧ Hid (∀ t, t < i → c t < 0) ∧ Hid (∀ t, j ≤ t → t < n → 0 ≤ c t)) (fun x y wr => (intOf y).toNat - (intOf x).toNat)
  case atStart => exact ⟨0, n, Nat.zero_le _, Nat.le_refl _, rfl, rfl, Keep.refl _ _, fun t ht => by omega, fun t h1 h2 => by omega⟩
  case round =>
    obtain ⟨i, j, hij, hj, rfl, rfl, kp, hlo, hhi⟩ := hrel
    by_cases hlt : i < j
    · have hh3 : (i + j) / 2 < n := by omega
      have row := HC.out.keep kp hb (by simp)
      obtain ⟨t, ht⟩ : ∃ t, l.getD ((i + j) / 2) default = t := ⟨_, rfl⟩
      have c0 : wr.cell? ⟨b, off + ((i + j) / 2) * 3, none⟩ = some (.string t.key) := row.known 0 (by rw [hn.out]; omega) (by omega) (by rw [ht]; rfl) wr (Keep.refl _ _)
      have c1 : wr.cell? ⟨b, off + ((i + j) / 2) * 3 + 1, none⟩ = some (.int .i64 t.x) := row.known 1 (by rw [hn.out]; omega) (by omega) (by rw [ht]; rfl) wr (Keep.refl _ _)
      have c2 : wr.cell? ⟨b, off + ((i + j) / 2) * 3 + 2, none⟩ = some (.int .i64 t.y) := row.known 2 (by rw [hn.out]; omega) (by omega) (by rw [ht]; rfl) wr (Keep.refl _ _)
      have HT := Lib.hid ht; clear ht
      clear row
      have hcall : Calls Tryz.prog g (#[.agg #[.string t.key, .int .i64 t.x, .int .i64 t.y], tv] ++ cb) wr fun e w'' => e = .returned (.int .i64 (c ((i + j) / 2))) ∧ Keep [] wr w'' := by
        have h := HCMP.out ((i + j) / 2) wr kp hh3; rw [HT.out] at h; exact h
      generalize hy : c ((i + j) / 2) = y at hcall
      have HY := Lib.hid hy; clear hy
      by_cases hyx : y < 0
      · go_wp2_with (go_at_fn g; refine hcall.mono ?_; rintro e w' ⟨rfl, hk⟩)
        refine ⟨?_, ?measure⟩
        case measure => simp [intOf]; omega
        first | exact ⟨(i + j) / 2 + 1, j, by omega, by omega, by first | rfl | (congr 1; omega), by first | rfl | (congr 1; omega), kp.tr hk, fun t ht => hmono.out t ((i + j) / 2) (by omega) hh3 (by rw [HY.out]; exact hyx), hhi.out⟩ | ((repeat apply Exists.intro); refine ⟨?_, rfl⟩; exact ⟨(i + j) / 2 + 1, j, by omega, by omega, by first | rfl | (congr 1; omega), by first | rfl | (congr 1; omega), kp.tr hk, fun t ht => hmono.out t ((i + j) / 2) (by omega) hh3 (by rw [HY.out]; exact hyx), hhi.out⟩)
      · go_wp2_with (go_at_fn g; refine hcall.mono ?_; rintro e w' ⟨rfl, hk⟩)
        refine ⟨?_, ?measure⟩
        case measure => simp [intOf]; omega
        first | exact ⟨i, (i + j) / 2, by omega, by omega, by first | rfl | (congr 1; omega), by first | rfl | (congr 1; omega), kp.tr hk, hlo.out, fun t ht htn => Int.not_lt.1 fun h => by have := hmono.out ((i + j) / 2) t ht htn h; rw [HY.out] at this; omega⟩ | ((repeat apply Exists.intro); refine ⟨?_, rfl⟩; exact ⟨i, (i + j) / 2, by omega, by omega, by first | rfl | (congr 1; omega), by first | rfl | (congr 1; omega), kp.tr hk, hlo.out, fun t ht htn => Int.not_lt.1 fun h => by have := hmono.out ((i + j) / 2) t ht htn h; rw [HY.out] at this; omega⟩)
    · obtain rfl : j = i := by omega
      have hfd : Hid (Found c n j) := ⟨hj, hlo.out, hhi.out⟩
      by_cases hjn : j < n
      · have row := HC.out.keep kp hb (by simp)
        obtain ⟨t, ht⟩ : ∃ t, l.getD (j) default = t := ⟨_, rfl⟩
        have c0 : wr.cell? ⟨b, off + j * 3, none⟩ = some (.string t.key) := row.known 0 (by rw [hn.out]; omega) (by omega) (by rw [ht]; rfl) wr (Keep.refl _ _)
        have c1 : wr.cell? ⟨b, off + j * 3 + 1, none⟩ = some (.int .i64 t.x) := row.known 1 (by rw [hn.out]; omega) (by omega) (by rw [ht]; rfl) wr (Keep.refl _ _)
        have c2 : wr.cell? ⟨b, off + j * 3 + 2, none⟩ = some (.int .i64 t.y) := row.known 2 (by rw [hn.out]; omega) (by omega) (by rw [ht]; rfl) wr (Keep.refl _ _)
        have HT := Lib.hid ht; clear ht
        clear row
        have hcall : Calls Tryz.prog g (#[.agg #[.string t.key, .int .i64 t.x, .int .i64 t.y], tv] ++ cb) wr fun e w'' => e = .returned (.int .i64 (c j)) ∧ Keep [] wr w'' := by
          have h := HCMP.out j wr kp hjn; rw [HT.out] at h; exact h
        generalize hy : c j = y at hcall
        have HY := Lib.hid hy; clear hy
        by_cases hyx : y = 0
        · go_wp2_with (go_at_fn g; refine hcall.mono ?_; rintro e w' ⟨rfl, hk⟩)
          go_ret2
          exact ⟨⟨j, hfd.out, by rw [HY.out]; simp [hjn, hyx]⟩, kp.tr hk⟩
        · go_wp2_with (go_at_fn g; refine hcall.mono ?_; rintro e w' ⟨rfl, hk⟩)
          go_ret2
          exact ⟨⟨j, hfd.out, by rw [HY.out]; simp [hjn, hyx]⟩, kp.tr hk⟩
      · go_wp2_with fail
        go_ret2
        exact ⟨⟨j, hfd.out, by simp [hjn]⟩, kp⟩

theorem bsNode_nil (b : Option Addr) (cap : Nat) (w : World) (g : Nat) (cb : Array Value) (tv : Value) :
    Calls Tryz.prog 118 #[.slice b 0 cap, tv, .func (.func g) #[] cb] w fun e w' => e = .returned (.tuple #[.int .i64 0, .bool false]) ∧ w = w' := by
  go_enter Tryz.func118, Tryz.ntmps118
  go_wp2_with fail
  refine wp_loop_rounds 1 ?_
  rw [rounds_succ]
  go_wp2_with fail
  go_ret2
  exact ⟨rfl, rfl⟩
end Go.Proofs.YtonoknliloilfaaGreatDoor

/- Contract: slices.Equal at api.Tally, of equal lists. -/
import Derived.Test.YtonoknliloilfaaGreatDoorTst
import Derived.Test.YtonoknliloilfaaGreatDoorEq
namespace Go.Proofs.YtonoknliloilfaaGreatDoor
open Go.RowKit

theorem eqinTal (x y h m : Int) (w : World) : (Op.equalIn 10000 37 (.agg #[.int .i64 x, .int .i64 y, .int .i64 h, .int .i64 m]) (.agg #[.int .i64 x, .int .i64 y, .int .i64 h, .int .i64 m])).run Tryz.prog w = .ok true w := by
  have u3 := Tryz.underlying3
  have a3 := Tryz.isAgg3
  have z3 := Tryz.sizeOf3
  have u4 := Tryz.underlying35
  have a4 := Tryz.isAgg35
  have z4 := Tryz.sizeOf35
  have hS : Tryz.prog.underlying 37 = some (.struct (Tryz.prog.fieldsOf 37)) := by kernel_rfl
  have hp : Tryz.prog.stoodInHeld 37 = false := by kernel_rfl
  have hS2 : Tryz.prog.underlying 35 = some (.struct (Tryz.prog.fieldsOf 35)) := by kernel_rfl
  have hp2 : Tryz.prog.stoodInHeld 35 = false := by kernel_rfl
  have hc := run_equalIn_agg (P := Tryz.prog) w 9998 35 #[.int .i64 x, .int .i64 y] #[.int .i64 x, .int .i64 y] hS2 hp2
  rw [show (10000 : Nat) = 9999 + 1 from rfl, run_equalIn_agg w 9999 37 _ _ hS hp]
  simp only [Program.fieldsOf, Tryz.underlying37]
  go_simp
theorem neqTal (x y h m : Int) (w : World) : (binOp .neq 37 (.agg #[.int .i64 x, .int .i64 y, .int .i64 h, .int .i64 m]) (.agg #[.int .i64 x, .int .i64 y, .int .i64 h, .int .i64 m])).run Tryz.prog w = .ok (.bool false) w := by
  rw [run_neq_struct, eqinTal]; rfl
set_option maxHeartbeats 1000000 in
theorem equal_nil (p q : Option Addr) (c d : Nat) (w : World) :
    Calls Tryz.prog 7 #[.slice p 0 c, .slice q 0 d] w fun e w' => e = .returned (.bool true) ∧ w = w' := by
  go_enter Tryz.func7, Tryz.ntmps7
  go_wp2_with fail
  refine wp_loop_rounds 1 ?_
  rw [rounds_succ]
  go_wp2_with fail
  go_ret
  exact ⟨rfl, rfl⟩
set_option maxHeartbeats 4000000 in
theorem equal_same (b1 b2 n c d : Nat) (l : List Tal) (w : World) (hn : Hid (l.length = n)) (hm : n ≤ 1000000) (h1 : Row encTal 4 w b1 0 l) (h2 : Row encTal 4 w b2 0 l) (hb1 : b1 < w.heap.size) (hb2 : b2 < w.heap.size) :
    Calls Tryz.prog 7 #[.slice (some ⟨b1, 0, none⟩) n c, .slice (some ⟨b2, 0, none⟩) n d] w fun e w' => e = .returned (.bool true) ∧ Keep [] w w' := by
  have H1 := Lib.hid h1
  have H2 := Lib.hid h2
  clear h1 h2
  go_enter Tryz.func7, Tryz.ntmps7
  go_wp2_with fail
  go_loopw [13] (fun i wr => ∃ j : Nat, j ≤ n ∧ i = .int .i64 j ∧ Keep [] w wr) (fun i _ => n - (intOf i).toNat)
  case atStart => exact ⟨0, Nat.zero_le _, rfl, Keep.refl _ _⟩
  case round =>
    obtain ⟨j, hj, rfl, hk⟩ := hrel
    by_cases hlt : j < n
    · obtain ⟨t, ht, c0, c1, c2, c3⟩ := tal_cells (H1.out.keep hk hb1 (by simp)) (k := j) (by rw [hn.out]; exact hlt)
      obtain ⟨t', ht', d0, d1, d2, d3⟩ := tal_cells (H2.out.keep hk hb2 (by simp)) (k := j) (by rw [hn.out]; exact hlt)
      obtain rfl : t = t' := ht.symm.trans ht'
      have hjI : (j : Int) < n := by omega
      have hjb : j < 4294967295 := by omega
      have hne := neqTal t.x t.y t.h t.m
      clear ht ht'
      simp only [Nat.zero_add] at c0 c1 c2 c3 d0 d1 d2 d3
      have kq : ∀ q, Keep [] wr (wr.drewN q) := fun q => (Keep.refl _ _).drewN q
      go_wp2_with fail
      go_quiet (fail)
      go_wp2_with fail
      (refine ⟨?_, by (simp [intOf]; omega)⟩; first | exact ⟨j + 1, by omega, by go_num, hk.drewN _⟩ | exact ⟨rfl, ⟨j + 1, by omega, by go_num, hk.drewN _⟩⟩ | ((repeat apply Exists.intro); refine ⟨?_, rfl⟩; exact ⟨j + 1, by omega, by go_num, hk.drewN _⟩) | (refine ⟨rfl, ?_⟩; (repeat apply Exists.intro); refine ⟨?_, rfl⟩; exact ⟨j + 1, by omega, by go_num, hk.drewN _⟩))
    · obtain rfl : j = n := by omega
      go_wp2_with fail
      go_ret
      exact ⟨rfl, hk⟩
theorem equal_own {w : World} {B B' : Nat} {u v : Value} {l : List Tal} (h1 : w.ownsRow B 37 4 u l.length (talCells l)) (h2 : w.ownsRow B' 37 4 v l.length (talCells l)) (hm : l.length ≤ 1000000) :
    Calls Tryz.prog 7 #[u, v] w fun e w' => e = .returned (.bool true) ∧ Keep [] w w' := by
  by_cases h0 : l = []
  · subst h0
    obtain ⟨p, c, rfl⟩ := own_nil h1
    obtain ⟨q, d, rfl⟩ := own_nil h2
    exact (equal_nil p q c d w).mono fun e w' ⟨h, hw⟩ => ⟨h, by subst hw; exact Keep.refl _ _⟩
  · obtain ⟨g, c, rfl, hr, hg, _⟩ := own_row h1 h0
    obtain ⟨g', d, rfl, hr', hg', _⟩ := own_row h2 h0
    exact equal_same g g' l.length c d l w rfl hm hr hr' hg hg'
end Go.Proofs.YtonoknliloilfaaGreatDoor

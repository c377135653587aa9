/- Contracts of small comparing functions. -/
import Derived.Test.YtonoknliloilfaaGreatDoorBase
import Derived.Test.YtonoknliloilfaaGreatDoorChecked
import Derived.StillTailTactics
namespace Go.Proofs.YtonoknliloilfaaGreatDoor
open Go.RowKit

theorem _root_.Go.Calls.sw {P : Program} {f : FuncId} {args : Array Value} {w : World} {v : Value} (h : Calls P f args w fun e w' => e = .returned v ∧ w = w') : Calls P f args w fun e w' => e = .returned v ∧ w' = w :=
  h.mono fun _ _ ⟨a, b⟩ => ⟨a, b.symm⟩

def cmpI (x y : Int) : Int := if x < y then -1 else if y < x then 1 else 0
def orL : List Int → Int
  | [] => 0
  | x :: l => if x = 0 then orL l else x

theorem cmpI_le (x y : Int) : -1 ≤ cmpI x y ∧ cmpI x y ≤ 1 := by unfold cmpI; split <;> (try split) <;> omega

set_option maxHeartbeats 400000 in
theorem isNaNI_any (x : Int) (w : World) : Calls Tryz.prog 91 #[.int .i64 x] w fun e w' => e = .returned (.bool false) ∧ w = w' := by
  go_enter Tryz.func91, Tryz.ntmps91
  go_wp2
  go_ret
  exact ⟨rfl, rfl⟩

set_option maxHeartbeats 400000 in
theorem compareI_any (x y : Int) (w : World) : Calls Tryz.prog 58 #[.int .i64 x, .int .i64 y] w fun e w' => e = .returned (.int .i64 (cmpI x y)) ∧ w = w' := by
  go_enter Tryz.func58, Tryz.ntmps58
  go_wp2_with (go_at_call 91; refine (isNaNI_any _ _).mono ?_; rintro e w' ⟨rfl, rfl⟩)
  all_goals go_ret
  all_goals exact ⟨ret_int (by unfold cmpI; split <;> (try split) <;> omega), rfl⟩

theorem orL_drop (xs : List Int) (k : Nat) (h : k < xs.length) : orL (xs.drop k) = if xs.getD k 0 = 0 then orL (xs.drop (k + 1)) else xs.getD k 0 := by
  rw [List.drop_eq_getElem_cons h, orL]; simp [List.getD, h]

set_option maxHeartbeats 400000 in
theorem orI_any (b off n cap : Nat) (xs : List Int) (w : World) (hn : Hid (xs.length = n)) (hm : n ≤ 9223372036854775807)
    (hc : ∀ i, i < n → w.cell? ⟨b, off + i, none⟩ = some (.int .i64 (xs.getD i 0))) :
    Calls Tryz.prog 56 #[.slice (some ⟨b, off, none⟩) n cap] w fun e w' => e = .returned (.int .i64 (orL xs)) ∧ w = w' := by
  have HC := Lib.hid hc; clear hc
  go_enter Tryz.func56, Tryz.ntmps56
  go_wp2
  go_loop [8] (fun i => ∃ k : Nat, k ≤ n ∧ i = .int .i64 k ∧ Hid (orL (xs.drop k) = orL xs)) (fun i => n - (intOf i).toNat)
  case atStart => exact ⟨0, Nat.zero_le _, rfl, rfl⟩
  case round =>
    obtain ⟨k, hk, rfl, ho⟩ := hrel
    by_cases hlt : k < n
    · have hcell := HC.out k hlt
      have hd := Lib.hid (orL_drop xs k (by rw [hn.out]; exact hlt))
      by_cases hx : xs.getD k 0 = 0
      · rw [hx] at hcell
        have HX := Lib.hid hx; clear hx
        go_wp2
        go_round
        case rel => exact ⟨k + 1, by omega, by go_num, by have := hd.out; rw [if_pos HX.out] at this; exact this.symm.trans ho.out⟩
        case measure => simp [intOf]; omega
      · have hb : (xs.getD k 0 == 0) = false := by simpa using hx
        have HX := Lib.hid hx; clear hx
        generalize xs.getD k 0 = x at *
        go_wp2
        go_ret
        exact ⟨ret_int (by rw [← ho.out, hd.out, if_neg HX.out]), rfl⟩
    · go_wp2
      go_ret
      exact ⟨ret_int (by rw [← ho.out, List.drop_eq_nil_of_le (by rw [hn.out]; omega)]; rfl), rfl⟩

theorem orI2 (b cap : Nat) (x y : Int) (w : World) (h0 : w.cell? ⟨b, 0, none⟩ = some (.int .i64 x)) (h1 : w.cell? ⟨b, 1, none⟩ = some (.int .i64 y)) :
    Calls Tryz.prog 56 #[.slice (some ⟨b, 0, none⟩) 2 cap] w fun e w' => e = .returned (.int .i64 (orL [x, y])) ∧ w = w' :=
  orI_any b 0 2 cap [x, y] w rfl (by omega) fun i hi => by
    match i, hi with
    | 0, _ => exact h0
    | 1, _ => exact h1
theorem orI3 (b cap : Nat) (x y z : Int) (w : World) (h0 : w.cell? ⟨b, 0, none⟩ = some (.int .i64 x)) (h1 : w.cell? ⟨b, 1, none⟩ = some (.int .i64 y)) (h2 : w.cell? ⟨b, 2, none⟩ = some (.int .i64 z)) :
    Calls Tryz.prog 56 #[.slice (some ⟨b, 0, none⟩) 3 cap] w fun e w' => e = .returned (.int .i64 (orL [x, y, z])) ∧ w = w' :=
  orI_any b 0 3 cap [x, y, z] w rfl (by omega) fun i hi => by
    match i, hi with
    | 0, _ => exact h0
    | 1, _ => exact h1
    | 2, _ => exact h2

theorem orI2d (W : World) (b cap : Nat) (x y : Int) (T : TypeId) (hb : b = W.heap.size) :
    Calls Tryz.prog 56 #[.slice (some ⟨b, 0, none⟩) 2 cap] (W.alloc (.cells #[.int .i64 x, .int .i64 y] T)).drew fun e w' => e = .returned (.int .i64 (orL [x, y])) ∧ (W.alloc (.cells #[.int .i64 x, .int .i64 y] T)).drew = w' := by
  subst hb
  exact orI2 _ _ _ _ _ ((Blk.new W #[.int .i64 x, .int .i64 y] T).cell 0) ((Blk.new W #[.int .i64 x, .int .i64 y] T).cell 1)
theorem orI2n (W : World) (b cap : Nat) (x y : Int) (T : TypeId) (hb : b = W.heap.size) :
    Calls Tryz.prog 56 #[.slice (some ⟨b, 0, none⟩) 2 cap] (W.alloc (.cells #[.int .i64 x, .int .i64 y] T)) fun e w' => e = .returned (.int .i64 (orL [x, y])) ∧ (W.alloc (.cells #[.int .i64 x, .int .i64 y] T)) = w' := by
  subst hb
  exact orI2 _ _ _ _ _ ((Blk.new W #[.int .i64 x, .int .i64 y] T).cell 0) ((Blk.new W #[.int .i64 x, .int .i64 y] T).cell 1)
theorem orI3d (W : World) (b cap : Nat) (x y z : Int) (T : TypeId) (hb : b = W.heap.size) :
    Calls Tryz.prog 56 #[.slice (some ⟨b, 0, none⟩) 3 cap] (W.alloc (.cells #[.int .i64 x, .int .i64 y, .int .i64 z] T)).drew fun e w' => e = .returned (.int .i64 (orL [x, y, z])) ∧ (W.alloc (.cells #[.int .i64 x, .int .i64 y, .int .i64 z] T)).drew = w' := by
  subst hb
  exact orI3 _ _ _ _ _ _ ((Blk.new W #[.int .i64 x, .int .i64 y, .int .i64 z] T).cell 0) ((Blk.new W #[.int .i64 x, .int .i64 y, .int .i64 z] T).cell 1) ((Blk.new W #[.int .i64 x, .int .i64 y, .int .i64 z] T).cell 2)

def byCellF (x y x' y' : Int) : Int := orL [cmpI x x', cmpI y y']


set_option maxHeartbeats 1000000 in
theorem byCell_any (x y x' y' : Int) (w : World) : Calls Tryz.prog 57 #[.agg #[.int .i64 x, .int .i64 y], .agg #[.int .i64 x', .int .i64 y']] w
    fun e w' => e = .returned (.int .i64 (byCellF x y x' y')) ∧ Keep [] w w' := by
  go_enter Tryz.func57, Tryz.ntmps57
  go_wp2
  go_region_held3 (fun w' => w'.cell? ⟨w.heap.size, 0, none⟩ = some (.int .i64 x) ∧ w'.cell? ⟨w.heap.size, 1, none⟩ = some (.int .i64 y) ∧ w'.cell? ⟨w.heap.size + 1, 0, none⟩ = some (.int .i64 x') ∧ w'.cell? ⟨w.heap.size + 1, 1, none⟩ = some (.int .i64 y')) (go_simp) (first
    | (go_at_call 58; refine (compareI_any _ _ _).mono ?_; rintro e w' ⟨rfl, rfl⟩)
    | (go_at_call 56; refine (orI2d _ _ _ _ _ _ (by simp)).mono ?_; rintro e w' ⟨rfl, rfl⟩))
  all_goals go_wp2
  all_goals go_ret
  all_goals exact ⟨rfl, by repeat (first | with_reducible apply Keep.drew | with_reducible apply Keep.alloc | with_reducible exact Keep.refl _ _)⟩

def byTallyF (x y h x' y' h' : Int) : Int := orL [byCellF x y x' y', cmpI h h']

set_option maxHeartbeats 1000000 in
theorem byTally_any (x y h m x' y' h' m' : Int) (w : World) : Calls Tryz.prog 32 #[.agg #[.int .i64 x, .int .i64 y, .int .i64 h, .int .i64 m], .agg #[.int .i64 x', .int .i64 y', .int .i64 h', .int .i64 m']] w
    fun e w' => e = .returned (.int .i64 (byTallyF x y h x' y' h')) ∧ Keep [] w w' := by
  go_enter Tryz.func32, Tryz.ntmps32
  go_wp2
  have b1 := (Blk.new w #[.int .i64 x, .int .i64 y, .int .i64 h, .int .i64 m] 37).alloc (.cells #[.int .i64 x', .int .i64 y', .int .i64 h', .int .i64 m'] 37)
  have b2 := (Blk.new (w.alloc (.cells #[.int .i64 x, .int .i64 y, .int .i64 h, .int .i64 m] 37)) #[.int .i64 x', .int .i64 y', .int .i64 h', .int .i64 m'] 37)
  have kk : Keep [] w _ := ((Keep.refl [] w).alloc (.cells #[.int .i64 x, .int .i64 y, .int .i64 h, .int .i64 m] 37)).alloc (.cells #[.int .i64 x', .int .i64 y', .int .i64 h', .int .i64 m'] 37)
  rw [World.size_alloc] at b2
  generalize (w.alloc (.cells #[.int .i64 x, .int .i64 y, .int .i64 h, .int .i64 m] 37)).alloc (.cells #[.int .i64 x', .int .i64 y', .int .i64 h', .int .i64 m'] 37) = W0 at *
  generalize w.heap.size = B at *
  have K1 : ∀ w', Keep [] W0 w' → w'.cell? ⟨B, 0, none⟩ = some (.int .i64 x) := fun _ k => k.known (b1.cell 0) (by simp)
  have K2 : ∀ w', Keep [] W0 w' → w'.cell? ⟨B, 1, none⟩ = some (.int .i64 y) := fun _ k => k.known (b1.cell 1) (by simp)
  have K3 : ∀ w', Keep [] W0 w' → w'.cell? ⟨B, 2, none⟩ = some (.int .i64 h) := fun _ k => k.known (b1.cell 2) (by simp)
  have K4 : ∀ w', Keep [] W0 w' → w'.cell? ⟨B + 1, 0, none⟩ = some (.int .i64 x') := fun _ k => k.known (b2.cell 0) (by simp)
  have K5 : ∀ w', Keep [] W0 w' → w'.cell? ⟨B + 1, 1, none⟩ = some (.int .i64 y') := fun _ k => k.known (b2.cell 1) (by simp)
  have K6 : ∀ w', Keep [] W0 w' → w'.cell? ⟨B + 1, 2, none⟩ = some (.int .i64 h') := fun _ k => k.known (b2.cell 2) (by simp)
  have KK := Lib.hid kk
  clear b1 b2 kk
  go_region_held3 (fun w' => Keep [] W0 w') (first | exact (Keep.refl _ _).drew | exact Keep.tr (by assumption) (by assumption) | exact Keep.alloc (by assumption) _ | assumption) (first
    | (go_at_call 57; refine (byCell_any _ _ _ _ _).mono ?_; rintro e w' ⟨rfl, hk⟩)
    | (go_at_call 58; refine (compareI_any _ _ _).mono ?_; rintro e w' ⟨rfl, rfl⟩)
    | (go_at_call 56; refine (orI2n _ _ _ _ _ _ rfl).mono ?_; rintro e w' ⟨rfl, rfl⟩))
  all_goals trace "A"
  all_goals go_wp2
  all_goals go_ret
  all_goals exact ⟨rfl, Keep.tr KK.out (by assumption)⟩
end Go.Proofs.YtonoknliloilfaaGreatDoor

/- Contracts of the checks of package demand. -/
import Derived.Test.YtonoknliloilfaaGreatDoorEq
namespace Go.Proofs.YtonoknliloilfaaGreatDoor
open Go.RowKit

structure Tal where
  x : Int
  y : Int
  h : Int
  m : Int
  deriving DecidableEq
def encTal (t : Tal) : List Value := [.int .i64 t.x, .int .i64 t.y, .int .i64 t.h, .int .i64 t.m]
instance : Inhabited Tal := ⟨⟨0, 0, 0, 0⟩⟩

def outB (n lo hi : Int) : Bool := decide (n < lo) || decide (hi < n)
set_option maxHeartbeats 400000 in
theorem out_any (n lo hi : Int) (w : World) :
    Calls Tryz.prog 31 #[.int .i64 n, .int .i64 lo, .int .i64 hi] w fun e w' => e = .returned (.bool (outB n lo hi)) ∧ w = w' := by
  go_enter Tryz.func31, Tryz.ntmps31
  go_wp2
  · go_ret; exact ⟨rfl, rfl⟩
  · have h : n < lo := by assumption
    go_ret; exact ⟨ret_bool (by simp [outB, h]), rfl⟩

def isPtB (x y : Int) : Bool := !outB x (-10000) 10000 && !outB y (-10000) 10000
set_option maxHeartbeats 400000 in
theorem isPoint_any (x y : Int) (w : World) :
    Calls Tryz.prog 30 #[.int .i64 x, .int .i64 y] w fun e w' => e = .returned (.bool (isPtB x y)) ∧ w = w' := by
  by_cases h : outB x (-10000) 10000 = true
  · have hb := Lib.hid h
    go_enter Tryz.func30, Tryz.ntmps30
    go_wp2_with (go_at_call 31; refine (out_any _ _ _ _).mono ?_; rintro e w' ⟨rfl, rfl⟩)
    go_ret; exact ⟨ret_bool (by simp [isPtB, hb.out]), rfl⟩
  · have h' : outB x (-10000) 10000 = false := by simpa using h
    have hb := Lib.hid h'
    clear h
    go_enter Tryz.func30, Tryz.ntmps30
    go_wp2_with (go_at_call 31; refine (out_any _ _ _ _).mono ?_; rintro e w' ⟨rfl, rfl⟩)
    go_ret; exact ⟨ret_bool (by simp [isPtB, hb.out]), rfl⟩

theorem tal_cells {w : World} {b off : Nat} {l : List Tal} (h : Row encTal 4 w b off l) {k : Nat} (hk : k < l.length) :
    ∃ t, l.getD k default = t ∧ (∀ w', Keep [] w w' → w'.cell? ⟨b, off + k * 4, none⟩ = some (.int .i64 t.x)) ∧ (∀ w', Keep [] w w' → w'.cell? ⟨b, off + k * 4 + 1, none⟩ = some (.int .i64 t.y)) ∧
      (∀ w', Keep [] w w' → w'.cell? ⟨b, off + k * 4 + 2, none⟩ = some (.int .i64 t.h)) ∧ (∀ w', Keep [] w w' → w'.cell? ⟨b, off + k * 4 + 3, none⟩ = some (.int .i64 t.m)) :=
  ⟨_, rfl, fun _ kp => kp.known (h k 0 hk (by omega)) (by simp), fun _ kp => kp.known (h k 1 hk (by omega)) (by simp), fun _ kp => kp.known (h k 2 hk (by omega)) (by simp), fun _ kp => kp.known (h k 3 hk (by omega)) (by simp)⟩

def talBad (t : Tal) : Bool := !isPtB t.x t.y || outB t.h 0 167 || outB t.m 1 1000000000
def talLe (t u : Tal) : Bool := decide (byTallyF t.x t.y t.h u.x u.y u.h ≤ 0)
def talErr (l : List Tal) (i : Nat) : Int :=
  if talBad (l.getD i default) then 1 else if 0 < i ∧ talLe (l.getD i default) (l.getD (i - 1) default) = true then 7 else 0


def newCell (l : List Tal) (i : Nat) : Bool := i == 0 || !(decide ((l.getD i default).x = (l.getD (i - 1) default).x) && decide ((l.getD i default).y = (l.getD (i - 1) default).y))
def cellsN (l : List Tal) : Nat → Nat
  | 0 => 0
  | k + 1 => cellsN l k + (if newCell l k then 1 else 0)
theorem cellsN_le (l : List Tal) (k : Nat) : cellsN l k ≤ k := by
  induction k with
  | zero => exact Nat.le_refl _
  | succ k ih => rw [cellsN]; split <;> omega
def manyB (l : List Tal) : Bool := decide (400 < cellsN l l.length)

set_option maxHeartbeats 2000000 in
theorem manyCells_any (b off n cap : Nat) (l : List Tal) (w : World) (hn : Hid (l.length = n)) (hm : n ≤ 1000000) (hc : Row encTal 4 w b off l) :
    Calls Tryz.prog 33 #[.slice (some ⟨b, off, none⟩) n cap] w fun e w' => e = .returned (.bool (manyB l)) ∧ Keep [] w w' := by
  have HC := Lib.hid hc; clear hc
  go_enter Tryz.func33, Tryz.ntmps33
  go_wp2_with fail
  go_loopw [3, 8] (fun c i wr => ∃ k : Nat, k ≤ n ∧ i = .int .i64 k ∧ c = .int .i64 (cellsN l k) ∧ Keep [] w wr) (fun _ i wr => n - (intOf i).toNat)
  case atStart => exact ⟨0, Nat.zero_le _, rfl, rfl, Keep.refl _ _⟩
  case round =>
    obtain ⟨k, hk, rfl, rfl, kp⟩ := hrel
    have hle := cellsN_le l k
    by_cases hlt : k < n
    · obtain ⟨t, ht, c0, c1, c2, c3⟩ := tal_cells HC.out (k := k) (by rw [hn.out]; exact hlt)
      have HT := Lib.hid ht; clear ht
      by_cases hk0 : k = 0
      · have hk2 : ((k : Int) == 0) = true := by simp; omega
        have hk3 : (k == 0) = true := by simp; omega
        have HN : Hid (cellsN l (k + 1) = cellsN l k + 1) := by rw [cellsN, newCell, hk3]; rfl
        have HK := Lib.hid hk0; clear hk0
        generalize cellsN l k = c at *
        go_wp2_with fail
        go_quiet (fail)
        go_wp2_with fail
        refine ⟨?_, ?measure⟩
        case measure => simp [intOf]; omega
        first | exact ⟨k + 1, by omega, by go_num, by rw [HN.out]; go_num, (by repeat (first | with_reducible assumption | with_reducible apply Keep.drew | with_reducible apply Keep.drewN | with_reducible apply Keep.alloc | with_reducible exact Keep.refl _ _))⟩ | ((repeat apply Exists.intro); refine ⟨?_, rfl⟩; exact ⟨k + 1, by omega, by go_num, by rw [HN.out]; go_num, (by repeat (first | with_reducible assumption | with_reducible apply Keep.drew | with_reducible apply Keep.drewN | with_reducible apply Keep.alloc | with_reducible exact Keep.refl _ _))⟩)
      · obtain ⟨u, hu, d0, d1, d2, d3⟩ := tal_cells HC.out (k := k - 1) (by rw [hn.out]; omega)
        have HU := Lib.hid hu; clear hu
        have hk2 : ((k : Int) == 0) = false := by simp; omega
        have hk3 : (k == 0) = false := by simp; omega
        have hk5 : IntKind.i64.wrap ((k : Int) - 1) = ((k - 1 : Nat) : Int) := by rw [IntWalk.i64_in _ (by omega)]; omega
        have hk6 : k - 1 < n := by omega
        have hq := fun W => neqCell t.x t.y u.x u.y W
        have hg := gCell
        have HN : Hid (cellsN l (k + 1) = cellsN l k + (if newCell l k then 1 else 0)) := rfl
        have HW : Hid (newCell l k = !(decide (t.x = u.x) && decide (t.y = u.y))) := by unfold newCell; rw [HT.out, HU.out, hk3]; rfl
        have HK := Lib.hid hk0; clear hk0
        generalize cellsN l k = c at *
        generalize hv : (!(decide (t.x = u.x) && decide (t.y = u.y))) = v at *
        have HV := Lib.hid hv; clear hv
        go_wp2_with fail
        go_quiet (fail)
        cases v
        · go_wp2_with fail
          refine ⟨?_, ?measure⟩
          case measure => simp [intOf]; omega
          first | exact ⟨k + 1, by omega, by go_num, by rw [HN.out, HW.out]; go_num, (by repeat (first | with_reducible assumption | with_reducible apply Keep.drew | with_reducible apply Keep.drewN | with_reducible apply Keep.alloc | with_reducible exact Keep.refl _ _))⟩ | ((repeat apply Exists.intro); refine ⟨?_, rfl⟩; exact ⟨k + 1, by omega, by go_num, by rw [HN.out, HW.out]; go_num, (by repeat (first | with_reducible assumption | with_reducible apply Keep.drew | with_reducible apply Keep.drewN | with_reducible apply Keep.alloc | with_reducible exact Keep.refl _ _))⟩)
        · go_wp2_with fail
          refine ⟨?_, ?measure⟩
          case measure => simp [intOf]; omega
          first | exact ⟨k + 1, by omega, by go_num, by rw [HN.out, HW.out]; go_num, (by repeat (first | with_reducible assumption | with_reducible apply Keep.drew | with_reducible apply Keep.drewN | with_reducible apply Keep.alloc | with_reducible exact Keep.refl _ _))⟩ | ((repeat apply Exists.intro); refine ⟨?_, rfl⟩; exact ⟨k + 1, by omega, by go_num, by rw [HN.out, HW.out]; go_num, (by repeat (first | with_reducible assumption | with_reducible apply Keep.drew | with_reducible apply Keep.drewN | with_reducible apply Keep.alloc | with_reducible exact Keep.refl _ _))⟩)
    · obtain rfl : k = n := by omega
      go_wp2_with fail
      go_ret
      exact ⟨ret_bool (by rw [manyB, hn.out]; first | exact decide_eq_decide.2 (by omega) | (simp; omega)), (by repeat (first | with_reducible assumption | with_reducible apply Keep.drew | with_reducible apply Keep.drewN | with_reducible apply Keep.alloc | with_reducible exact Keep.refl _ _))⟩

def checkTal (l : List Tal) : Int := if 67200 < l.length then 2 else if firstErr (talErr l) l.length = 0 then (if manyB l then 2 else 0) else firstErr (talErr l) l.length

set_option maxHeartbeats 8000000 in
theorem checkTallies_any (b off n cap : Nat) (l : List Tal) (w : World) (hn : Hid (l.length = n)) (hm : n ≤ 1000000)
    (hc : Row encTal 4 w b off l) (hb : b < w.heap.size) :
    Calls Tryz.prog 12 #[.slice (some ⟨b, off, none⟩) n cap] w fun e w' => e = .returned (.int .i64 (checkTal l)) ∧ Keep [] w w' := by
  have HC := Lib.hid hc; clear hc
  by_cases hbig : 67200 < n
  · go_enter Tryz.func12, Tryz.ntmps12
    go_wp2_with fail
    go_ret
    exact ⟨ret_int (by rw [checkTal, if_pos (by rw [hn.out]; exact hbig)]), Keep.refl _ _⟩
  go_enter Tryz.func12, Tryz.ntmps12
  go_wp2_with fail
  go_loopw [10] (fun i wr => ∃ k : Nat, k ≤ n ∧ i = .int .i64 k ∧ Keep [] w wr ∧ Hid (∀ j, j < k → talErr l j = 0)) (fun i wr => n - (intOf i).toNat)
  case atStart => exact ⟨0, Nat.zero_le _, rfl, Keep.refl _ _, fun j hj => by omega⟩
  case round =>
    obtain ⟨k, hk, rfl, kp, hz⟩ := hrel
    by_cases hlt : k < n
    · obtain ⟨t, ht, c0, c1, c2, c3⟩ := tal_cells HC.out (k := k) (by rw [hn.out]; exact hlt)
      have HT := Lib.hid ht; clear ht
      by_cases hbad : talBad t = true
      · have hfin : checkTal l = 1 := by
          have he : talErr l k = 1 := by rw [talErr, HT.out, if_pos hbad]
          rw [checkTal, if_neg (by rw [hn.out]; omega), firstErr_at hz.out (by rw [hn.out]; exact hlt) (by rw [he]; decide), he]; rfl
        have HF := Lib.hid hfin; clear hfin
        unfold talBad at hbad
        by_cases hb1 : isPtB t.x t.y = true
        · by_cases hb2 : outB t.h 0 167 = true
          · clear hbad
            go_wp2_with (first
              | (go_at_call 30; refine (isPoint_any _ _ _).mono ?_; rintro e w' ⟨rfl, rfl⟩)
              | (go_at_call 31; refine (out_any _ _ _ _).mono ?_; rintro e w' ⟨rfl, rfl⟩))
            go_ret
            exact ⟨ret_int HF.out.symm, Keep.alloc kp _⟩
          · have hb2' : outB t.h 0 167 = false := by simpa using hb2
            have hb3 : outB t.m 1 1000000000 = true := by simpa [hb1, hb2'] using hbad
            clear hbad hb2
            go_wp2_with (first
              | (go_at_call 30; refine (isPoint_any _ _ _).mono ?_; rintro e w' ⟨rfl, rfl⟩)
              | (go_at_call 31; refine (out_any _ _ _ _).mono ?_; rintro e w' ⟨rfl, rfl⟩))
            go_ret
            exact ⟨ret_int HF.out.symm, Keep.alloc kp _⟩
        · have hb1' : isPtB t.x t.y = false := by simpa using hb1
          clear hbad hb1
          go_wp2_with (first
              | (go_at_call 30; refine (isPoint_any _ _ _).mono ?_; rintro e w' ⟨rfl, rfl⟩)
              | (go_at_call 31; refine (out_any _ _ _ _).mono ?_; rintro e w' ⟨rfl, rfl⟩))
          go_ret
          exact ⟨ret_int HF.out.symm, Keep.alloc kp _⟩
      · have hbad : talBad t = false := by simpa using hbad
        have HB := Lib.hid hbad
        unfold talBad at hbad
        simp only [Bool.or_eq_false_iff, Bool.not_eq_false'] at hbad
        obtain ⟨⟨hb1, hb2⟩, hb3⟩ := hbad
        by_cases hk0 : k = 0
        · have hk1 : k ≤ 0 := by omega
          have hk2 : decide ((0 : Int) < (k : Int)) = false := by simp; omega
          have hk3 : decide (0 < k) = false := by simp; omega
          have HK := Lib.hid hk0; clear hk0
          go_wp2_with (first
              | (go_at_call 30; refine (isPoint_any _ _ _).mono ?_; rintro e w' ⟨rfl, rfl⟩)
              | (go_at_call 31; refine (out_any _ _ _ _).mono ?_; rintro e w' ⟨rfl, rfl⟩))
          go_quiet (fail)
          go_wp2_with fail
          refine ⟨?_, ?measure⟩
          case measure => simp [intOf]; omega
          first | exact ⟨k + 1, by omega, by go_num, (by repeat (first | with_reducible assumption | with_reducible apply Keep.drew | with_reducible apply Keep.drewN | with_reducible apply Keep.alloc | with_reducible exact Keep.refl _ _)), fun j hj => by
            by_cases hjk : j = k
            · subst hjk; rw [talErr, HT.out, if_neg (by rw [HB.out]; decide), if_neg (fun h => by have := HK.out; omega)]
            · exact hz.out j (by omega)⟩ | ((repeat apply Exists.intro); refine ⟨?_, rfl⟩; exact ⟨k + 1, by omega, by go_num, (by repeat (first | with_reducible assumption | with_reducible apply Keep.drew | with_reducible apply Keep.drewN | with_reducible apply Keep.alloc | with_reducible exact Keep.refl _ _)), fun j hj => by
            by_cases hjk : j = k
            · subst hjk; rw [talErr, HT.out, if_neg (by rw [HB.out]; decide), if_neg (fun h => by have := HK.out; omega)]
            · exact hz.out j (by omega)⟩)
        · obtain ⟨u, hu, d0, d1, d2, d3⟩ := tal_cells HC.out (k := k - 1) (by rw [hn.out]; omega)
          have HU := Lib.hid hu; clear hu
          go_wp2_with (first
              | (go_at_call 30; refine (isPoint_any _ _ _).mono ?_; rintro e w' ⟨rfl, rfl⟩)
              | (go_at_call 31; refine (out_any _ _ _ _).mono ?_; rintro e w' ⟨rfl, rfl⟩))
          have kp0 : Keep [] w (wr.alloc (.cells #[.int .i64 t.x, .int .i64 t.y, .int .i64 t.h, .int .i64 t.m] 37)) := kp.alloc _
          have b1 := Blk.new wr #[.int .i64 t.x, .int .i64 t.y, .int .i64 t.h, .int .i64 t.m] 37
          generalize wr.alloc (.cells #[.int .i64 t.x, .int .i64 t.y, .int .i64 t.h, .int .i64 t.m] 37) = W0 at *
          generalize wr.heap.size = B at *
          have k0 : ∀ w', Keep [] W0 w' → w'.cell? ⟨B, 0, none⟩ = some (.int .i64 t.x) := fun _ k => k.known (b1.cell 0) (by simp)
          have k1 : ∀ w', Keep [] W0 w' → w'.cell? ⟨B, 1, none⟩ = some (.int .i64 t.y) := fun _ k => k.known (b1.cell 1) (by simp)
          have k2 : ∀ w', Keep [] W0 w' → w'.cell? ⟨B, 2, none⟩ = some (.int .i64 t.h) := fun _ k => k.known (b1.cell 2) (by simp)
          have k3 : ∀ w', Keep [] W0 w' → w'.cell? ⟨B, 3, none⟩ = some (.int .i64 t.m) := fun _ k => k.known (b1.cell 3) (by simp)
          have kup : ∀ w', Keep [] W0 w' → Keep [] w w' := fun _ k => kp0.tr k
          clear b1 c0 c1 c2 c3
          have hk2 : decide ((0 : Int) < (k : Int)) = true := by simp; omega
          have hk3 : decide (0 < k) = true := by simp; omega
          have hk4 : 1 ≤ k := by omega
          have hk5 : IntKind.i64.wrap ((k : Int) - 1) = ((k - 1 : Nat) : Int) := by rw [IntWalk.i64_in _ (by omega)]; omega
          have hk6 : k - 1 < n := by omega
          go_region_held3 (fun w' => Keep [] W0 w') (first | exact (Keep.refl _ _).drew | exact Keep.tr (by assumption) (by assumption) | exact Keep.alloc (by assumption) _ | assumption) (first | (go_at_call 32; refine (byTally_any _ _ _ _ _ _ _ _ _).mono ?_; rintro e w' ⟨rfl, hk⟩))
          rename_i a2 w2 kp2
          by_cases hle : talLe t u = true
          · have hd : byTallyF t.x t.y t.h u.x u.y u.h ≤ 0 := of_decide_eq_true hle
            have hfin : checkTal l = 7 := by
              have he : talErr l k = 7 := by rw [talErr, HT.out, HU.out, if_neg (by rw [HB.out]; decide), if_pos ⟨by omega, hle⟩]
              rw [checkTal, if_neg (by rw [hn.out]; omega), firstErr_at hz.out (by rw [hn.out]; exact hlt) (by rw [he]; decide), he]; rfl
            have HF := Lib.hid hfin; clear hfin hle
            go_wp2_with fail
            go_ret
            exact ⟨ret_int HF.out.symm, kup _ (by assumption)⟩
          · have hd : 0 < byTallyF t.x t.y t.h u.x u.y u.h := by simpa [talLe] using hle
            have HL := Lib.hid hle; clear hle
            go_wp2_with fail
            refine ⟨?_, ?measure⟩
            case measure => simp [intOf]; omega
            first | exact ⟨k + 1, by omega, by go_num, kup _ (by assumption), fun j hj => by
              by_cases hjk : j = k
              · subst hjk; rw [talErr, HT.out, HU.out, if_neg (by rw [HB.out]; decide), if_neg (fun h => HL.out h.2)]
              · exact hz.out j (by omega)⟩ | ((repeat apply Exists.intro); refine ⟨?_, rfl⟩; exact ⟨k + 1, by omega, by go_num, kup _ (by assumption), fun j hj => by
              by_cases hjk : j = k
              · subst hjk; rw [talErr, HT.out, HU.out, if_neg (by rw [HB.out]; decide), if_neg (fun h => HL.out h.2)]
              · exact hz.out j (by omega)⟩)
    · have hz0 : firstErr (talErr l) l.length = 0 := firstErr_zero (fun j hj => hz.out j (by have := hn.out; omega))
      have hfin : checkTal l = if manyB l then 2 else 0 := by rw [checkTal, if_neg (by rw [hn.out]; omega), if_pos hz0]
      have HF := Lib.hid hfin; clear hfin
      cases hm : manyB l
      all_goals go_wp2_with (go_at_call 33; refine (manyCells_any b off n cap l _ hn (by omega) (HC.out.keep kp hb (by simp))).mono ?_; rintro e w' ⟨rfl, hk⟩)
      all_goals go_ret
      all_goals exact ⟨ret_int (by rw [HF.out]; simp [*]), kp.tr hk⟩
end Go.Proofs.YtonoknliloilfaaGreatDoor

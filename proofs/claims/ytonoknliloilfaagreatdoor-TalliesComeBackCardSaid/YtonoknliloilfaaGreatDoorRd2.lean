/- Contracts of drive.After and road.knotsFault. -/
import Derived.Test.YtonoknliloilfaaGreatDoorRd1
import Derived.Test.YtonoknliloilfaaGreatDoorBsK
namespace Go.Proofs.YtonoknliloilfaaGreatDoor
open Go.RowKit

def aftK (l : List Knt) (i : Nat) : Knt := if i + 1 < l.length then l.getD (i + 1) default else ⟨86400000, (l.getD 0 default).t⟩

set_option maxHeartbeats 1000000 in
theorem after_any (b off n cap : Nat) (l : List Knt) (i : Nat) (w : World) (hn : Hid (l.length = n)) (hm : n ≤ 1000000) (hi : i < n) (hc : Row encKnt 2 w b off l) :
    Calls Tryz.prog 80 #[.slice (some ⟨b, off, none⟩) n cap, .int .i64 i] w fun e w' => e = .returned (.agg #[.int .i64 (aftK l i).a, .int .i64 (aftK l i).t]) ∧ Keep [] w w' := by
  by_cases hlt : i + 1 < n
  · obtain ⟨t, ht⟩ : ∃ t, l.getD (i + 1) default = t := ⟨_, rfl⟩
    have c0 : ∀ w', Keep [] w w' → w'.cell? ⟨b, off + (i + 1) * 2, none⟩ = some (.int .i64 t.a) := hc.known 0 (by rw [hn.out]; omega) (by omega) (by rw [ht]; rfl)
    have c1 : ∀ w', Keep [] w w' → w'.cell? ⟨b, off + (i + 1) * 2 + 1, none⟩ = some (.int .i64 t.t) := hc.known 1 (by rw [hn.out]; omega) (by omega) (by rw [ht]; rfl)
    have HA : Hid (aftK l i = t) := by show _ = _; rw [aftK, if_pos (by rw [hn.out]; exact hlt), ht]
    have hlt2 : (i : Int) + 1 < n := by omega
    clear ht hc
    go_enter Tryz.func80, Tryz.ntmps80
    go_wp2_with fail
    exact bodyPost_ret (v := .agg #[.int .i64 (aftK l i).a, .int .i64 (aftK l i).t]) (by rw [HA.out]; simp [results, Tryz.results80, go_sem]) rfl ⟨rfl, (by repeat (first | with_reducible assumption | with_reducible apply Keep.drew | with_reducible apply Keep.drewN | with_reducible apply Keep.alloc | with_reducible exact Keep.refl _ _))⟩
  · obtain ⟨t, ht⟩ : ∃ t, l.getD 0 default = t := ⟨_, rfl⟩
    have c1 : ∀ w', Keep [] w w' → w'.cell? ⟨b, off + 1, none⟩ = some (.int .i64 t.t) := fun w' kp => by
      have := hc.known (i := 0) 1 (v := .int .i64 t.t) (by rw [hn.out]; omega) (by omega) (by rw [ht]; rfl) w' kp
      simpa using this
    have HA : Hid (aftK l i = ⟨86400000, t.t⟩) := by show _ = _; rw [aftK, if_neg (by rw [hn.out]; exact hlt), ht]
    clear ht hc
    have hlt2 : ¬ (i : Int) + 1 < n := by omega
    have hpos : 0 < n := by omega
    go_enter Tryz.func80, Tryz.ntmps80
    go_wp2_with fail
    exact bodyPost_ret (v := .agg #[.int .i64 (aftK l i).a, .int .i64 (aftK l i).t]) (by rw [HA.out]; simp [results, Tryz.results80, go_sem]) rfl ⟨rfl, (by repeat (first | with_reducible assumption | with_reducible apply Keep.drew | with_reducible apply Keep.drewN | with_reducible apply Keep.alloc | with_reducible exact Keep.refl _ _))⟩

def knBad (l : List Knt) (i : Nat) : Bool := outB (l.getD i default).a 0 86399999 || outB (l.getD i default).t 1 3600000
def knOrd (l : List Knt) (i : Nat) : Bool := if i = 0 then ((l.getD i default).a != 0) else decide ((l.getD i default).a ≤ (l.getD (i - 1) default).a)
def knErr (l : List Knt) (i : Nat) : Int := if knBad l i = true then 1 else if knOrd l i = true then 7 else 0
def knRule (l : List Knt) (i : Nat) : Int := if (aftK l i).a - (l.getD i default).a < (l.getD i default).t - (aftK l i).t then 16 else 0
def knsErr (l : List Knt) : Int :=
  if l.length = 0 then 8 else if 48 < l.length then 2 else if firstErr (knErr l) l.length = 0 then firstErr (knRule l) l.length else firstErr (knErr l) l.length

set_option maxHeartbeats 4000000 in
theorem knotsFault_nil (p : Option Addr) (cap : Nat) (w : World) :
    Calls Tryz.prog 75 #[.slice p 0 cap] w fun e w' => e = .returned (.int .i64 8) ∧ Keep [] w w' := by
  go_enter Tryz.func75, Tryz.ntmps75
  go_wp2_with fail
  go_ret
  exact ⟨rfl, (by repeat (first | with_reducible assumption | with_reducible apply Keep.drew | with_reducible apply Keep.drewN | with_reducible apply Keep.alloc | with_reducible exact Keep.refl _ _))⟩

set_option maxHeartbeats 4000000 in
theorem knotsFault_any (b off n cap : Nat) (l : List Knt) (w : World) (hn : Hid (l.length = n)) (hm : n ≤ 1000000) (h1 : 0 < n) (hc : Row encKnt 2 w b off l) (hb : b < w.heap.size) :
    Calls Tryz.prog 75 #[.slice (some ⟨b, off, none⟩) n cap] w fun e w' => e = .returned (.int .i64 (knsErr l)) ∧ Keep [] w w' := by
  have HC := Lib.hid hc; clear hc
  have hn0 : ((n : Int) == 0) = false := by simp; omega
  have hn1 : (n == 0) = false := by simp; omega
  by_cases hbig : 48 < n
  · go_enter Tryz.func75, Tryz.ntmps75
    go_wp2_with fail
    go_ret
    exact ⟨ret_int (by rw [knsErr, if_neg (by rw [hn.out]; omega), if_pos (by rw [hn.out]; exact hbig)]), Keep.refl _ _⟩
  have HK : Hid (knsErr l = if firstErr (knErr l) l.length = 0 then firstErr (knRule l) l.length else firstErr (knErr l) l.length) := by
    show _ = _; rw [knsErr, if_neg (by rw [hn.out]; omega), if_neg (by rw [hn.out]; exact hbig)]
  go_enter Tryz.func75, Tryz.ntmps75
  go_wp2_with fail
  go_loopw [18] (fun i wr => ∃ k : Nat, k ≤ n ∧ i = .int .i64 k ∧ Keep [] w wr ∧ Hid (∀ j, j < k → knErr l j = 0)) (fun i wr => n - (intOf i).toNat)
  case atStart => exact ⟨0, Nat.zero_le _, rfl, Keep.refl _ _, fun j hj => by omega⟩
  case round =>
    obtain ⟨k, hk, rfl, kp, hz⟩ := hrel
    by_cases hlt : k < n
    · have row := HC.out.keep kp hb (by simp)
      obtain ⟨t, ht⟩ : ∃ t, l.getD k default = t := ⟨_, rfl⟩
      have c0 : wr.cell? ⟨b, off + k * 2, none⟩ = some (.int .i64 t.a) := row.known 0 (by rw [hn.out]; omega) (by omega) (by rw [ht]; rfl) wr (Keep.refl _ _)
      have c1 : wr.cell? ⟨b, off + k * 2 + 1, none⟩ = some (.int .i64 t.t) := row.known 1 (by rw [hn.out]; omega) (by omega) (by rw [ht]; rfl) wr (Keep.refl _ _)
      have HF : Hid (knErr l k ≠ 0 → knsErr l = knErr l k) := fun he => by
        have := firstErr_at (n := l.length) hz.out (by rw [hn.out]; exact hlt) he
        rw [HK.out, this, if_neg he]
      by_cases hbad : knBad l k = true
      · have HE : Hid (knErr l k = 1) := by show _ = _; rw [knErr, if_pos hbad]
        unfold knBad at hbad; rw [ht] at hbad
        clear ht row
        by_cases hb1 : outB t.a 0 86399999 = true
        · clear hbad
          go_wp2_with (go_at_call 31; refine (out_any _ _ _ _).mono ?_; rintro e w' ⟨rfl, rfl⟩)
          go_ret
          exact ⟨ret_int (by rw [HF.out (by rw [HE.out]; decide), HE.out]), (by repeat (first | with_reducible assumption | with_reducible apply Keep.drew | with_reducible apply Keep.drewN | with_reducible apply Keep.alloc | with_reducible exact Keep.refl _ _))⟩
        · have hb1 : outB t.a 0 86399999 = false := by simpa using hb1
          have hb2 : outB t.t 1 3600000 = true := by simpa [hb1] using hbad
          clear hbad
          go_wp2_with (go_at_call 31; refine (out_any _ _ _ _).mono ?_; rintro e w' ⟨rfl, rfl⟩)
          go_ret
          exact ⟨ret_int (by rw [HF.out (by rw [HE.out]; decide), HE.out]), (by repeat (first | with_reducible assumption | with_reducible apply Keep.drew | with_reducible apply Keep.drewN | with_reducible apply Keep.alloc | with_reducible exact Keep.refl _ _))⟩
      · have HB := Lib.hid hbad
        have hbad : knBad l k = false := by simpa using hbad
        unfold knBad at hbad; rw [ht] at hbad
        simp only [Bool.or_eq_false_iff] at hbad
        obtain ⟨hb1, hb2⟩ := hbad
        by_cases hk0 : k = 0
        · have hk2 : ((k : Int) == 0) = true := by simp; omega
          have hk2' : (k == 0) = true := by simp; omega
          have hk3 : decide ((0 : Int) < (k : Int)) = false := by simp; omega
          have hk3' : decide (0 < k) = false := by simp; omega
          have hk4 : k ≤ 0 := by omega
          have HO : Hid (knOrd l k = (t.a != 0)) := by show _ = _; rw [knOrd, if_pos hk0, ht]
          have HE : Hid (knErr l k = if knOrd l k = true then 7 else 0) := by show _ = _; rw [knErr, if_neg HB.out]
          generalize hv : (t.a != 0) = v at *
          have HV := Lib.hid hv
          clear ht row hk0
          cases v
          · have HE0 : Hid (knErr l k = 0) := by show _ = _; rw [HE.out, HO.out]; rfl
            go_wp2_with (go_at_call 31; refine (out_any _ _ _ _).mono ?_; rintro e w' ⟨rfl, rfl⟩)
            go_quiet (fail)
            go_wp2_with fail
            refine ⟨?_, ?measure⟩
            case measure => simp [intOf]; omega
            first | exact ⟨k + 1, by omega, by go_num, (by repeat (first | with_reducible assumption | with_reducible apply Keep.drew | with_reducible apply Keep.drewN | with_reducible apply Keep.alloc | with_reducible exact Keep.refl _ _)), fun j hj => by
              by_cases e : j = k
              · rw [e]; exact HE0.out
              · exact hz.out j (by omega)⟩ | ((repeat apply Exists.intro); refine ⟨?_, rfl⟩; exact ⟨k + 1, by omega, by go_num, (by repeat (first | with_reducible assumption | with_reducible apply Keep.drew | with_reducible apply Keep.drewN | with_reducible apply Keep.alloc | with_reducible exact Keep.refl _ _)), fun j hj => by
              by_cases e : j = k
              · rw [e]; exact HE0.out
              · exact hz.out j (by omega)⟩)
          · have HE7 : Hid (knErr l k = 7) := by show _ = _; rw [HE.out, HO.out]; rfl
            go_wp2_with (go_at_call 31; refine (out_any _ _ _ _).mono ?_; rintro e w' ⟨rfl, rfl⟩)
            go_quiet (fail)
            go_wp2_with fail
            go_ret
            exact ⟨ret_int (by rw [HF.out (by rw [HE7.out]; decide), HE7.out]), (by repeat (first | with_reducible assumption | with_reducible apply Keep.drew | with_reducible apply Keep.drewN | with_reducible apply Keep.alloc | with_reducible exact Keep.refl _ _))⟩
        · obtain ⟨u, hu⟩ : ∃ u, l.getD (k - 1) default = u := ⟨_, rfl⟩
          have d0 : ∀ w', Keep [] wr w' → w'.cell? ⟨b, off + (k - 1) * 2, none⟩ = some (.int .i64 u.a) := row.known 0 (by rw [hn.out]; omega) (by omega) (by rw [hu]; rfl)
          have hk2 : ((k : Int) == 0) = false := by simp; omega
          have hk2' : (k == 0) = false := by simp; omega
          have hk3 : decide ((0 : Int) < (k : Int)) = true := by simp; omega
          have hk3' : decide (0 < k) = true := by simp; omega
          have hk4 : 1 ≤ k := by omega
          have hk5 : IntKind.i64.wrap ((k : Int) - 1) = ((k - 1 : Nat) : Int) := by rw [IntWalk.i64_in _ (by omega)]; omega
          have hk6 : k - 1 < n := by omega
          have HO : Hid (knOrd l k = decide (t.a ≤ u.a)) := by show _ = _; rw [knOrd, if_neg hk0, ht, hu]
          have HE : Hid (knErr l k = if knOrd l k = true then 7 else 0) := by show _ = _; rw [knErr, if_neg HB.out]
          generalize hv : decide (t.a ≤ u.a) = v at *
          have HV := Lib.hid hv
          clear ht hu row hk0
          go_wp2_with (go_at_call 31; refine (out_any _ _ _ _).mono ?_; rintro e w' ⟨rfl, rfl⟩)
          go_quiet (fail)
          cases v
          · have HE0 : Hid (knErr l k = 0) := by show _ = _; rw [HE.out, HO.out]; rfl
            go_wp2_with fail
            refine ⟨?_, ?measure⟩
            case measure => simp [intOf]; omega
            first | exact ⟨k + 1, by omega, by go_num, (by repeat (first | with_reducible assumption | with_reducible apply Keep.drew | with_reducible apply Keep.drewN | with_reducible apply Keep.alloc | with_reducible exact Keep.refl _ _)), fun j hj => by
              by_cases e : j = k
              · rw [e]; exact HE0.out
              · exact hz.out j (by omega)⟩ | ((repeat apply Exists.intro); refine ⟨?_, rfl⟩; exact ⟨k + 1, by omega, by go_num, (by repeat (first | with_reducible assumption | with_reducible apply Keep.drew | with_reducible apply Keep.drewN | with_reducible apply Keep.alloc | with_reducible exact Keep.refl _ _)), fun j hj => by
              by_cases e : j = k
              · rw [e]; exact HE0.out
              · exact hz.out j (by omega)⟩)
          · have HE7 : Hid (knErr l k = 7) := by show _ = _; rw [HE.out, HO.out]; rfl
            go_wp2_with fail
            go_ret
            exact ⟨ret_int (by rw [HF.out (by rw [HE7.out]; decide), HE7.out]), (by repeat (first | with_reducible assumption | with_reducible apply Keep.drew | with_reducible apply Keep.drewN | with_reducible apply Keep.alloc | with_reducible exact Keep.refl _ _))⟩
    · have hz0 : Hid (firstErr (knErr l) l.length = 0) := firstErr_zero (fun j hj => hz.out j (by have := hn.out; omega))
      have HALL : Hid (∀ j, j < n → knErr l j = 0) := fun j hj => hz.out j (by omega)
      have HK2 : Hid (knsErr l = firstErr (knRule l) l.length) := by show _ = _; rw [HK.out, if_pos hz0.out]
      clear hz
      go_wp2_with fail
      go_loopw [58] (fun i wr => ∃ k : Nat, k ≤ n ∧ i = .int .i64 k ∧ Keep [] w wr ∧ Hid (∀ j, j < k → knRule l j = 0)) (fun i wr => n - (intOf i).toNat)
      case atStart => exact ⟨0, Nat.zero_le _, rfl, kp, fun j hj => by omega⟩
      case round =>
        clear kp
        obtain ⟨k, hk, rfl, kp, hz⟩ := hrel
        by_cases hlt : k < n
        · have row := HC.out.keep kp hb (by simp)
          have hin : ∀ j, j < n → 0 ≤ (l.getD j default).a ∧ (l.getD j default).a ≤ 86399999 ∧ 1 ≤ (l.getD j default).t ∧ (l.getD j default).t ≤ 3600000 := fun j hj => by
            have h := HALL.out j hj
            unfold knErr at h
            by_cases hb : knBad l j = true
            · rw [if_pos hb] at h; omega
            · simp only [knBad, outB, Bool.or_eq_true, decide_eq_true_eq] at hb; omega
          obtain ⟨t, ht⟩ : ∃ t, l.getD k default = t := ⟨_, rfl⟩
          obtain ⟨u, hu⟩ : ∃ u, aftK l k = u := ⟨_, rfl⟩
          have i1 := hin k hlt; rw [ht] at i1
          have i2 : 0 ≤ u.a ∧ u.a ≤ 86400000 ∧ 1 ≤ u.t ∧ u.t ≤ 3600000 := by
            rw [← hu]; unfold aftK; split
            · have := hin (k + 1) (by have := hn.out; omega); omega
            · have := hin 0 h1; dsimp only; omega
          have w1 : IntKind.i64.wrap (t.t - u.t) = t.t - u.t := IntWalk.i64_in _ (by omega)
          have w2 : IntKind.i64.wrap (u.a - t.a) = u.a - t.a := IntWalk.i64_in _ (by omega)
          have c0 : wr.cell? ⟨b, off + k * 2, none⟩ = some (.int .i64 t.a) := row.known 0 (by rw [hn.out]; omega) (by omega) (by rw [ht]; rfl) wr (Keep.refl _ _)
          have c1 : wr.cell? ⟨b, off + k * 2 + 1, none⟩ = some (.int .i64 t.t) := row.known 1 (by rw [hn.out]; omega) (by omega) (by rw [ht]; rfl) wr (Keep.refl _ _)
          have HR : Hid (knRule l k = if u.a - t.a < t.t - u.t then 16 else 0) := by show _ = _; unfold knRule; rw [ht, hu]
          have haf : ∀ W, Keep [] w W → Calls Tryz.prog 80 #[.slice (some ⟨b, off, none⟩) n cap, .int .i64 k] W fun e w' => e = .returned (.agg #[.int .i64 u.a, .int .i64 u.t]) ∧ Keep [] W w' := fun W kpW => by
            have h := after_any b off n cap l k W hn hm hlt (HC.out.keep kpW hb (by simp))
            rw [hu] at h; exact h
          clear hin i1 i2 ht hu row
          go_wp2_with fail
          have kp0 : Keep [] w (wr.alloc (.cells #[.int .i64 t.a, .int .i64 t.t] 68)) := kp.alloc _
          have b1 := Blk.new wr #[.int .i64 t.a, .int .i64 t.t] 68
          generalize wr.alloc (.cells #[.int .i64 t.a, .int .i64 t.t] 68) = W0 at *
          generalize wr.heap.size = B at *
          have k0 : ∀ w', Keep [] W0 w' → w'.cell? ⟨B, 0, none⟩ = some (.int .i64 t.a) := fun _ k => k.known (b1.cell 0) (by simp)
          have k1 : ∀ w', Keep [] W0 w' → w'.cell? ⟨B, 1, none⟩ = some (.int .i64 t.t) := fun _ k => k.known (b1.cell 1) (by simp)
          have kup : ∀ w', Keep [] W0 w' → Keep [] w w' := fun _ k => kp0.tr k
          refine (haf W0 kp0).mono ?_
          rintro e w' ⟨rfl, hk⟩
          clear b1 c0 c1 haf
          by_cases hr : u.a - t.a < t.t - u.t
          · have HE : Hid (knRule l k = 16) := by show _ = _; rw [HR.out, if_pos hr]
            have HF : Hid (knsErr l = 16) := by show _ = _; rw [HK2.out, firstErr_at (n := l.length) hz.out (by rw [hn.out]; exact hlt) (by rw [HE.out]; decide), HE.out]
            go_wp2_with fail
            go_ret
            exact ⟨ret_int HF.out.symm, kup _ (by repeat (first | with_reducible assumption | with_reducible apply Keep.drew | with_reducible apply Keep.drewN | with_reducible apply Keep.alloc | with_reducible exact Keep.refl _ _))⟩
          · have HE : Hid (knRule l k = 0) := by show _ = _; rw [HR.out, if_neg hr]
            go_wp2_with fail
            refine ⟨?_, ?measure⟩
            case measure => simp [intOf]; omega
            first | exact ⟨k + 1, by omega, by go_num, kup _ (by repeat (first | with_reducible assumption | with_reducible apply Keep.drew | with_reducible apply Keep.drewN | with_reducible apply Keep.alloc | with_reducible exact Keep.refl _ _)), fun j hj => by
              by_cases e : j = k
              · rw [e]; exact HE.out
              · exact hz.out j (by omega)⟩ | ((repeat apply Exists.intro); refine ⟨?_, rfl⟩; exact ⟨k + 1, by omega, by go_num, kup _ (by repeat (first | with_reducible assumption | with_reducible apply Keep.drew | with_reducible apply Keep.drewN | with_reducible apply Keep.alloc | with_reducible exact Keep.refl _ _)), fun j hj => by
              by_cases e : j = k
              · rw [e]; exact HE.out
              · exact hz.out j (by omega)⟩)
        · go_wp2_with fail
          go_ret
          exact ⟨ret_int (by rw [HK2.out]; exact (firstErr_zero fun j hj => hz.out j (by have := hn.out; omega)).symm), kp⟩
end Go.Proofs.YtonoknliloilfaaGreatDoor

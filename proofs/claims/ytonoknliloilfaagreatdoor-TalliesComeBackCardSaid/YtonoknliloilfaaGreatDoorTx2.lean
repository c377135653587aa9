/- Contracts: base.Number, base.Numbers. -/
import Derived.Test.YtonoknliloilfaaGreatDoorTx1
namespace Go.Proofs.YtonoknliloilfaaGreatDoor
open Go.RowKit

def numV (s : List UInt8) (k : Nat) : Int := if numOk s k then (Lib.atoi s).getD 0 else 0
theorem str_get (d : List UInt8) (i : Nat) (h : i < (str d).size) : ((str d)[i]'h) = d.getD i 0 := by
  have h' : i < d.length := by rw [← str_size]; exact h
  show d.toArray[i]'(by simpa using h') = _
  simp [List.getD, h']
def numBad (s d : List UInt8) (k : Nat) : Bool := d.isEmpty || decide (k < d.length) || (d.headD 0 == 48 && (decide (1 < d.length) || decide (d.length < s.length)))
theorem numOk_bad {s d : List UInt8} {k : Nat} (h : trimM s = d) : numOk s k = (!numBad s d k && d.all dig) := by
  unfold numOk numBad; rw [h]
  have e : decide (d.length ≤ k) = !decide (k < d.length) := by by_cases h : k < d.length <;> simp [h] <;> omega
  rw [e]
  cases d.isEmpty <;> cases decide (k < d.length) <;> simp

set_option maxHeartbeats 4000000 in
theorem number_any (s : List UInt8) (k : Nat) (w : World) (hs : s.length ≤ 4294967280) (hk : k ≤ 17) :
    Calls Tryz.prog 38 #[.string (str s), .int .i64 k] w fun e w' => e = .returned (.tuple #[.int .i64 (numV s k), .bool (numOk s k)]) ∧ Keep [] w w' := by
  have hz := str_size s
  have hz2 := str_size (trimM s)
  have hz3 := str_toList (trimM s)
  have hl : (trimM s).length ≤ s.length := by cases s with | nil => simp [trimM] | cons b r => simp only [trimM]; split <;> simp
  have ht := trim_any s w
  have hok := numOk_bad (s := s) (k := k) rfl
  generalize hd : trimM s = d at *
  have HT := Lib.hid ht
  have HZ := Lib.hid (And.intro hz hz2)
  have HO := Lib.hid hok
  have HD := Lib.hid hd
  clear hd ht hok
  cases hb : numBad s d k
  · have hall : numOk s k = d.all dig := by rw [HO.out, hb]; simp
    have HALL := Lib.hid hall
    unfold numBad at hb
    simp only [Bool.or_eq_false_iff] at hb
    obtain ⟨⟨b1, b2⟩, b3⟩ := hb
    have h1 : d ≠ [] := by simpa using b1
    have e1 : ¬ (str d).toList = [] := by rw [hz3]; exact h1
    have e2 : (str d).toList.isEmpty = false := by rw [hz3]; exact b1
    have e3 : (str d).size ≤ k := by rw [hz2]; simpa using b2
    have e4 : 0 < (str d).size := by rw [hz2]; exact List.length_pos_iff.2 h1
    have e5 : ((((str d)[0]).toNat : Int) = 48 ∧ ((str d).size : Int) ≤ 1 ∧ ¬ (str d).size < (str s).size) ∨ ¬ (((str d)[0]).toNat : Int) = 48 := by
      rw [str_get, hz2, hz]
      by_cases hc : d.headD 0 = 48
      · rw [hc] at b3
        simp at b3
        refine .inl ⟨?_, by omega, by omega⟩
        cases d with
        | nil => exact absurd rfl h1
        | cons c r => simp at hc; simp [hc]
      · refine .inr fun he => hc ?_
        cases d with
        | nil => exact absurd rfl h1
        | cons c r =>
          simp at he ⊢
          exact UInt8.toNat.inj (by rw [show (48 : UInt8).toNat = 48 from rfl]; omega)
    have e8 : ((0 : Int) < (str d).size) := by omega
    have e9 : (str d).size < 100 := by omega
    have HN : Hid (numOk s k = true → numV s k = (Lib.atoi s).getD 0) := fun h => by unfold numV; rw [h]; rfl
    have HN0 : Hid (numOk s k = false → numV s k = 0) := fun h => by unfold numV; rw [h]; rfl
    have HB : Hid (∀ i (h : i < (str d).size), (str d)[i] = d.getD i 0) := fun i h => str_get d i h
    have HL : Hid ((str d).size = d.length) := hz2
    clear hz hz2 hz3 hall b1 b2 b3 h1
    rcases e5 with ⟨e5, e6, e7⟩ | e5
    all_goals
      go_enter Tryz.func38, Tryz.ntmps38
      go_wp2_with fail
      refine HT.out.mono ?_
      rintro e w' ⟨rfl, rfl⟩
      go_wp2_with fail
      go_loop [39] (fun i => ∃ j : Nat, j ≤ (str d).size ∧ i = .int .i64 j ∧ Hid ((d.take j).all dig = true)) (fun i => (str d).size - (intOf i).toNat)
      case atStart => exact ⟨0, Nat.zero_le _, rfl, rfl⟩
      case round =>
        obtain ⟨j, hj, rfl, hall⟩ := hrel
        by_cases hlt : j < (str d).size
        · have hg := HB.out j hlt
          have htk : d.take (j + 1) = d.take j ++ [d.getD j 0] := by
            have hj' : j < d.length := by rw [← HL.out]; exact hlt
            rw [List.take_succ_eq_append_getElem hj']; simp [List.getD, hj']
          have hlt2 : (j : Int) < (str d).size := by omega
          have hk9 : j < 100 := by omega
          by_cases hdg : dig (d.getD j 0) = true
          · have g0 := hdg
            simp only [dig, Bool.and_eq_true, decide_eq_true_eq] at g0
            rw [← hg] at g0
            have g1 : ¬ (((str d)[j]).toNat : Int) < 48 := by omega
            have g2 : ¬ (57 : Int) < ((str d)[j]).toNat := by omega
            have hnx : Hid ((d.take (j + 1)).all dig = true) := by show _ = _; rw [htk, List.all_append, hall.out]; simpa using hdg
            clear g0 hdg htk hg
            go_wp2_with fail
            refine ⟨?_, ?measure⟩
            case measure => simp [intOf]; omega
            first | exact ⟨j + 1, by omega, by go_num, hnx⟩ | ((repeat apply Exists.intro); refine ⟨?_, rfl⟩; exact ⟨j + 1, by omega, by go_num, hnx⟩)
          · have hno : numOk s k = false := by
              rw [HALL.out, List.all_eq_false]
              have hj' : j < d.length := by rw [← HL.out]; exact hlt
              exact ⟨d.getD j 0, by simp [List.getD, hj'], hdg⟩
            have hv : numV s k = 0 := HN0.out hno
            have g0 : ((str d)[j]).toNat < 48 ∨ 57 < ((str d)[j]).toNat := by
              rw [hg]; simp only [dig, Bool.and_eq_true, decide_eq_true_eq] at hdg; omega
            have HNV := Lib.hid (And.intro hno hv)
            clear hdg htk hg hno hv
            rcases g0 with g0 | g0
            · have g1 : (((str d)[j]).toNat : Int) < 48 := by omega
              go_wp2_with fail
              go_ret2
              exact ⟨by rw [HNV.out.1, HNV.out.2]; rfl, Keep.refl _ _⟩
            · have g1 : ¬ (((str d)[j]).toNat : Int) < 48 := by omega
              have g2 : (57 : Int) < ((str d)[j]).toNat := by omega
              go_wp2_with fail
              go_ret2
              exact ⟨by rw [HNV.out.1, HNV.out.2]; rfl, Keep.refl _ _⟩
        · obtain rfl : j = (str d).size := by omega
          have hyes : numOk s k = true := by
            have := hall.out; rw [HL.out, List.take_length] at this; rw [HALL.out]; exact this
          obtain ⟨n, hn, hi, hlen⟩ := numOk_read hyes
          have hv : numV s k = n := by rw [HN.out hyes, hn]; rfl
          have HA := Lib.hid (atoi_any s n w (by omega) hn)
          have HNV := Lib.hid (And.intro hyes hv)
          clear hyes hn hi hv hlen
          go_wp2_with (go_at_call 64; refine (HA.out).mono ?_; rintro e w' ⟨rfl, hk⟩)
          go_quiet (fail)
          go_wp2_with fail
          go_ret2
          exact ⟨by rw [HNV.out.1, HNV.out.2]; rfl, hk.drewN _⟩
  · have hno : numOk s k = false := by rw [HO.out, hb]; rfl
    have hv : numV s k = 0 := by unfold numV; rw [hno]; rfl
    rw [hno, hv]
    unfold numBad at hb
    by_cases h1 : d = []
    · subst h1
      have e1 : (str []).toList = [] := hz3
      clear hz hz2 hb hno hv
      go_enter Tryz.func38, Tryz.ntmps38
      go_wp2_with fail
      refine HT.out.mono ?_
      rintro e w' ⟨rfl, rfl⟩
      go_wp2_with fail
      go_ret2
      exact ⟨rfl, Keep.refl _ _⟩
    · have e1 : ¬ (str d).toList = [] := by rw [hz3]; exact h1
      have e2 : (str d).toList.isEmpty = false := by rw [hz3]; simpa using h1
      by_cases h2 : k < d.length
      · have e3 : k < (str d).size := by rw [hz2]; exact h2
        clear hz hz2 hz3 hb hno hv
        go_enter Tryz.func38, Tryz.ntmps38
        go_wp2_with fail
        refine HT.out.mono ?_
        rintro e w' ⟨rfl, rfl⟩
        go_wp2_with fail
        go_ret2
        exact ⟨rfl, Keep.refl _ _⟩
      · have e3 : (str d).size ≤ k := by rw [hz2]; omega
        have e4 : 0 < (str d).size := by rw [hz2]; exact List.length_pos_iff.2 h1
        have hne : d.isEmpty = false := by simpa using h1
        have hk2 : decide (k < d.length) = false := by simpa using h2
        rw [hne, hk2] at hb
        simp only [Bool.false_or, Bool.and_eq_true, beq_iff_eq, Bool.or_eq_true, decide_eq_true_eq] at hb
        have e5 : (((str d)[0]).toNat : Int) = 48 := by
          rw [str_get]; cases d with
          | nil => exact absurd rfl h1
          | cons c r => have := hb.1; simp at this; simp [this]
        by_cases h3 : 1 < d.length
        · have e6 : (1 : Int) < (str d).size := by rw [hz2]; omega
          clear hz hz2 hz3 hb hno hv hne hk2
          go_enter Tryz.func38, Tryz.ntmps38
          go_wp2_with fail
          refine HT.out.mono ?_
          rintro e w' ⟨rfl, rfl⟩
          go_wp2_with fail
          go_ret2
          exact ⟨rfl, Keep.refl _ _⟩
        · have e6 : ((str d).size : Int) ≤ 1 := by rw [hz2]; omega
          have e7 : (str d).size < (str s).size := by rw [hz2, hz]; rcases hb.2 with h | h; exact absurd h h3; exact h
          clear hz hz2 hz3 hb hno hv hne hk2
          go_enter Tryz.func38, Tryz.ntmps38
          go_wp2_with fail
          refine HT.out.mono ?_
          rintro e w' ⟨rfl, rfl⟩
          go_wp2_with fail
          go_ret2
          exact ⟨rfl, Keep.refl _ _⟩
end Go.Proofs.YtonoknliloilfaaGreatDoor

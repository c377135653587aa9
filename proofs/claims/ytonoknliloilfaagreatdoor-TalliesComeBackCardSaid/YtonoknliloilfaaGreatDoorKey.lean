/- Contracts on keys and moments. -/
import Derived.Test.YtonoknliloilfaaGreatDoorDem1
namespace Go.Proofs.YtonoknliloilfaaGreatDoor
open Go.RowKit

def keyCh (c : UInt8) : Bool := (decide (97 ≤ c.toNat) && decide (c.toNat ≤ 122)) || (decide (48 ≤ c.toNat) && decide (c.toNat ≤ 57)) || c.toNat == 45 || c.toNat == 95
def keyL (l : List UInt8) : Bool := match l with
  | [] => false
  | c :: _ => decide (l.length ≤ 40) && decide (97 ≤ c.toNat) && decide (c.toNat ≤ 122) && l.all keyCh
def keyB (s : ByteArray) : Bool := keyL s.data.toList

theorem ba_toList (s : ByteArray) : s.toList = s.data.toList := ByteArray.toList_eq s
set_option maxHeartbeats 4000000 in
theorem key_any (s : ByteArray) (w : World) (hs : s.size ≤ 9223372036854775807) :
    Calls Tryz.prog 73 #[.string s] w fun e w' => e = .returned (.bool (keyB s)) ∧ w = w' := by
  by_cases h0 : s.size = 0
  · have he : s.toList = [] := by rw [ba_toList]; exact List.eq_nil_of_length_eq_zero h0
    have hf : Hid (keyB s = false) := by have : s.data.toList = [] := by rw [← ba_toList]; exact he
                                         show keyL s.data.toList = false; rw [this]; rfl
    have he2 : s.toList.isEmpty = true := by rw [he]; rfl
    clear h0
    go_enter Tryz.func73, Tryz.ntmps73
    go_wp2_with fail
    go_ret
    exact ⟨ret_bool hf.out.symm, rfl⟩
  have hpos : 0 < s.size := by omega
  have hc : ∃ c l, s.data.toList = c :: l := by
    cases h : s.data.toList with
    | nil => exact absurd (by rw [← ByteArray.size_data, ← Array.length_toList, h]; rfl) h0
    | cons c l => exact ⟨c, l, rfl⟩
  obtain ⟨c, l, hcl⟩ := hc
  have hne : ¬ s.toList = [] := by rw [ba_toList, hcl]; simp
  have he2 : s.toList.isEmpty = false := by rw [ba_toList, hcl]; rfl
  have hsz : s.size = l.length + 1 := by rw [← ByteArray.size_data, ← Array.length_toList, hcl]; rfl
  have h00 : s[0]'hpos = c := by
    have := congrArg (fun l => l[0]?) hcl
    have h2 : s.data[0]'hpos = c := by simpa [hpos] using this
    exact h2
  have HK : Hid (keyB s = (decide (l.length + 1 ≤ 40) && decide (97 ≤ c.toNat) && decide (c.toNat ≤ 122) && (c :: l).all keyCh)) := by show keyL s.data.toList = _; rw [hcl]; rfl
  have HSZ := Lib.hid hsz; clear hsz
  by_cases h1 : 40 < s.size
  · go_enter Tryz.func73, Tryz.ntmps73
    go_wp2_with fail
    go_ret
    exact ⟨ret_bool (by rw [HK.out]; have := HSZ.out; simp; omega), rfl⟩
  by_cases h2 : c.toNat < 97
  · go_enter Tryz.func73, Tryz.ntmps73
    go_wp2_with fail
    go_ret
    exact ⟨ret_bool (by rw [HK.out]; have : decide (97 ≤ c.toNat) = false := by simp; omega
                        rw [this]; simp), rfl⟩
  by_cases h3 : 122 < c.toNat
  · go_enter Tryz.func73, Tryz.ntmps73
    go_wp2_with fail
    go_ret
    exact ⟨ret_bool (by rw [HK.out]; have : decide (c.toNat ≤ 122) = false := by simp; omega
                        rw [this]; simp), rfl⟩
  have HK2 : Hid (keyB s = s.data.toList.all keyCh) := by
    show keyB s = _; rw [HK.out, hcl]; have e1 : decide (97 ≤ c.toNat) = true := by simp; omega
    have e2 : decide (c.toNat ≤ 122) = true := by simp; omega
    have e3 : decide (l.length + 1 ≤ 40) = true := by have := HSZ.out; simp; omega
    rw [e1, e2, e3]; rfl
  clear hcl HK
  go_enter Tryz.func73, Tryz.ntmps73
  go_wp2_with fail
  go_loop [24] (fun i => ∃ k : Nat, k ≤ s.size ∧ i = .int .i64 k ∧ Hid (∀ j, (h : j < k) → (h2 : j < s.size) → keyCh (s[j]'h2) = true)) (fun i => s.size - (intOf i).toNat)
  case atStart => exact ⟨0, Nat.zero_le _, rfl, fun j h _ => by omega⟩
  case round =>
    obtain ⟨k, hk, rfl, hall⟩ := hrel
    by_cases hlt : k < s.size
    · obtain ⟨d, hd⟩ : ∃ d, s[k]'hlt = d := ⟨_, rfl⟩
      have HD := Lib.hid hd
      by_cases hkc : keyCh d = true
      · have hstep : Hid (∀ j, (h : j < k + 1) → (h2 : j < s.size) → keyCh (s[j]'h2) = true) := fun j h h2 => by
          by_cases e : j = k
          · subst e; rw [HD.out]; exact hkc
          · exact hall.out j (by omega) h2
        simp only [keyCh, Bool.or_eq_true, Bool.and_eq_true, decide_eq_true_eq, beq_iff_eq] at hkc
        rcases hkc with ((⟨e1, e2⟩ | ⟨e1, e2⟩) | e) | e
        · go_wp2_with fail
          all_goals (refine ⟨?_, by (simp [intOf]; omega)⟩; first | exact ⟨k + 1, by omega, by go_num, hstep⟩ | exact ⟨rfl, ⟨k + 1, by omega, by go_num, hstep⟩⟩ | ((repeat apply Exists.intro); refine ⟨?_, rfl⟩; exact ⟨k + 1, by omega, by go_num, hstep⟩) | (refine ⟨rfl, ?_⟩; (repeat apply Exists.intro); refine ⟨?_, rfl⟩; exact ⟨k + 1, by omega, by go_num, hstep⟩))
        · have e3 : ¬ (97 ≤ d.toNat) := by omega
          go_wp2_with fail
          all_goals (refine ⟨?_, by (simp [intOf]; omega)⟩; first | exact ⟨k + 1, by omega, by go_num, hstep⟩ | exact ⟨rfl, ⟨k + 1, by omega, by go_num, hstep⟩⟩ | ((repeat apply Exists.intro); refine ⟨?_, rfl⟩; exact ⟨k + 1, by omega, by go_num, hstep⟩) | (refine ⟨rfl, ?_⟩; (repeat apply Exists.intro); refine ⟨?_, rfl⟩; exact ⟨k + 1, by omega, by go_num, hstep⟩))
        · have e1 : ((d.toNat : Int) == 45) = true := by simp; omega
          have e2 : d.toNat ≤ 45 := by omega
          have e3 : 45 ≤ d.toNat := by omega
          clear e
          go_wp2_with fail
          all_goals (refine ⟨?_, by (simp [intOf]; omega)⟩; first | exact ⟨k + 1, by omega, by go_num, hstep⟩ | exact ⟨rfl, ⟨k + 1, by omega, by go_num, hstep⟩⟩ | ((repeat apply Exists.intro); refine ⟨?_, rfl⟩; exact ⟨k + 1, by omega, by go_num, hstep⟩) | (refine ⟨rfl, ?_⟩; (repeat apply Exists.intro); refine ⟨?_, rfl⟩; exact ⟨k + 1, by omega, by go_num, hstep⟩))
        · have e0 : ((d.toNat : Int) == 45) = false := by simp; omega
          have e1 : ((d.toNat : Int) == 95) = true := by simp; omega
          have e2 : d.toNat ≤ 95 := by omega
          have e3 : 95 ≤ d.toNat := by omega
          clear e
          go_wp2_with fail
          all_goals (refine ⟨?_, by (simp [intOf]; omega)⟩; first | exact ⟨k + 1, by omega, by go_num, hstep⟩ | exact ⟨rfl, ⟨k + 1, by omega, by go_num, hstep⟩⟩ | ((repeat apply Exists.intro); refine ⟨?_, rfl⟩; exact ⟨k + 1, by omega, by go_num, hstep⟩) | (refine ⟨rfl, ?_⟩; (repeat apply Exists.intro); refine ⟨?_, rfl⟩; exact ⟨k + 1, by omega, by go_num, hstep⟩))
      · have hfin : Hid (s.data.toList.all keyCh = false) := by
          show _ = false
          rw [List.all_eq_false]; refine ⟨d, ?_, by simpa using hkc⟩
          rw [← HD.out]; exact List.getElem_mem (l := s.data.toList) (by simpa using hlt)
        simp only [keyCh, Bool.or_eq_true, Bool.and_eq_true, decide_eq_true_eq, beq_iff_eq] at hkc
        have e0 : ((d.toNat : Int) == 45) = false := by simp; omega
        have e1 : ((d.toNat : Int) == 95) = false := by simp; omega
        rcases (show d.toNat < 48 ∨ (57 < d.toNat ∧ d.toNat < 97) ∨ 122 < d.toNat by omega) with h | ⟨h, h'⟩ | h
        all_goals clear hkc
        all_goals go_wp2_with fail
        all_goals first | (go_ret; exact ⟨ret_bool (by rw [HK2.out, hfin.out]), rfl⟩) | (exfalso; simp only [Bool.not_eq_false', decide_eq_true_eq] at *; omega)
    · go_wp2_with fail
      go_ret
      exact ⟨ret_bool (by rw [HK2.out]; symm; rw [List.all_eq_true]; intro x hx
                          obtain ⟨j, hj, rfl⟩ := List.mem_iff_getElem.1 hx
                          exact hall.out j (by have : s.data.toList.length = s.size := by simp
                                               omega) (by simpa using hj)), rfl⟩
end Go.Proofs.YtonoknliloilfaaGreatDoor

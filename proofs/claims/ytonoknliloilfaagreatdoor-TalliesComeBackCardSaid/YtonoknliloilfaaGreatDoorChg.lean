/- Contract: (*jitmake.Stream).Changed returns some text. -/
import Derived.Test.YtonoknliloilfaaGreatDoorTx9
import Derived.Test.YtonoknliloilfaaGreatDoorStream
import Derived.Deep.QuietTactic
namespace Go.Proofs.YtonoknliloilfaaGreatDoor
open Go.RowKit

theorem next_nat (bs : Nat) (pl : Option Addr) (len cap : Nat) (L : List Int) (at_ : Nat) (n : Nat) (w : World) (h : Stm w bs pl len cap L at_) (hat : at_ < 1000000) (h1 : 1 ≤ n) (hn2 : n ≤ 4294967296) :
    Calls Tryz.prog 29 #[.pointer (some ⟨bs, 0, none⟩), .int .i64 n] w fun e w' => ∃ r : Nat, r < n ∧ e = .returned (.int .i64 r) ∧ Stm w' bs pl len cap L (at_ + 1) ∧ Keep [bs] w w' := by
  refine (next_any bs pl len cap L at_ n w h hat (by omega)).mono ?_
  rintro e w' ⟨rfl, h1', h2⟩
  have hr := nextF_in L at_ n (by omega)
  obtain ⟨r, hr'⟩ := Int.eq_ofNat_of_zero_le hr.1
  exact ⟨r, by omega, by rw [hr'], h1', h2⟩

theorem str_take (t : List UInt8) (i : Nat) : (str t).extract 0 i = str (t.take i) := by
  apply ba_ext
  rw [str_data, ByteArray.data_extract]
  show (t.toArray.extract 0 i).toList = _
  simp
theorem str_drop (t : List UInt8) (i : Nat) : (str t).extract i t.length = str (t.drop i) := by
  apply ba_ext
  rw [str_data, ByteArray.data_extract]
  show (t.toArray.extract i t.length).toList = _
  simp [List.take_of_length_le]
theorem enc_le (r : Int) : (Utf8.encode r).data.toList.length ≤ 4 := by
  unfold Utf8.encode
  simp only []
  generalize (if Utf8.valid r = true then r.toNat else Utf8.runeError) = c
  by_cases h1 : c < 0x80
  · rw [if_pos h1]; simp
  rw [if_neg h1]
  by_cases h2 : c < 0x800
  · rw [if_pos h2]; simp
  rw [if_neg h2]
  by_cases h3 : c < 0x10000
  · rw [if_pos h3]; simp
  rw [if_neg h3]; simp
def ChgP (bs : Nat) (pl : Option Addr) (len cap : Nat) (L : List Int) (at_ : Nat) (n : Nat) (w : World) (e : Ending) (w' : World) : Prop :=
  ∃ s a', e = .returned (.string (str s)) ∧ s.length ≤ n ∧ a' ≤ at_ + 3 ∧ Stm w' bs pl len cap L a' ∧ Keep [bs] w w'
set_option maxHeartbeats 4000000 in
theorem changed_any (bs : Nat) (pl : Option Addr) (len cap : Nat) (L : List Int) (at_ : Nat) (t wi : List UInt8) (w : World) (h : Stm w bs pl len cap L at_) (hat : at_ < 900000)
   (ht0 : t ≠ []) (hw0 : wi ≠ []) (ht : t.length ≤ 500000) (hwl : wi.length ≤ 1000) :
    Calls Tryz.prog 22 #[.pointer (some ⟨bs, 0, none⟩), .string (str t), .string (str wi)] w (ChgP bs pl len cap L at_ (t.length + 4) w) := by
  have e1 : ¬ (str t).toList = [] := by rw [str_toList]; exact ht0
  have e2 : (str t).toList.isEmpty = false := by rw [str_toList]; simpa using ht0
  have e3 : ¬ (str wi).toList = [] := by rw [str_toList]; exact hw0
  have e4 : (str wi).toList.isEmpty = false := by rw [str_toList]; simpa using hw0
  have hz := str_size t
  have hz2 := str_size wi
  have ht1 := List.length_pos_iff.2 ht0
  have hw1 := List.length_pos_iff.2 hw0
  have n1 := next_nat bs pl len cap L at_ (str t).size w h (by omega) (by omega) (by omega)
  go_enter Tryz.func22, Tryz.ntmps22
  go_wp2_with fail
  refine n1.mono ?_
  rintro e w1 ⟨i, hi, rfl, s1, k1⟩
  have n2 := next_nat bs pl len cap L (at_ + 1) (str wi).size w1 s1 (by omega) (by omega) (by omega)
  go_wp2_with fail
  refine n2.mono ?_
  rintro e w2 ⟨ci, hci, rfl, s2, k2⟩
  have n3 := next_nat bs pl len cap L (at_ + 1 + 1) 3 w2 s2 (by omega) (by omega) (by omega)
  have hciI : (ci : Int) < (str wi).size := by omega
  go_wp2_with fail
  refine n3.mono ?_
  rintro e w3 ⟨m, hm, rfl, s3, k3⟩
  generalize (str wi)[ci] = cb at *
  clear n1 n2 n3 s1 s2 e1 e2 e3 e4
  have hi1 : i ≤ t.length := by omega
  have hi2 : i + 1 ≤ t.length := by omega
  have hi3 : IntKind.i64.wrap ((i : Int) + 1) = (i : Int) + 1 := IntWalk.i64_in _ (by omega)
  have hi4 : (i : Int) + 1 ≤ t.length := by omega
  have hi5 : (0 : Int) ≤ (i : Int) + 1 := by omega
  have hi6 : ((i : Int) + 1).toNat = i + 1 := by omega
  have x1 : (str t).extract 0 i = str (t.take i) := str_take t i
  have x2 : (str t).extract (i + 1) t.length = str (t.drop (i + 1)) := str_drop t (i + 1)
  have x3 : (str t).extract i t.length = str (t.drop i) := str_drop t i
  obtain ⟨rs, hrs⟩ : ∃ rs, rs = (Utf8.encode (IntKind.i32.wrap (cb.toNat : Int))).data.toList := ⟨_, rfl⟩
  have hrl : rs.length ≤ 4 := by rw [hrs]; exact enc_le _
  have x4 : Utf8.encode (IntKind.i32.wrap (cb.toNat : Int)) = str rs := by rw [hrs]; rfl
  clear hrs
  obtain ⟨p1, e1⟩ : ∃ p, p = t.take i ++ rs := ⟨_, rfl⟩
  obtain ⟨p2, e2⟩ : ∃ p, p = p1 ++ t.drop (i + 1) := ⟨_, rfl⟩
  obtain ⟨p3, e3⟩ : ∃ p, p = p1 ++ t.drop i := ⟨_, rfl⟩
  obtain ⟨p4, e4⟩ : ∃ p, p = t.take i ++ t.drop (i + 1) := ⟨_, rfl⟩
  have z1 := congrArg List.length e1
  have z2 := congrArg List.length e2
  have z3 := congrArg List.length e3
  have z4 := congrArg List.length e4
  simp only [List.length_append, List.length_take, List.length_drop] at z1 z2 z3 z4
  have g1 : str (t.take i) ++ str rs = str p1 := by rw [e1, str_append]
  have y1 : ¬ 9223372036854775807 < (str (t.take i)).size + (str rs).size := by rw [str_size, str_size]; simp; omega
  have g2 : str p1 ++ str (t.drop (i + 1)) = str p2 := by rw [e2, str_append]
  have y2 : ¬ 9223372036854775807 < (str p1).size + (str (t.drop (i + 1))).size := by rw [str_size, str_size]; simp; omega
  have g3 : str p1 ++ str (t.drop i) = str p3 := by rw [e3, str_append]
  have y3 : ¬ 9223372036854775807 < (str p1).size + (str (t.drop i)).size := by rw [str_size, str_size]; simp; omega
  have g4 : str (t.take i) ++ str (t.drop (i + 1)) = str p4 := by rw [e4, str_append]
  have y4 : ¬ 9223372036854775807 < (str (t.take i)).size + (str (t.drop (i + 1))).size := by rw [str_size, str_size]; simp; omega
  have q2 : p2.length ≤ t.length + 4 := by omega
  have q3 : p3.length ≤ t.length + 4 := by omega
  have q4 : p4.length ≤ t.length + 4 := by omega
  have KK := Lib.hid ((k1.tr k2).tr k3)
  clear e1 e2 e3 e4 z1 z2 z3 z4 k1 k2 k3
  have KN : ∀ n, Keep [] w3 (w3.drewN n) := fun n => (Keep.refl _ _).drewN n
  have hm' : m = 0 ∨ m = 1 ∨ m = 2 := by omega
  rcases hm' with rfl | rfl | rfl
  · go_wp2_with fail
    go_quiet (fail)
    go_wp2_with fail
    go_ret
    exact ⟨p2, _, rfl, q2, Nat.le_refl _, s3.keep (KN _) (by simp) (by simp), KK.out.drewN _⟩
  · go_wp2_with fail
    go_quiet (fail)
    go_wp2_with fail
    go_ret
    exact ⟨p3, _, rfl, q3, Nat.le_refl _, s3.keep (KN _) (by simp) (by simp), KK.out.drewN _⟩
  · go_wp2_with fail
    go_quiet (fail)
    go_wp2_with fail
    go_ret
    exact ⟨p4, _, rfl, q4, Nat.le_refl _, s3.keep (KN _) (by simp) (by simp), KK.out.drewN _⟩
end Go.Proofs.YtonoknliloilfaaGreatDoor

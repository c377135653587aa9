/- Contract: (*jitmake.Stream).TallyString returns some short text. -/
import Derived.Test.YtonoknliloilfaaGreatDoorChg
import Derived.Test.YtonoknliloilfaaGreatDoorTal
namespace Go.Proofs.YtonoknliloilfaaGreatDoor
open Go.RowKit

set_option maxHeartbeats 1000000 in
theorem changed_empty (p : Value) (l : ByteArray) (w : World) :
    Calls Tryz.prog 22 #[p, .string (str []), .string l] w fun e w' => e = .returned (.string l) ∧ w = w' := by
  have e1 : (str []).toList = [] := str_toList []
  go_enter Tryz.func22, Tryz.ntmps22
  go_wp2_with fail
  go_ret
  exact ⟨rfl, rfl⟩
theorem changed_tal (bs : Nat) (pl : Option Addr) (len cap : Nat) (L : List Int) (at_ : Nat) (t : List UInt8) (w : World) (h : Stm w bs pl len cap L at_) (hat : at_ < 900000) (ht : t.length ≤ 500000) :
    Calls Tryz.prog 22 #[.pointer (some ⟨bs, 0, none⟩), .string (str t), .string ⟨#[32, 10, 48, 49, 45, 57, 97]⟩] w (ChgP bs pl len cap L at_ (t.length + 7) w) := by
  by_cases h0 : t = []
  · subst h0
    refine (changed_empty _ _ w).mono ?_
    rintro e w' ⟨rfl, rfl⟩
    exact ⟨[32, 10, 48, 49, 45, 57, 97], at_, rfl, by simp, by omega, h, Keep.refl _ _⟩
  · refine (changed_any bs pl len cap L at_ t [32, 10, 48, 49, 45, 57, 97] w h hat h0 (by simp) ht (by simp)).mono ?_
    rintro e w' ⟨s, a', rfl, h1, h2, h3, h4⟩
    exact ⟨s, a', rfl, by omega, h2, h3, h4⟩
theorem replaceK_len (s old new : List UInt8) (k : Nat) (hk : k ≤ 1) : (Lib.replaceK old new k s).length ≤ s.length + new.length := by
  have hk' : k = 0 ∨ k = 1 := by omega
  rcases hk' with rfl | rfl
  · rw [Lib.replaceK]; omega
  · rw [Lib.replaceK]
    split
    · omega
    · rw [Lib.replaceK]; simp; omega
theorem replace1_len (s old new : List UInt8) : (Lib.replace s old new 1).length ≤ s.length + new.length := by
  unfold Lib.replace
  split
  · omega
  · apply replaceK_len
    unfold Lib.replaceNum
    split
    · omega
    · decide
theorem replace_tal (t : List UInt8) (w : World) (hE : Env w) (ht : t.length ≤ 500000) :
    Calls Tryz.prog 23 #[.string (str t), .string ⟨#[32]⟩, .string ⟨#[32, 32]⟩, .int .i64 1] w fun e w' => ∃ s, e = .returned (.string (str s)) ∧ s.length ≤ t.length + 2 ∧ Keep [] w w' := by
  obtain ⟨m, hm⟩ := hE.ml
  have hz := str_size t
  have h1 : (⟨#[32]⟩ : ByteArray).size = 1 := rfl
  have h2 : (⟨#[32, 32]⟩ : ByteArray).size = 2 := rfl
  have hc := Lib.countB_mul_le ⟨#[32]⟩ (by rw [h1]; omega) (str t).size (str t) (Nat.le_refl _)
  rw [h1] at hc
  refine (Tryz.strings_Replace (str t) ⟨#[32]⟩ ⟨#[32, 32]⟩ 1 m w (by omega) hm (by rw [h1]; omega) (by rw [h2]; omega)).mono ?_
  rintro e w' ⟨rfl, hb⟩
  exact ⟨_, rfl, replace1_len _ _ _, keep_below (Keep.refl _ _) hb⟩
theorem pick2 (L : List Int) (a : Nat) : ∃ n : Nat, pickF L a [0, 0, 1, 2] = n ∧ n ≤ 2 := by
  have h := nextF_in L a 4 (by omega)
  unfold pickF
  show ∃ n : Nat, [0, 0, 1, 2].getD (nextF L a 4).toNat 0 = (n : Int) ∧ _
  obtain ⟨r, hr⟩ := Int.eq_ofNat_of_zero_le h.1
  rw [hr] at h ⊢
  have : r = 0 ∨ r = 1 ∨ r = 2 ∨ r = 3 := by omega
  rcases this with rfl | rfl | rfl | rfl
  · exact ⟨0, rfl, by omega⟩
  · exact ⟨0, rfl, by omega⟩
  · exact ⟨1, rfl, by omega⟩
  · exact ⟨2, rfl, by omega⟩

/-- what RightTallies makes is right -/
def rtAt (p : Nat × Int) : Tal := ⟨rtX.getD (p.1 / 6) 0, rtY.getD (p.1 / 3 % 2) 0, rtH.getD (p.1 % 3) 0, p.2⟩
theorem rt_pos (L : List Int) (a : Nat) : ∀ j, ∃ ks : List (Nat × Int), (rtSt L a j).1 = ks.map rtAt ∧ ks.Pairwise (fun p q => p.1 < q.1) ∧ ∀ p ∈ ks, p.1 < j ∧ 1 ≤ p.2 ∧ p.2 ≤ 100
  | 0 => ⟨[], rfl, List.Pairwise.nil, by simp⟩
  | j + 1 => by
    obtain ⟨ks, h1, h2, h3⟩ := rt_pos L a j
    simp only [rtSt]
    split
    · obtain ⟨m, hm, hm1, hm2⟩ : ∃ m, pickF L ((rtSt L a j).2 + 1) [1, 2, 5, 5, 100] = m ∧ 1 ≤ m ∧ m ≤ 100 := by
        refine ⟨_, rfl, ?_⟩
        have h := nextF_in L ((rtSt L a j).2 + 1) 5 (by omega)
        unfold pickF
        show 1 ≤ [1, 2, 5, 5, 100].getD (nextF L ((rtSt L a j).2 + 1) 5).toNat 0 ∧ [1, 2, 5, 5, 100].getD (nextF L ((rtSt L a j).2 + 1) 5).toNat 0 ≤ (100 : Int)
        obtain ⟨r, hr⟩ := Int.eq_ofNat_of_zero_le h.1
        rw [hr] at h ⊢
        have : r = 0 ∨ r = 1 ∨ r = 2 ∨ r = 3 ∨ r = 4 := by omega
        rcases this with rfl | rfl | rfl | rfl | rfl <;> decide
      refine ⟨ks ++ [(j, m)], ?_, ?_, ?_⟩
      · rw [h1, hm]; simp [rtAt]
      · rw [List.pairwise_append]
        refine ⟨h2, List.pairwise_singleton _ _, fun p hp q hq => ?_⟩
        simp at hq; subst hq; exact (h3 p hp).1
      · intro p hp
        rcases List.mem_append.1 hp with hp | hp
        · have := h3 p hp; omega
        · simp at hp; subst hp; exact ⟨by simp, hm1, hm2⟩
    · exact ⟨ks, h1, h2, fun p hp => by have := h3 p hp; omega⟩
theorem rt_ord : ∀ b, b < 24 → ∀ a, a < b → 0 < byTallyF (rtX.getD (b / 6) 0) (rtY.getD (b / 3 % 2) 0) (rtH.getD (b % 3) 0) (rtX.getD (a / 6) 0) (rtY.getD (a / 3 % 2) 0) (rtH.getD (a % 3) 0) := by decide
theorem rt_good : ∀ b, b < 24 → isPtB (rtX.getD (b / 6) 0) (rtY.getD (b / 3 % 2) 0) = true ∧ outB (rtH.getD (b % 3) 0) 0 167 = false := by decide
theorem rt_ok (L : List Int) (a : Nat) : checkTal (rtSt L a 24).1 = 0 := by
  have hl := rtSt_len L a 24
  obtain ⟨ks, h1, h2, h3⟩ := rt_pos L a 24
  have hcn := cellsN_le (rtSt L a 24).1 (rtSt L a 24).1.length
  unfold checkTal
  rw [if_neg (by omega)]
  rw [h1] at hl hcn ⊢
  have hm : manyB (ks.map rtAt) = false := by unfold manyB; simp only [decide_eq_false_iff_not]; omega
  have he : firstErr (talErr (ks.map rtAt)) (ks.map rtAt).length = 0 := firstErr_zero fun i hi => by
    have hi' : i < ks.length := by simpa using hi
    have g : ∀ k (hk : k < ks.length), (ks.map rtAt).getD k default = rtAt ks[k] := fun k hk => by simp [List.getD, hk]
    have hi3 := h3 _ (List.getElem_mem hi')
    have hb : talBad (rtAt ks[i]) = false := by
      have := rt_good _ hi3.1
      have hh : talBad (rtAt ks[i]) = (!isPtB (rtX.getD (ks[i].1 / 6) 0) (rtY.getD (ks[i].1 / 3 % 2) 0) || outB (rtH.getD (ks[i].1 % 3) 0) 0 167 || outB ks[i].2 1 1000000000) := rfl
      rw [hh, this.1, this.2]
      simp [outB]
      omega
    unfold talErr
    rw [g i hi', hb, if_neg (by simp)]
    by_cases h0 : 0 < i
    · have hlt := List.pairwise_iff_getElem.1 h2 (i - 1) i (by omega) hi' (by omega)
      have := rt_ord _ hi3.1 _ hlt
      rw [if_neg]
      rw [g (i - 1) (by omega)]
      exact fun hle => absurd (of_decide_eq_true hle.2) (Int.not_le.2 this)
    · rw [if_neg (by omega)]
  rw [if_pos he, hm]; rfl

def TstP (bs : Nat) (pl : Option Addr) (len cap : Nat) (L : List Int) (at_ : Nat) (w : World) (e : Ending) (w' : World) : Prop :=
  ∃ s a', e = .returned (.string (str s)) ∧ s.length ≤ 3000 ∧ a' ≤ at_ + 100 ∧ Stm w' bs pl len cap L a' ∧ Keep [bs] w w'
set_option maxHeartbeats 4000000 in
theorem tallyString_any (bs : Nat) (pl : Option Addr) (len cap : Nat) (L : List Int) (at_ : Nat) (w : World) (hE : Env w) (hg : 0 < bs ∧ 5 < bs) (h : Stm w bs pl len cap L at_) (hat : at_ < 800000) :
    Calls Tryz.prog 8 #[.pointer (some ⟨bs, 0, none⟩)] w (TstP bs pl len cap L at_ w) := by
  have HE := Lib.hid hE
  have HS := Lib.hid h
  clear hE h
  go_enter Tryz.func8, Tryz.ntmps8
  go_wp2_with fail
  refine (rightTallies_any bs pl len cap L at_ w HS.out (by omega)).mono ?_
  rintro e w1 ⟨v, rfl, ho, hs1, k1⟩
  have hE1 := HE.out.keep k1 (fun s hs => by simp at hs; omega)
  have hl24 := rtSt_len L at_ 24
  have hat1 := rtSt_at L at_ 24
  have hok := rt_ok L at_
  have hl := lines_own hE1 ho hok (by omega)
  have htl := talText_len hok
  generalize talText (rtSt L at_ 24).1 = t0 at *
  generalize (rtSt L at_ 24).2 = a1 at *
  have HL := Lib.hid hl
  go_wp2_with fail
  refine HL.out.mono ?_
  rintro e w2 ⟨rfl, k2⟩
  go_wp2_with fail
  have b3 := Blk.new w2 #[.int .i64 0, .int .i64 0, .int .i64 1, .int .i64 2] 3
  have s3 := (hs1.keep k2 (by simp) (by simp)).alloc (.cells #[.int .i64 0, .int .i64 0, .int .i64 1, .int .i64 2] 3)
  have k3 := ((k1.mono (S' := [bs]) (by simp)).tr (k2.mono (S' := [bs]) (by simp))).alloc (.cells #[.int .i64 0, .int .i64 0, .int .i64 1, .int .i64 2] 3)
  have hlt := (HS.out.blk.lt : bs < w.heap.size)
  have hk1s := k1.size
  have hk2s := k2.size
  obtain ⟨n, hn, hn2⟩ := pick2 L a1
  have hp := pick_any bs pl len cap L a1 w2.heap.size 4 4 [0, 0, 1, 2] _ s3 (by omega) (Ints.ofBlk b3 _ rfl) (by omega) rfl (by omega) (by omega)
  rw [hn] at hp
  have HP := Lib.hid hp
  clear hp b3 s3 hs1 hn
  generalize w2.alloc (.cells #[.int .i64 0, .int .i64 0, .int .i64 1, .int .i64 2] 3) = W3 at *
  generalize w2.heap.size = T at *
  refine HP.out.mono ?_
  rintro e w4 ⟨rfl, s4, k4⟩
  have h4 : Hid (Stm w4 bs pl len cap L (a1 + 1) ∧ Keep [bs] w w4) := ⟨s4, k3.tr (k4.mono (by simp))⟩
  clear HP s4 k4 k3 hl HL hok ho
  go_wp2_with fail
  have hz0 : t0.length ≤ 2400 := by omega
  clear htl hl24 k1 k2 hE1
  go_loopw [3, 10] (fun t i wr => ∃ (j : Nat) (s : List UInt8) (a' : Nat), j ≤ n ∧ i = .int .i64 j ∧ t = .string (str s) ∧ s.length ≤ 2400 + 7 * j ∧ a' ≤ a1 + 1 + 3 * j ∧ Hid (Stm wr bs pl len cap L a' ∧ Keep [bs] w wr)) (fun _ i _ => n - (intOf i).toNat)
  case atStart => exact ⟨0, t0, a1 + 1, Nat.zero_le _, rfl, rfl, by omega, by omega, h4⟩
  case round =>
    obtain ⟨j, s, a', hj, rfl, rfl, hsl, ha', hi⟩ := hrel
    by_cases hlt : j < n
    · have hjI : (j : Int) < n := by omega
      have hjb : j < 4294967295 := by omega
      have hc := changed_tal bs pl len cap L a' s wr hi.out.1 (by omega) (by omega)
      have HC := Lib.hid hc
      clear hc
      go_wp2_with fail
      refine HC.out.mono ?_
      rintro e w5 ⟨s2, a2, rfl, hs2, ha2, st2, k2⟩
      go_wp2_with fail
      (refine ⟨?_, by (simp [intOf]; omega)⟩; first | exact ⟨j + 1, s2, a2, by omega, by go_num, rfl, by omega, by omega, st2, hi.out.2.tr (k2.mono (by simp))⟩ | exact ⟨rfl, ⟨j + 1, s2, a2, by omega, by go_num, rfl, by omega, by omega, st2, hi.out.2.tr (k2.mono (by simp))⟩⟩ | ((repeat apply Exists.intro); refine ⟨?_, rfl⟩; exact ⟨j + 1, s2, a2, by omega, by go_num, rfl, by omega, by omega, st2, hi.out.2.tr (k2.mono (by simp))⟩) | (refine ⟨rfl, ?_⟩; (repeat apply Exists.intro); refine ⟨?_, rfl⟩; exact ⟨j + 1, s2, a2, by omega, by go_num, rfl, by omega, by omega, st2, hi.out.2.tr (k2.mono (by simp))⟩))
    · obtain rfl : j = n := by omega
      have hf := flip_any bs pl len cap L a' 12 wr hi.out.1 (by omega) (by omega)
      have HF := Lib.hid hf
      clear hf
      go_wp2_with fail
      refine HF.out.mono ?_
      rintro e w5 ⟨rfl, st2, k2⟩
      have k5 : Keep [bs] w w5 := hi.out.2.tr (k2.mono (by simp))
      have hE5 := HE.out.keep k5 (fun s hs => by simp at hs; omega)
      have hr := replace_tal s w5 hE5 (by omega)
      have HR := Lib.hid hr
      have H5 := Lib.hid (And.intro st2 k5)
      clear hr st2 k5 k2
      cases flipF L a' 12 with
      | true =>
        go_wp2_with fail
        refine HR.out.mono ?_
        rintro e w6 ⟨s3, rfl, hs3, k6⟩
        go_wp2_with fail
        go_ret
        exact ⟨s3, a' + 1, rfl, by omega, by omega, H5.out.1.keep k6 (by simp) (by simp), H5.out.2.tr (k6.mono (by simp))⟩
      | false =>
        go_wp2_with fail
        go_ret
        exact ⟨s, a' + 1, rfl, by omega, by omega, H5.out.1, H5.out.2⟩
end Go.Proofs.YtonoknliloilfaaGreatDoor

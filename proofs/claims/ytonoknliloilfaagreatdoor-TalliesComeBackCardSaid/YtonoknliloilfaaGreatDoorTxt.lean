/- Plain laws of text: splitting at a byte, numbers that are written and read. No program. -/
import Derived.Lib.SplitLaws
import Derived.Lib.ItoaNum
import Derived.Lib.Atoi
namespace Go.Proofs.YtonoknliloilfaaGreatDoor
open Go

/-- the pieces between the bytes c -/
def spl (c : UInt8) : List UInt8 → List (List UInt8)
  | [] => [[]]
  | b :: l => if b = c then [] :: spl c l else (b :: (spl c l).headD []) :: (spl c l).tail
/-- pieces joined by the byte c -/
def joinC (c : UInt8) : List (List UInt8) → List UInt8
  | [] => []
  | [p] => p
  | p :: q :: r => p ++ c :: joinC c (q :: r)
theorem spl_ne (c : UInt8) (l : List UInt8) : ∃ p r, spl c l = p :: r := by
  cases l with
  | nil => exact ⟨_, _, rfl⟩
  | cons b l => unfold spl; split <;> exact ⟨_, _, rfl⟩
theorem join_spl (c : UInt8) : ∀ l, joinC c (spl c l) = l
  | [] => rfl
  | b :: l => by
    have ih := join_spl c l
    obtain ⟨p, r, h⟩ := spl_ne c l
    unfold spl
    rw [h] at ih ⊢
    split
    · rename_i e; subst e; show [] ++ b :: joinC b (p :: r) = _; rw [ih]; rfl
    · show joinC c ((b :: p) :: r) = _
      rw [← ih]; cases r <;> rfl
theorem spl_none (c : UInt8) : ∀ {p : List UInt8}, c ∉ p → spl c p = [p]
  | [], _ => rfl
  | b :: p, h => by
    simp only [List.mem_cons, not_or] at h
    unfold spl; rw [if_neg (fun e => h.1 e.symm), spl_none c h.2]; rfl
theorem spl_append (c : UInt8) : ∀ {p : List UInt8} (l : List UInt8), c ∉ p → spl c (p ++ c :: l) = p :: spl c l
  | [], l, _ => by show spl c (c :: l) = _; rw [spl, if_pos rfl]
  | b :: p, l, h => by
    simp only [List.mem_cons, not_or] at h
    show spl c (b :: (p ++ c :: l)) = _
    rw [spl, if_neg (fun e => h.1 e.symm), spl_append c l h.2]; rfl
theorem spl_mem (c : UInt8) : ∀ (l : List UInt8), ∀ p ∈ spl c l, c ∉ p
  | [], p, h => by simp [spl] at h; subst h; simp
  | b :: l, p, h => by
    have ih := spl_mem c l
    obtain ⟨q, r, e⟩ := spl_ne c l
    unfold spl at h; rw [e] at h ih
    split at h
    · rcases List.mem_cons.1 h with rfl | h
      · simp
      · exact ih p h
    · rename_i hne
      rcases List.mem_cons.1 h with rfl | h
      · have := ih q (by simp)
        simp only [List.headD_cons, List.mem_cons, not_or]; exact ⟨fun e => hne e.symm, this⟩
      · exact ih p (List.mem_cons_of_mem _ h)
theorem spl_len (c : UInt8) : ∀ (l : List UInt8), ∀ p ∈ spl c l, p.length ≤ l.length
  | [], p, h => by simp [spl] at h; subst h; simp
  | b :: l, p, h => by
    have ih := spl_len c l
    obtain ⟨q, r, e⟩ := spl_ne c l
    unfold spl at h; rw [e] at h ih
    split at h
    · rcases List.mem_cons.1 h with rfl | h
      · simp
      · have := ih p h; simp; omega
    · rcases List.mem_cons.1 h with rfl | h
      · have := ih q (by simp); simpa using this
      · have := ih p (List.mem_cons_of_mem _ h); simp; omega
theorem split_spl (c : UInt8) : ∀ l, Lib.splitK [c] 0 (Lib.count l [c]) l = spl c l
  | [] => by rw [Lib.count_miss (by simp [Lib.index])]; rfl
  | b :: l => by
    have ih := split_spl c l
    by_cases h : b = c
    · subst h
      have hix : Lib.index (b :: l) [b] = 0 := by rw [Lib.index]; simp [List.isPrefixOf]
      rw [Lib.count_cons_eq, Nat.add_comm, Lib.splitK, hix, spl, if_pos rfl, ← ih]; simp
    · rw [Lib.count_cons_ne b c l h, spl, if_neg h]
      have hp : ([c] : List UInt8).isPrefixOf (b :: l) = false := by simp [List.isPrefixOf, Ne.symm h]
      have hix : Lib.index (b :: l) [c] = if Lib.index l [c] == -1 then -1 else Lib.index l [c] + 1 := by rw [Lib.index, hp]; simp
      by_cases hm : Lib.index l [c] = -1
      · rw [Lib.count_miss hm] at ih ⊢
        rw [← ih]; rfl
      · have hge := Lib.index_ge l [c]
        obtain ⟨j, hj⟩ : ∃ j : Nat, Lib.index l [c] = j := ⟨(Lib.index l [c]).toNat, by omega⟩
        rw [Lib.count_hit (by simp) hj, Nat.add_comm] at ih ⊢
        rw [Lib.splitK] at ih ⊢
        have h1 : ¬ (Lib.index l [c] == -1) = true := fun e => hm (beq_iff_eq.1 e)
        have h2 : ¬ (Lib.index (b :: l) [c] == -1) = true := fun e => by have := beq_iff_eq.1 e; rw [hix, if_neg h1] at this; omega
        rw [if_neg h1] at ih
        rw [if_neg h2, hix, if_neg h1, ← ih, hj]
        have e1 : ((j : Int) + 1).toNat = j + 1 := by omega
        simp [e1]

/-- a decimal digit -/
def dig (b : UInt8) : Bool := decide (48 ≤ b.toNat) && decide (b.toNat ≤ 57)
def trimM : List UInt8 → List UInt8
  | [] => []
  | b :: r => if b = 45 then r else b :: r
/-- a number of at most k digits, as base.Number takes it -/
def numOk (s : List UInt8) (k : Nat) : Bool :=
  !(trimM s).isEmpty && decide ((trimM s).length ≤ k) && !((trimM s).headD 0 == 48 && (decide (1 < (trimM s).length) || decide ((trimM s).length < s.length))) && (trimM s).all dig
theorem decFrom_snoc : ∀ (l : List UInt8) (acc : Nat) (b : UInt8), Lib.decFrom acc (l ++ [b]) = (Lib.decFrom acc l).bind fun n => (Lib.digitVal b).map fun d => n * 10 + d
  | [], acc, b => by
    show Lib.decFrom acc [b] = _
    unfold Lib.decFrom; cases h : Lib.digitVal b <;> simp [Lib.decFrom]
  | a :: l, acc, b => by
    show Lib.decFrom acc (a :: (l ++ [b])) = _
    unfold Lib.decFrom
    cases h : Lib.digitVal a with
    | none => simp
    | some d => simp only []; exact decFrom_snoc l _ b
theorem digitVal_dig {b : UInt8} (h : dig b = true) : ∃ d, d < 10 ∧ Lib.digitVal b = some d ∧ b = UInt8.ofNat (48 + d) := by
  simp only [dig, Bool.and_eq_true, decide_eq_true_eq] at h
  refine ⟨b.toNat - 48, by omega, by unfold Lib.digitVal; rw [if_pos h], ?_⟩
  rw [show 48 + (b.toNat - 48) = b.toNat by omega]; simp
theorem digitVal_of {d : Nat} (h : d < 10) : Lib.digitVal (UInt8.ofNat (48 + d)) = some d ∧ dig (UInt8.ofNat (48 + d)) = true := by
  have e : (UInt8.ofNat (48 + d)).toNat = 48 + d := by simp; omega
  constructor
  · unfold Lib.digitVal; rw [e, if_pos (by omega)]; congr 1; omega
  · unfold dig; rw [e]; simp; omega
/-- what is written is read -/
theorem decNat_dec : ∀ u, Lib.decFrom 0 (Lib.decDigits u) = some u ∧ (Lib.decDigits u).all dig = true ∧ Lib.decDigits u ≠ [] ∧ (1 ≤ u → (Lib.decDigits u).headD 0 ≠ 48) := by
  intro u
  induction u using Nat.strongRecOn with
  | _ u ih =>
    by_cases h : u < 10
    · rw [Lib.decDigits_one h]
      have hd := digitVal_of h
      refine ⟨?_, by simpa using hd.2, by simp, fun h1 => ?_⟩
      · unfold Lib.decFrom; rw [hd.1]; simp [Lib.decFrom]
      · simp only [List.headD_cons]
        intro e
        have : (UInt8.ofNat (48 + u)).toNat = 48 := by rw [e]; rfl
        simp at this; omega
    · have := ih (u / 10) (by omega)
      rw [Lib.decDigits, dif_neg h]
      have hd := digitVal_of (show u % 10 < 10 by omega)
      refine ⟨?_, by rw [List.all_append, this.2.1]; simpa using hd.2, by simp, fun _ => ?_⟩
      · rw [decFrom_snoc, this.1, hd.1]; simp; omega
      · have h3 := this.2.2.2 (by omega)
        have h2 := this.2.2.1
        cases hl : Lib.decDigits (u / 10) with
        | nil => exact absurd hl h2
        | cons a l => rw [hl] at h3; simpa using h3
/-- what is read was written so -/
theorem dec_of : ∀ (n : Nat) (l : List UInt8), l.length = n → l ≠ [] → l.all dig = true → (1 < l.length → l.headD 0 ≠ 48) → ∃ u, Lib.decFrom 0 l = some u ∧ Lib.decDigits u = l := by
  intro n
  induction n with
  | zero => intro l hl hne; exact absurd (List.eq_nil_of_length_eq_zero hl) hne
  | succ n ih =>
    intro l hl hne hd hh
    obtain ⟨m, b, rfl⟩ : ∃ m b, l = m ++ [b] := ⟨l.dropLast, l.getLast hne, (List.dropLast_concat_getLast hne).symm⟩
    simp only [List.all_append, List.all_cons, List.all_nil, Bool.and_true, Bool.and_eq_true] at hd
    obtain ⟨d, hd10, hdv, hb⟩ := digitVal_dig hd.2
    by_cases hm : m = []
    · subst hm
      refine ⟨d, ?_, ?_⟩
      · show Lib.decFrom 0 [b] = _; unfold Lib.decFrom; rw [hdv]; simp [Lib.decFrom]
      · rw [Lib.decDigits_one hd10, hb]; rfl
    · have hml : m.length = n := by simpa using hl
      have hpos : 0 < m.length := List.length_pos_iff.2 hm
      have hhead : m.headD 0 ≠ 48 := by
        have := hh (by simp; omega)
        cases m with
        | nil => exact absurd rfl hm
        | cons a m => simpa using this
      obtain ⟨u, hu, hdu⟩ := ih m hml hm hd.1 (fun _ => hhead)
      have hu1 : 1 ≤ u := by
        rcases Nat.eq_zero_or_pos u with e | e
        · subst e; rw [Lib.decDigits_one (by omega)] at hdu; rw [← hdu] at hhead; exact absurd rfl hhead
        · exact e
      refine ⟨u * 10 + d, by rw [decFrom_snoc, hu, hdv]; rfl, ?_⟩
      rw [Lib.decDigits, dif_neg (by omega), show (u * 10 + d) / 10 = u by omega, show (u * 10 + d) % 10 = d by omega, hdu, hb]
theorem atoi_cons (b : UInt8) (r : List UInt8) : Lib.atoi (b :: r) = if b == 45 then (Lib.decNat r).map fun (m : Nat) => -(m : Int) else if b == 43 then (Lib.decNat r).map fun (m : Nat) => (m : Int) else (Lib.decNat (b :: r)).map fun (m : Nat) => (m : Int) := rfl
theorem numOk_read {s : List UInt8} {k : Nat} (h : numOk s k = true) : ∃ n : Int, Lib.atoi s = some n ∧ Lib.itoa n = s ∧ s.length ≤ k + 1 := by
  simp only [numOk, Bool.and_eq_true, Bool.not_eq_true', decide_eq_true_eq, List.isEmpty_eq_false_iff] at h
  obtain ⟨⟨⟨h1, h2⟩, h3⟩, h4⟩ := h
  cases s with
  | nil => exact absurd rfl h1
  | cons b r =>
    by_cases hb : b = 45
    · subst hb
      have e : trimM (45 :: r) = r := by simp [trimM]
      rw [e] at h1 h2 h3 h4
      have h3' : r.headD 0 ≠ 48 := by
        intro e2; rw [e2] at h3; simp at h3
      obtain ⟨u, hu, hdu⟩ := dec_of r.length r rfl h1 h4 (fun _ => h3')
      have hu1 : 1 ≤ u := by
        rcases Nat.eq_zero_or_pos u with e | e
        · subst e; rw [Lib.decDigits_one (by omega)] at hdu; rw [← hdu] at h3'; exact absurd rfl h3'
        · exact e
      refine ⟨-(u : Int), ?_, ?_, by simp; omega⟩
      · rw [atoi_cons, if_pos (by decide), Lib.decNat, if_neg (by simpa using h1), hu]; rfl
      · unfold Lib.itoa; rw [if_pos (by omega)]; simp [hdu]
    · have e : trimM (b :: r) = b :: r := by simp [trimM, hb]
      rw [e] at h1 h2 h3 h4
      obtain ⟨u, hu, hdu⟩ := dec_of (b :: r).length (b :: r) rfl h1 h4 (fun hl => by
        intro e2; rw [e2] at h3; simp at h3 hl; exact absurd hl (by simpa using h3))
      have hb43 : (b == 43) = false := by
        have : dig b = true := by simp only [List.all_cons, Bool.and_eq_true] at h4; exact h4.1
        rw [beq_eq_false_iff_ne]; intro e; subst e; revert this; decide
      refine ⟨(u : Int), ?_, ?_, by omega⟩
      · rw [atoi_cons, if_neg (by simpa using hb), hb43]
        simp only [Bool.false_eq_true, if_false]
        rw [Lib.decNat, if_neg (by simp), hu]; rfl
      · unfold Lib.itoa; rw [if_neg (by omega)]; simpa using hdu
theorem nDigits_le : ∀ (k u : Nat), 1 ≤ k → u < 10 ^ k → Lib.nDigits u ≤ k
  | 0, _, h, _ => by omega
  | k + 1, u, _, h => by
    by_cases hu : u < 10
    · rw [Lib.nDigits_small hu]; omega
    · rw [Nat.pow_succ] at h
      have hk : 1 ≤ k := by
        rcases Nat.eq_zero_or_pos k with e | e
        · subst e; simp at h; omega
        · exact e
      rw [Lib.nDigits_big hu]
      have := nDigits_le k (u / 10) hk (by omega)
      omega
theorem num_written {n : Int} {k : Nat} (hk : n.natAbs < 10 ^ k) (h1 : 1 ≤ k) : numOk (Lib.itoa n) k = true ∧ Lib.atoi (Lib.itoa n) = some n := by
  obtain ⟨d1, d2, d3, d4⟩ := decNat_dec n.natAbs
  have dl : (Lib.decDigits n.natAbs).length ≤ k := by rw [Lib.decDigits_length]; exact nDigits_le k _ h1 hk
  have hh : ∀ b r, Lib.decDigits n.natAbs = b :: r → b ≠ 45 ∧ b ≠ 43 := fun b r e => by
    rw [e] at d2
    have : dig b = true := by simp only [List.all_cons, Bool.and_eq_true] at d2; exact d2.1
    exact ⟨fun e => by subst e; revert this; decide, fun e => by subst e; revert this; decide⟩
  by_cases hn : n < 0
  · have e : Lib.itoa n = 45 :: Lib.decDigits n.natAbs := by unfold Lib.itoa; rw [if_pos hn]
    rw [e]
    have h48 := d4 (by omega)
    constructor
    · have e2 : trimM (45 :: Lib.decDigits n.natAbs) = Lib.decDigits n.natAbs := by simp [trimM]
      simp only [numOk, e2, d2, Bool.and_true, Bool.and_eq_true, Bool.not_eq_true', decide_eq_true_eq, List.isEmpty_eq_false_iff]
      exact ⟨⟨d3, dl⟩, by rw [beq_eq_false_iff_ne.2 h48]; rfl⟩
    · rw [atoi_cons, if_pos (by decide), Lib.decNat, if_neg (by simpa using d3), d1]; simp; omega
  · have e : Lib.itoa n = Lib.decDigits n.natAbs := by unfold Lib.itoa; rw [if_neg hn]; congr 1; omega
    rw [e]
    cases hl : Lib.decDigits n.natAbs with
    | nil => exact absurd hl d3
    | cons b r =>
      obtain ⟨hb, hb2⟩ := hh b r hl
      rw [hl] at d1 d2 d3 d4 dl
      have e2 : trimM (b :: r) = b :: r := by simp [trimM, hb]
      constructor
      · simp only [numOk, e2, d2, Bool.and_true, Bool.and_eq_true, Bool.not_eq_true', decide_eq_true_eq, List.isEmpty_eq_false_iff]
        refine ⟨⟨d3, dl⟩, ?_⟩
        rcases Nat.eq_zero_or_pos n.natAbs with e0 | e0
        · rw [e0, Lib.decDigits_one (by omega)] at hl
          have hr : r = [] := by simp at hl; first | exact hl.2.symm | exact hl.2
          subst hr; simp
        · rw [beq_eq_false_iff_ne.2 (d4 e0)]; rfl
      · rw [atoi_cons, if_neg (by simpa using hb), if_neg (by simpa using hb2), Lib.decNat, if_neg (by simp), d1]; simp; omega
theorem itoa_chars (n : Int) : ∀ c ∈ Lib.itoa n, dig c = true ∨ c = 45 := fun c hc => by
  obtain ⟨_, d2, _, _⟩ := decNat_dec n.natAbs
  obtain ⟨_, e2, _, _⟩ := decNat_dec n.toNat
  unfold Lib.itoa at hc
  split at hc
  · rcases List.mem_cons.1 hc with h | h
    · exact .inr h
    · exact .inl (List.all_eq_true.1 d2 c h)
  · exact .inl (List.all_eq_true.1 e2 c hc)
theorem itoa_ne (n : Int) : Lib.itoa n ≠ [] := by
  unfold Lib.itoa; split
  · simp
  · exact (decNat_dec n.toNat).2.2.1
end Go.Proofs.YtonoknliloilfaaGreatDoor

/- Plain laws: tallies that are written are read as they were; what is read is written so. -/
import Derived.Test.YtonoknliloilfaaGreatDoorTx8
namespace Go.Proofs.YtonoknliloilfaaGreatDoor
open Go.RowKit

theorem spl_join (c : UInt8) : ∀ (ls : List (List UInt8)), ls ≠ [] → (∀ p ∈ ls, c ∉ p) → spl c (joinC c ls) = ls
  | [], h, _ => absurd rfl h
  | [p], _, h => spl_none c (h p (by simp))
  | p :: q :: r, _, h => by
    show spl c (p ++ c :: joinC c (q :: r)) = _
    rw [spl_append c _ (h p (by simp)), spl_join c (q :: r) (by simp) (fun x hx => h x (by simp at hx ⊢; right; exact hx))]
theorem flat_join (c : UInt8) : ∀ (ls : List (List UInt8)), ls ≠ [] → ls.flatMap (· ++ [c]) = joinC c ls ++ [c]
  | [], h => absurd rfl h
  | [p], _ => by simp [joinC]
  | p :: q :: r, _ => by
    have ih := flat_join c (q :: r) (by simp)
    show (p ++ [c]) ++ (q :: r).flatMap (· ++ [c]) = (p ++ c :: joinC c (q :: r)) ++ [c]
    rw [ih]; simp
theorem ends_snoc (p : List UInt8) : endsL (p ++ [10]) = true ∧ bodyL (p ++ [10]) = p := by
  have h : endsL (p ++ [10]) = true := by
    unfold endsL Lib.hasSuffix
    rw [List.isSuffixOf_iff_suffix]
    exact ⟨p, rfl⟩
  refine ⟨h, ?_⟩
  unfold bodyL Lib.trimSuffix
  rw [if_pos (show Lib.hasSuffix (p ++ [10]) [10] = true from h)]
  simp
theorem ends_eq {t : List UInt8} (h : endsL t = true) : t = bodyL t ++ [10] := by
  unfold endsL Lib.hasSuffix at h
  rw [List.isSuffixOf_iff_suffix] at h
  obtain ⟨p, rfl⟩ := h
  rw [(ends_snoc p).2]
theorem eachF_false {σ : Type} (step : σ → List UInt8 → Option σ) : ∀ (ls : List (List UInt8)) (i : Nat) (st st' : σ), eachF step false i ls st = .inr st' → ls = []
  | [], _, _, _, _ => rfl
  | p :: r, i, st, st', h => by
    exfalso
    unfold eachF at h
    split at h
    · cases h
    · rename_i hne
      split at h
      · cases h
      · have := eachF_false step r _ _ _ h
        subst this
        exact hne rfl
theorem eachF_all : ∀ (ls : List (List UInt8)) (i : Nat) (st : List Tal), (∀ p ∈ ls, lineOk p = true) → eachF lineF true i ls st = .inr (st ++ ls.map lineT)
  | [], _, st, _ => by simp [eachF]
  | p :: r, i, st, h => by
    unfold eachF
    rw [if_neg (by simp)]
    unfold lineF
    rw [if_pos (h p (by simp))]
    show eachF lineF true (i + 1) r (st ++ [lineT p]) = _
    rw [eachF_all r _ _ (fun q hq => h q (by simp [hq]))]
    simp
theorem eachF_inr : ∀ (ls : List (List UInt8)) (i : Nat) (st st' : List Tal), eachF lineF true i ls st = .inr st' → (∀ p ∈ ls, lineOk p = true) ∧ st' = st ++ ls.map lineT
  | [], _, st, st', h => by simp [eachF] at h; subst h; simp
  | p :: r, i, st, st', h => by
    unfold eachF at h
    rw [if_neg (by simp)] at h
    by_cases hl : lineOk p = true
    · have e : lineF st p = some (st ++ [lineT p]) := by unfold lineF; rw [if_pos hl]
      rw [e] at h
      obtain ⟨h1, h2⟩ := eachF_inr r _ _ _ h
      refine ⟨fun q hq => ?_, by rw [h2]; simp⟩
      rcases List.mem_cons.1 hq with rfl | hq
      · exact hl
      · exact h1 q hq
    · have e : lineF st p = none := by unfold lineF; rw [if_neg hl]
      rw [e] at h; cases h
theorem numV_itoa {a : List UInt8} (h : numOk a 10 = true) : Lib.itoa (numV a 10) = a := by
  obtain ⟨n, h1, h2, _⟩ := numOk_read h
  unfold numV
  rw [if_pos h, h1]; exact h2
theorem line_back {p : List UInt8} (h : lineOk p = true) : talLine (lineT p) = p ++ [10] := by
  have hj := join_spl 32 p
  unfold lineOk wordsOk at h
  simp only [Bool.and_eq_true, decide_eq_true_eq] at h
  obtain ⟨⟨hl, _⟩, hn⟩ := h
  unfold talLine lineT
  match hs : spl 32 p, hl with
  | [a, b, c, d], _ =>
    rw [hs] at hn hj
    simp only [List.all_cons, List.all_nil, Bool.and_eq_true] at hn
    show Lib.itoa (numV a 10) ++ [32] ++ Lib.itoa (numV b 10) ++ [32] ++ Lib.itoa (numV c 10) ++ [32] ++ Lib.itoa (numV d 10) ++ [10] = _
    rw [numV_itoa hn.1, numV_itoa hn.2.1, numV_itoa hn.2.2.1, numV_itoa hn.2.2.2.1, ← hj]
    simp [joinC]
def rawLine (t : Tal) : List UInt8 := joinC 32 [Lib.itoa t.x, Lib.itoa t.y, Lib.itoa t.h, Lib.itoa t.m]
theorem talLine_raw (t : Tal) : talLine t = rawLine t ++ [10] := by simp [talLine, rawLine, joinC]
theorem itoa_no {n : Int} {c : UInt8} (h1 : dig c = false) (h2 : c ≠ 45) : c ∉ Lib.itoa n := fun hm => by
  rcases itoa_chars n c hm with h | h
  · rw [h1] at h; cases h
  · exact h2 h
theorem raw_spl (t : Tal) : spl 32 (rawLine t) = [Lib.itoa t.x, Lib.itoa t.y, Lib.itoa t.h, Lib.itoa t.m] :=
  spl_join 32 _ (by simp) (fun p hp => by
    simp only [List.mem_cons, List.not_mem_nil, or_false] at hp
    rcases hp with rfl | rfl | rfl | rfl <;> exact itoa_no (by decide) (by decide))
theorem raw_no (t : Tal) : (10 : UInt8) ∉ rawLine t := by
  have h : ∀ n : Int, (10 : UInt8) ∉ Lib.itoa n := fun n => itoa_no (by decide) (by decide)
  simp [rawLine, joinC, h]
theorem raw_ok {t : Tal} (h : talBad t = false) : lineOk (rawLine t) = true ∧ lineT (rawLine t) = t := by
  obtain ⟨i1, i2, i3, i4, i5, i6, i7, i8⟩ := talBad_in h
  have w := fun (n : Int) (hn : n.natAbs < 10 ^ 10) => num_written (n := n) (k := 10) hn (by omega)
  have w1 := w t.x (by omega)
  have w2 := w t.y (by omega)
  have w3 := w t.h (by omega)
  have w4 := w t.m (by omega)
  constructor
  · unfold lineOk wordsOk
    rw [raw_spl]
    simp [w1.1, w2.1, w3.1, w4.1, itoa_ne]
  · unfold lineT
    rw [raw_spl]
    show Tal.mk (numV (Lib.itoa t.x) 10) (numV (Lib.itoa t.y) 10) (numV (Lib.itoa t.h) 10) (numV (Lib.itoa t.m) 10) = t
    unfold numV
    rw [if_pos w1.1, if_pos w2.1, if_pos w3.1, if_pos w4.1, w1.2, w2.2, w3.2, w4.2]
    rfl
theorem parse_text {l : List Tal} (h : checkTal l = 0) : parseT (talText l) = some l := by
  by_cases h0 : l = []
  · subst h0; rfl
  have hb : ∀ t ∈ l, talBad t = false := fun t ht => by
    obtain ⟨i, hi⟩ := List.mem_iff_getElem?.1 ht
    have hl : i < l.length := by
      rcases Nat.lt_or_ge i l.length with h | h
      · exact h
      · rw [List.getElem?_eq_none h] at hi; cases hi
    have := tal_in h hl
    rw [show l.getD i default = t by simp [List.getD, hi]] at this; exact this
  have e : talText l = joinC 10 (l.map rawLine) ++ [10] := by
    rw [← flat_join 10 _ (by simpa using h0)]
    unfold talText
    rw [List.flatMap_map]
    congr 1; funext t; exact talLine_raw t
  unfold parseT
  rw [if_neg (by rw [e]; simp), e, (ends_snoc _).1, (ends_snoc _).2, spl_join 10 _ (by simpa using h0) (fun p hp => by
    obtain ⟨t, _, rfl⟩ := List.mem_map.1 hp
    exact raw_no t), eachF_all _ _ _ (fun p hp => by
    obtain ⟨t, ht, rfl⟩ := List.mem_map.1 hp
    exact (raw_ok (hb t ht)).1)]
  simp only [List.nil_append, List.map_map, Option.some.injEq]
  conv => rhs; rw [← List.map_id l]
  exact List.map_congr_left fun t ht => (raw_ok (hb t ht)).2
theorem text_parse {t : List UInt8} {st : List Tal} (h : parseT t = some st) : talText st = t := by
  unfold parseT at h
  by_cases h0 : t = []
  · rw [if_pos h0] at h; cases h; subst h0; rfl
  rw [if_neg h0] at h
  obtain ⟨p, r, hs⟩ := spl_ne 10 (bodyL t)
  cases he : endsL t with
  | false =>
    rw [he] at h
    split at h
    · cases h
    · rename_i heq
      have := eachF_false _ _ _ _ _ heq
      rw [hs] at this; cases this
  | true =>
    rw [he] at h
    split at h
    · cases h
    · rename_i heq
      obtain ⟨h1, h2⟩ := eachF_inr _ _ _ _ heq
      simp only [Option.some.injEq] at h
      subst h
      rw [h2]
      have hne : spl 10 (bodyL t) ≠ [] := by rw [hs]; simp
      show talText ([] ++ (spl 10 (bodyL t)).map lineT) = t
      unfold talText
      rw [List.nil_append, List.flatMap_map]
      have e : ∀ (ls : List (List UInt8)), (∀ p ∈ ls, lineOk p = true) → ls.flatMap (fun p => talLine (lineT p)) = ls.flatMap (· ++ [10]) := fun ls => by
        induction ls with
        | nil => intro _; rfl
        | cons q r ih => intro hq; simp only [List.flatMap_cons]; rw [line_back (hq q (by simp)), ih (fun x hx => hq x (by simp [hx]))]
      rw [e _ h1, flat_join 10 _ hne, join_spl]
      exact (ends_eq he).symm
end Go.Proofs.YtonoknliloilfaaGreatDoor

/- The order of strings: what strings.Compare and the operators '<', '<=', '==' say. Conditions: none. -/
import Derived.Test.YtonoknliloilfaaGreatDoorRoad
import Derived.Test.YtonoknliloilfaaGreatDoorShelf
import Derived.Laws.Cover1
namespace Go.Proofs.YtonoknliloilfaaGreatDoor
open Go.RowKit

/-- what strings.Compare says -/
def cmpL : List UInt8 → List UInt8 → Int := Lib.compareBytes
def cmpS (a b : ByteArray) : Int := cmpL a.data.toList b.data.toList
theorem cmpL_in : ∀ a b, cmpL a b = -1 ∨ cmpL a b = 0 ∨ cmpL a b = 1
  | [], [] => Or.inr (Or.inl rfl)
  | [], _ :: _ => Or.inl rfl
  | _ :: _, [] => Or.inr (Or.inr rfl)
  | x :: a, y :: b => by
    show Lib.compareBytes (x :: a) (y :: b) = -1 ∨ Lib.compareBytes (x :: a) (y :: b) = 0 ∨ Lib.compareBytes (x :: a) (y :: b) = 1
    unfold Lib.compareBytes
    split
    · exact Or.inl rfl
    · split
      · exact Or.inr (Or.inr rfl)
      · exact cmpL_in a b
theorem cmpL_self : ∀ a, cmpL a a = 0
  | [] => rfl
  | x :: a => by
    show Lib.compareBytes (x :: a) (x :: a) = 0
    unfold Lib.compareBytes
    rw [if_neg (UInt8.lt_irrefl x), if_neg (UInt8.lt_irrefl x)]; exact cmpL_self a
theorem cmpL_eq : ∀ a b, cmpL a b = 0 → a = b
  | [], [], _ => rfl
  | [], _ :: _, h => by cases h
  | _ :: _, [], h => by cases h
  | x :: a, y :: b, h => by
    have h : Lib.compareBytes (x :: a) (y :: b) = 0 := h
    unfold Lib.compareBytes at h
    split at h
    · cases h
    · split at h
      · cases h
      · rename_i h1 h2
        have : x = y := UInt8.le_antisymm (UInt8.not_lt.1 h2) (UInt8.not_lt.1 h1)
        rw [this, cmpL_eq a b h]
theorem cmpL_neg : ∀ a b, cmpL b a = - cmpL a b
  | [], [] => rfl
  | [], _ :: _ => rfl
  | _ :: _, [] => rfl
  | x :: a, y :: b => by
    show Lib.compareBytes (y :: b) (x :: a) = - Lib.compareBytes (x :: a) (y :: b)
    unfold Lib.compareBytes
    by_cases h1 : x < y
    · have h2 : ¬ y < x := fun h => UInt8.lt_irrefl x (UInt8.lt_trans h1 h)
      simp [h1, h2]
    · by_cases h2 : y < x
      · simp [h1, h2]
      · simp only [h1, h2, if_false]; exact cmpL_neg a b
theorem cmpL_trans : ∀ a b c, cmpL a b < 0 → cmpL b c < 0 → cmpL a c < 0
  | [], [], _, h, _ => by cases h
  | _, _ :: _, [], _, h => by cases h
  | _, [], [], _, h => by cases h
  | _ :: _, [], _, h, _ => by cases h
  | [], _ :: _, _ :: _, _, _ => (by decide : (-1 : Int) < 0)
  | x :: a, y :: b, z :: c, h1, h2 => by
    have h1 : Lib.compareBytes (x :: a) (y :: b) < 0 := h1
    have h2 : Lib.compareBytes (y :: b) (z :: c) < 0 := h2
    show Lib.compareBytes (x :: a) (z :: c) < 0
    unfold Lib.compareBytes at h1 h2 ⊢
    by_cases e1 : x < y
    · by_cases e2 : y < z
      · rw [if_pos (UInt8.lt_trans e1 e2)]; decide
      · rw [if_neg e2] at h2
        by_cases e3 : z < y
        · rw [if_pos e3] at h2; cases h2
        · have : y = z := UInt8.le_antisymm (UInt8.not_lt.1 e3) (UInt8.not_lt.1 e2)
          rw [← this, if_pos e1]; decide
    · rw [if_neg e1] at h1
      by_cases e3 : y < x
      · rw [if_pos e3] at h1; cases h1
      · rw [if_neg e3] at h1
        have h1 : cmpL a b < 0 := h1
        have e : x = y := UInt8.le_antisymm (UInt8.not_lt.1 e3) (UInt8.not_lt.1 e1)
        rw [← e] at h2
        by_cases e2 : x < z
        · rw [if_pos e2]; decide
        · rw [if_neg e2] at h2 ⊢
          by_cases e4 : z < x
          · rw [if_pos e4] at h2; cases h2
          · rw [if_neg e4] at h2 ⊢; exact cmpL_trans a b c h1 h2
theorem bytesLess_cmp : ∀ a b, Op.bytesLess a b = decide (cmpL a b < 0)
  | [], [] => rfl
  | [], _ :: _ => rfl
  | _ :: _, [] => rfl
  | x :: a, y :: b => by
    show _ = decide (Lib.compareBytes (x :: a) (y :: b) < 0)
    unfold Lib.compareBytes Op.bytesLess
    by_cases h1 : x < y
    · simp [h1]
    · by_cases h2 : y < x
      · simp [h1, h2]
        first | done | (intro h; subst h; exact absurd h2 (UInt8.lt_irrefl x))
      · have e : x = y := UInt8.le_antisymm (UInt8.not_lt.1 h2) (UInt8.not_lt.1 h1)
        subst e
        simp only [h1, if_false]
        have := bytesLess_cmp a b
        unfold cmpL at this
        simp [this]
theorem ba_ext {a b : ByteArray} (h : a.data.toList = b.data.toList) : a = b := by
  cases a; cases b; simp only [ByteArray.mk.injEq]; exact Array.toList_inj.1 h
theorem cmpS_eq0 (a b : ByteArray) : cmpS a b = 0 ↔ a = b := ⟨fun h => ba_ext (cmpL_eq _ _ h), fun h => by rw [h]; exact cmpL_self _⟩
theorem cmpS_neg (a b : ByteArray) : cmpS b a = - cmpS a b := cmpL_neg _ _
theorem cmpS_trans {a b c : ByteArray} (h : cmpS a b < 0) (k : cmpS b c < 0) : cmpS a c < 0 := cmpL_trans _ _ _ h k
theorem cmpS_in (a b : ByteArray) : cmpS a b = -1 ∨ cmpS a b = 0 ∨ cmpS a b = 1 := cmpL_in _ _
theorem less_cmpS (a b : ByteArray) : Op.bytesLess a.toList b.toList = decide (cmpS a b < 0) := by rw [bytesLess_cmp, ba_toList, ba_toList]; rfl
theorem eq_cmpS (a b : ByteArray) : (a.toList == b.toList) = decide (a = b) := by
  rw [ba_toList, ba_toList]
  by_cases h : a = b
  · subst h; simp
  · have : ¬ a.data.toList = b.data.toList := fun e => h (ba_ext e)
    simp [h]; first | done | exact fun e => h (ba_ext (by rw [e]))
theorem leq_cmpS (a b : ByteArray) : (Op.bytesLess a.toList b.toList || a.toList == b.toList) = decide (cmpS a b ≤ 0) := by
  rw [less_cmpS, eq_cmpS]
  by_cases h : a = b
  · have := (cmpS_eq0 a b).2 h
    simp [h]; first | done | (rw [h] at this; omega)
  · have : cmpS a b ≠ 0 := fun e => h ((cmpS_eq0 a b).1 e)
    simp only [h, decide_false, Bool.or_false]
    exact decide_eq_decide.2 (by omega)

theorem compareS_any (a b : ByteArray) (w : World) : Calls Tryz.prog 53 #[.string a, .string b] w fun e w' => e = .returned (.int .i64 (cmpS a b)) ∧ w = w' :=
  (Tryz.strings_Compare a b w).mono fun _ _ h => ⟨h.1, h.2.symm⟩
end Go.Proofs.YtonoknliloilfaaGreatDoor

/- Contracts of texts: what they read of the package's variables; numbers written; strings split. -/
import Derived.Test.YtonoknliloilfaaGreatDoorTxt
import Derived.Test.YtonoknliloilfaaGreatDoorShB
import Derived.Test.YtonoknliloilfaaGreatDoorKey
import Derived.Test.YtonoknliloilfaaGreatDoorOwn
import Derived.Lib.AtoiErrMem
namespace Go.Proofs.YtonoknliloilfaaGreatDoor
open Go.RowKit

def str (l : List UInt8) : ByteArray := ⟨l.toArray⟩
theorem str_data (l : List UInt8) : (str l).data.toList = l := rfl
theorem str_toList (l : List UInt8) : (str l).toList = l := by rw [ba_toList]; rfl
theorem str_size (l : List UInt8) : (str l).size = l.length := by show l.toArray.size = _; simp
theorem str_of (s : ByteArray) : str s.data.toList = s := by cases s; rfl
theorem size_list (s : ByteArray) : s.size = s.data.toList.length := Lib.size_eq s

/-- what texts read of the packages' variables -/
structure Env (w : World) : Prop where
  ml : ∃ m, w.cell? ⟨0, 0, none⟩ = some (.int .i64 m)
  tab : Lib.TabIs Tryz.prog w "internal/strconv.uint64pow10" .u64 Lib.pow10Tab
theorem gPow : Tryz.prog.globalNamed "internal/strconv.uint64pow10" = some 5 := by kernel_rfl
theorem Env.lt {w : World} (h : Env w) : 0 < w.heap.size ∧ 5 < w.heap.size := by
  obtain ⟨⟨m, hm⟩, ht⟩ := h
  refine ⟨World.block_lt_of_cell? w _ hm, ?_⟩
  unfold Lib.TabIs World.var? at ht
  rw [gPow] at ht
  simp only [Option.bind_some] at ht
  rcases Nat.lt_or_ge 5 w.heap.size with h' | h'
  · exact h'
  · rw [Array.getElem?_eq_none h'] at ht; cases ht
theorem Env.keep {S : List Nat} {w w' : World} (h : Env w) (k : Keep S w w') (hS : ∀ s ∈ S, 0 < s ∧ 5 < s) : Env w' := by
  have hl := h.lt
  obtain ⟨⟨m, hm⟩, ht⟩ := h
  refine ⟨⟨m, k.known hm (fun hs => by have := hS _ hs; simp at this)⟩, ?_⟩
  unfold Lib.TabIs World.var? at ht ⊢
  rw [gPow] at ht ⊢
  simp only [Option.bind_some] at ht ⊢
  rw [k.block _ hl.2 (fun hs => by have := hS _ hs; omega)]; exact ht
theorem Env.keep0 {w w' : World} (h : Env w) (k : Keep [] w w') : Env w' := h.keep k (by simp)
theorem Env.keepHi {S : List Nat} {w w' w0 : World} (h : Env w) (k : Keep S w w') (h0 : Env w0) (hS : ∀ s ∈ S, w0.heap.size ≤ s) : Env w' := h.keep k (fun s hs => by have := h0.lt; have := hS s hs; omega)

theorem keep_growN (w : World) (k : Nat) (os : Array Obj) : Keep [] w (Sort.grow (w.drewN k) os) :=
  ⟨rfl, rfl, rfl, by show w.heap.size ≤ (w.heap ++ os).size; simp, fun i hi _ => by show (w.heap ++ os)[i]? = _; rw [Array.getElem?_append_left hi]⟩
theorem itoa_any (n : Int) (w : World) (hE : Env w) (h0 : -9223372036854775808 ≤ n) (h1 : n ≤ 9223372036854775807) :
    Calls Tryz.prog 14 #[.int .i64 n] w fun e w' => e = .returned (.string (str (Lib.itoa n))) ∧ Keep [] w w' :=
  (Tryz.strconv_Itoa n h0 h1 w hE.tab).mono fun e w' ⟨he, k, os, hw⟩ => ⟨he, by subst hw; exact keep_growN w k os⟩

def strVals (l : List (List UInt8)) : Array Value := (l.map fun p => Value.string (str p)).toArray
theorem split_any (s : ByteArray) (c : UInt8) (w : World) (hE : Env w) (hs : s.size < 4294967281) :
    Calls Tryz.prog 37 #[.string s, .string ⟨#[c]⟩] w fun e w' => e = .returned (.slice (some ⟨w.heap.size, 0, none⟩) (spl c s.data.toList).length (spl c s.data.toList).length) ∧ w.alloc (.cells (strVals (spl c s.data.toList)) 9) = w' := by
  obtain ⟨m, hm⟩ := hE.ml
  refine (Tryz.strings_Split s ⟨#[c]⟩ m w hs hm (Nat.le_refl 1)).mono fun e w' ⟨he, hw⟩ => ?_
  have h1 : (Lib.splitB ⟨#[c]⟩ 0 (Lib.countB s ⟨#[c]⟩) s).map (·.data.toList) = spl c s.data.toList := by rw [Lib.splitB_data]; exact split_spl c s.data.toList
  have h2 : Lib.countB s ⟨#[c]⟩ + 1 = (spl c s.data.toList).length := by
    rw [← h1, List.length_map, Lib.splitB_all ⟨#[c]⟩ (Nat.le_refl 1) 0 _ s rfl]
  have h3 : ((Lib.splitB ⟨#[c]⟩ 0 (Lib.countB s ⟨#[c]⟩) s).map Value.string).toArray = strVals (spl c s.data.toList) := by
    unfold strVals; rw [← h1, List.map_map]
    congr 1; first | done | exact List.map_congr_left fun a _ => by show _ = Value.string (str a.data.toList); rw [str_of]
  rw [h2] at he
  rw [h3] at hw
  exact ⟨he, hw.symm⟩

theorem trimM_eq (l : List UInt8) : Lib.trimPrefix l [45] = trimM l := by
  cases l with
  | nil => rfl
  | cons b r =>
    by_cases h : b = 45
    · subst h; simp [Lib.trimPrefix, Lib.hasPrefix, trimM, List.isPrefixOf]
    · simp [Lib.trimPrefix, Lib.hasPrefix, trimM, List.isPrefixOf, h, Ne.symm h]
theorem trim_any (s : List UInt8) (w : World) : Calls Tryz.prog 63 #[.string (str s), .string ⟨#[45]⟩] w fun e w' => e = .returned (.string (str (trimM s))) ∧ w = w' :=
  (Tryz.strings_TrimPrefix (str s) ⟨#[45]⟩ w).mono fun e w' ⟨he, hw⟩ => ⟨by rw [he, str_data]; show Ending.returned (.string (str (Lib.trimPrefix s [45]))) = _; rw [trimM_eq], hw.symm⟩
theorem keep_bytes (w : World) (T : TypeId) (t : ByteArray) : Keep [] w (Lib.bytesWorld w T t) := by
  exact Keep.ofBelow (Lib.bytesWorld_below w T t)
theorem atoi_any (s : List UInt8) (n : Int) (w : World) (hl : s.length ≤ 18) (h : Lib.atoi s = some n) :
    Calls Tryz.prog 64 #[.string (str s)] w fun e w' => e = .returned (.tuple #[.int .i64 n, .nilIface]) ∧ Keep [] w w' :=
  (Tryz.strconv_Atoi (str s) n (by rw [str_size]; exact hl) h w).mono fun e w' ⟨he, t, hw⟩ => ⟨he, by subst hw; exact keep_bytes _ _ _⟩
end Go.Proofs.YtonoknliloilfaaGreatDoor

/- Contracts of the checks of package road: points, moments, node, arc, nodesFault. -/
import Derived.Test.YtonoknliloilfaaGreatDoorStr
import Derived.Test.YtonoknliloilfaaGreatDoorBsN
import Derived.Test.YtonoknliloilfaaGreatDoorBsA
namespace Go.Proofs.YtonoknliloilfaaGreatDoor
open Go.RowKit

set_option maxHeartbeats 400000 in
theorem isPointR_any (x y : Int) (w : World) :
    Calls Tryz.prog 117 #[.int .i64 x, .int .i64 y] w fun e w' => e = .returned (.bool (isPtB x y)) ∧ w = w' := by
  by_cases h : outB x (-10000) 10000 = true
  · have hb := Lib.hid h
    go_enter Tryz.func117, Tryz.ntmps117
    go_wp2_with (go_at_call 31; refine (out_any _ _ _ _).mono ?_; rintro e w' ⟨rfl, rfl⟩)
    go_ret; exact ⟨ret_bool (by simp [isPtB, hb.out]), rfl⟩
  · have h' : outB x (-10000) 10000 = false := by simpa using h
    have hb := Lib.hid h'
    clear h
    go_enter Tryz.func117, Tryz.ntmps117
    go_wp2_with (go_at_call 31; refine (out_any _ _ _ _).mono ?_; rintro e w' ⟨rfl, rfl⟩)
    go_ret; exact ⟨ret_bool (by simp [isPtB, hb.out]), rfl⟩

def momB (n : Int) : Bool := !outB n 0 345686399999
set_option maxHeartbeats 400000 in
theorem moment_any (n : Int) (w : World) : Calls Tryz.prog 46 #[.int .i64 n] w fun e w' => e = .returned (.bool (momB n)) ∧ w = w' := by
  go_enter Tryz.func46, Tryz.ntmps46
  go_wp2_with (go_at_call 31; refine (out_any _ _ _ _).mono ?_; rintro e w' ⟨rfl, rfl⟩)
  go_ret; exact ⟨ret_bool (by simp [momB]), rfl⟩

/-- keys that rise -/
def Rise (key : Nat → ByteArray) (n : Nat) : Prop := ∀ i, i + 1 < n → cmpS (key i) (key (i + 1)) < 0
theorem Rise.lt {key : Nat → ByteArray} {n : Nat} (h : Rise key n) : ∀ (d i : Nat), i + d + 1 < n → cmpS (key i) (key (i + d + 1)) < 0
  | 0, i, hi => h i hi
  | d + 1, i, hi => cmpS_trans (h.lt d i (by omega)) (h (i + d + 1) (by omega))
theorem Rise.mono {key : Nat → ByteArray} {n : Nat} (h : Rise key n) (t : ByteArray) : ∀ a b, a ≤ b → b < n → cmpS (key b) t < 0 → cmpS (key a) t < 0 := fun a b hab hb hc => by
  by_cases e : a = b
  · rw [e]; exact hc
  · obtain ⟨d, rfl⟩ : ∃ d, b = a + d + 1 := ⟨b - a - 1, by omega⟩
    exact cmpS_trans (h.lt d a hb) hc
/-- the place of a key among keys, or -1 -/
def atF (key : Nat → ByteArray) (t : ByteArray) : Nat → Int
  | 0 => -1
  | n + 1 => if key n = t then n else atF key t n
theorem atF_none {key : Nat → ByteArray} {t : ByteArray} : ∀ {n : Nat}, (∀ i, i < n → key i ≠ t) → atF key t n = -1
  | 0, _ => rfl
  | n + 1, h => by rw [atF, if_neg (h n (by omega)), atF_none fun i hi => h i (by omega)]
theorem atF_at {key : Nat → ByteArray} {t : ByteArray} {i : Nat} : ∀ {n : Nat}, i < n → key i = t → (∀ j, i < j → j < n → key j ≠ t) → atF key t n = i
  | 0, h, _, _ => by omega
  | n + 1, h, hk, hn => by
    rw [atF]
    by_cases e : i = n
    · subst e; rw [if_pos hk]
    · rw [if_neg (hn n (by omega) (by omega)), atF_at (by omega) hk fun j h1 h2 => hn j h1 (by omega)]
theorem atF_in (key : Nat → ByteArray) (t : ByteArray) : ∀ n : Nat, -1 ≤ atF key t n ∧ atF key t n < n
  | 0 => by unfold atF; omega
  | n + 1 => by have := atF_in key t n; unfold atF; split <;> omega
theorem atF_key (key : Nat → ByteArray) (t : ByteArray) : ∀ n : Nat, 0 ≤ atF key t n → key (atF key t n).toNat = t
  | 0, h => by unfold atF at h; omega
  | n + 1, h => by
    unfold atF at h ⊢
    split
    · rename_i e; simpa using e
    · rename_i e; rw [if_neg e] at h; exact atF_key key t n h
/-- what slices.BinarySearchFunc finds among keys that rise -/
theorem Rise.found {key : Nat → ByteArray} {n i : Nat} {t : ByteArray} (h : Rise key n) (f : Found (fun j => cmpS (key j) t) n i) :
    atF key t n = if (decide (i < n) && decide (cmpS (key i) t = 0)) = true then (i : Int) else -1 := by
  obtain ⟨hi, h1, h2⟩ := f
  by_cases hlt : i < n
  · by_cases he : cmpS (key i) t = 0
    · rw [if_pos (by simp [hlt, he])]
      refine atF_at hlt ((cmpS_eq0 _ _).1 he) fun j hj hjn e => ?_
      obtain ⟨d, rfl⟩ : ∃ d, j = i + d + 1 := ⟨j - i - 1, by omega⟩
      have := h.lt d i hjn
      rw [e, he] at this; omega
    · rw [if_neg (by simp [hlt, he])]
      refine atF_none fun j hj e => ?_
      have hz := (cmpS_eq0 _ _).2 e
      by_cases hji : j < i
      · have := h1 j hji; dsimp only at this; omega
      · have hii := h2 i (Nat.le_refl _) hlt
        dsimp only at hii
        by_cases e2 : j = i
        · rw [e2] at hz; exact he hz
        · obtain ⟨d, rfl⟩ : ∃ d, j = i + d + 1 := ⟨j - i - 1, by omega⟩
          have := h.lt d i hj
          rw [e] at this; omega
  · rw [if_neg (by simp [hlt])]
    refine atF_none fun j hj e => ?_
    have hz := (cmpS_eq0 _ _).2 e
    have := h1 j (by omega); dsimp only at this; omega

set_option maxHeartbeats 400000 in
theorem node1_any (k : ByteArray) (x y : Int) (t : ByteArray) (w : World) :
    Calls Tryz.prog 119 #[.agg #[.string k, .int .i64 x, .int .i64 y], .string t] w fun e w' => e = .returned (.int .i64 (cmpS k t)) ∧ Keep [] w w' := by
  go_enter Tryz.func119, Tryz.ntmps119
  go_wp2_with (go_at_call 53; refine (compareS_any _ _ _).mono ?_; rintro e w' ⟨rfl, rfl⟩)
  go_ret
  exact ⟨rfl, (by repeat (first | with_reducible assumption | with_reducible apply Keep.drew | with_reducible apply Keep.drewN | with_reducible apply Keep.alloc | with_reducible exact Keep.refl _ _))⟩
set_option maxHeartbeats 400000 in
theorem arc1_any (k f o : ByteArray) (x : Int) (p : Option Addr) (n c : Nat) (t : ByteArray) (w : World) :
    Calls Tryz.prog 121 #[.agg #[.string k, .string f, .string o, .int .i64 x, .slice p n c], .string t] w fun e w' => e = .returned (.int .i64 (cmpS k t)) ∧ Keep [] w w' := by
  go_enter Tryz.func121, Tryz.ntmps121
  go_wp2_with (go_at_call 53; refine (compareS_any _ _ _).mono ?_; rintro e w' ⟨rfl, rfl⟩)
  go_ret
  exact ⟨rfl, (by repeat (first | with_reducible assumption | with_reducible apply Keep.drew | with_reducible apply Keep.drewN | with_reducible apply Keep.alloc | with_reducible exact Keep.refl _ _))⟩

def ndKey (l : List Nd) (i : Nat) : ByteArray := (l.getD i default).key
def acKey (l : List Ac) (i : Nat) : ByteArray := (l.getD i default).key

set_option maxHeartbeats 1000000 in
theorem node_any (br b off n cap : Nat) (l : List Nd) (key : ByteArray) (w : World) (hn : Hid (l.length = n)) (hm : n ≤ 1000000) (hc : Row encNd 3 w b off l) (hb : b < w.heap.size)
    (h0 : w.cell? ⟨br, 0, none⟩ = some (.slice (some ⟨b, off, none⟩) n cap)) (hr : Rise (ndKey l) n) :
    Calls Tryz.prog 74 #[.pointer (some ⟨br, 0, none⟩), .string key] w fun e w' => e = .returned (.int .i64 (atF (ndKey l) key n)) ∧ Keep [] w w' := by
  have hbs : ∀ W, Keep [] w W → Calls Tryz.prog 118 #[.slice (some ⟨b, off, none⟩) n cap, .string key, .func (.func 119) #[] #[]] W
      fun e w' => (∃ (i : Nat) (q : Bool), Hid (atF (ndKey l) key n = if q = true then (i : Int) else -1) ∧ e = .returned (.tuple #[.int .i64 i, .bool q])) ∧ Keep [] W w' := fun W kp =>
    (bsNode_any b off n cap l W hn hm (hc.keep (S := []) kp hb (by simp)) (Nat.lt_of_lt_of_le hb kp.size) 119 #[] (.string key) (fun i => cmpS (ndKey l i) key) (enters_of Tryz.func119 (by kernel_rfl) rfl) (fun i w' _ _ => node1_any _ _ _ _ _) (hr.mono key)).mono
      fun e w' h => by
        obtain ⟨⟨i, hf, rfl⟩, hk⟩ := h
        exact ⟨⟨i, _, hr.found hf, rfl⟩, hk⟩
  clear hr hc
  go_enter Tryz.func74, Tryz.ntmps74
  go_wp2_with (go_at_call 118; refine (hbs _ (by repeat (first | with_reducible assumption | with_reducible apply Keep.drew | with_reducible apply Keep.drewN | with_reducible apply Keep.alloc | with_reducible exact Keep.refl _ _))).mono ?_; rintro e w' ⟨⟨i, q, hf, rfl⟩, hk⟩; cases q)
  all_goals go_wp2_with fail
  all_goals go_ret
  all_goals exact ⟨ret_int (by rw [hf.out]; simp), (by repeat (first | with_reducible assumption | with_reducible apply Keep.drew | with_reducible apply Keep.drewN | with_reducible apply Keep.alloc | with_reducible exact Keep.refl _ _))⟩
set_option maxHeartbeats 1000000 in
theorem arc_any (br b off n cap : Nat) (l : List Ac) (key : ByteArray) (w : World) (hn : Hid (l.length = n)) (hm : n ≤ 1000000) (hc : Row encAc 5 w b off l) (hb : b < w.heap.size)
    (h0 : w.cell? ⟨br, 1, none⟩ = some (.slice (some ⟨b, off, none⟩) n cap)) (hr : Rise (acKey l) n) :
    Calls Tryz.prog 76 #[.pointer (some ⟨br, 0, none⟩), .string key] w fun e w' => e = .returned (.int .i64 (atF (acKey l) key n)) ∧ Keep [] w w' := by
  have hbs : ∀ W, Keep [] w W → Calls Tryz.prog 120 #[.slice (some ⟨b, off, none⟩) n cap, .string key, .func (.func 121) #[] #[]] W
      fun e w' => (∃ (i : Nat) (q : Bool), Hid (atF (acKey l) key n = if q = true then (i : Int) else -1) ∧ e = .returned (.tuple #[.int .i64 i, .bool q])) ∧ Keep [] W w' := fun W kp =>
    (bsArc_any b off n cap l W hn hm (hc.keep (S := []) kp hb (by simp)) (Nat.lt_of_lt_of_le hb kp.size) 121 #[] (.string key) (fun i => cmpS (acKey l i) key) (enters_of Tryz.func121 (by kernel_rfl) rfl) (fun i w' _ _ => arc1_any _ _ _ _ _ _ _ _ _) (hr.mono key)).mono
      fun e w' h => by
        obtain ⟨⟨i, hf, rfl⟩, hk⟩ := h
        exact ⟨⟨i, _, hr.found hf, rfl⟩, hk⟩
  clear hr hc
  go_enter Tryz.func76, Tryz.ntmps76
  go_wp2_with (go_at_call 120; refine (hbs _ (by repeat (first | with_reducible assumption | with_reducible apply Keep.drew | with_reducible apply Keep.drewN | with_reducible apply Keep.alloc | with_reducible exact Keep.refl _ _))).mono ?_; rintro e w' ⟨⟨i, q, hf, rfl⟩, hk⟩; cases q)
  all_goals go_wp2_with fail
  all_goals go_ret
  all_goals exact ⟨ret_int (by rw [hf.out]; simp), (by repeat (first | with_reducible assumption | with_reducible apply Keep.drew | with_reducible apply Keep.drewN | with_reducible apply Keep.alloc | with_reducible exact Keep.refl _ _))⟩


def ndErr (l : List Nd) (i : Nat) : Int :=
  if keyB (l.getD i default).key = false then 5 else if 0 < i ∧ cmpS (ndKey l i) (ndKey l (i - 1)) ≤ 0 then 7 else if isPtB (l.getD i default).x (l.getD i default).y = false then 1 else 0
def ndsErr (l : List Nd) : Int := if 500 < l.length then 2 else firstErr (ndErr l) l.length
set_option maxHeartbeats 4000000 in
theorem nodesFault_any (b off n cap : Nat) (l : List Nd) (w : World) (hn : Hid (l.length = n)) (hm : n ≤ 1000000) (hs : ∀ i, (l.getD i default).key.size ≤ 9223372036854775807) (hc : Row encNd 3 w b off l) (hb : b < w.heap.size) :
    Calls Tryz.prog 72 #[.slice (some ⟨b, off, none⟩) n cap] w fun e w' => e = .returned (.int .i64 (ndsErr l)) ∧ Keep [] w w' := by
  have HC := Lib.hid hc; clear hc
  have HS := Lib.hid hs; clear hs
  by_cases hbig : 500 < n
  · go_enter Tryz.func72, Tryz.ntmps72
    go_wp2_with fail
    go_ret
    exact ⟨ret_int (by rw [ndsErr, if_pos (by rw [hn.out]; exact hbig)]), Keep.refl _ _⟩
  go_enter Tryz.func72, Tryz.ntmps72
  go_wp2_with fail
  go_loopw [10] (fun i wr => ∃ k : Nat, k ≤ n ∧ i = .int .i64 k ∧ Keep [] w wr ∧ Hid (∀ j, j < k → ndErr l j = 0)) (fun i wr => n - (intOf i).toNat)
  case atStart => exact ⟨0, Nat.zero_le _, rfl, Keep.refl _ _, fun j hj => by omega⟩
  case round =>
    obtain ⟨k, hk, rfl, kp, hz⟩ := hrel
    by_cases hlt : k < n
    · have row := HC.out.keep kp hb (by simp)
      obtain ⟨t, ht⟩ : ∃ t, l.getD k default = t := ⟨_, rfl⟩
      have c0 : wr.cell? ⟨b, off + k * 3, none⟩ = some (.string t.key) := row.known 0 (by rw [hn.out]; omega) (by omega) (by rw [ht]; rfl) wr (Keep.refl _ _)
      have c1 : wr.cell? ⟨b, off + k * 3 + 1, none⟩ = some (.int .i64 t.x) := row.known 1 (by rw [hn.out]; omega) (by omega) (by rw [ht]; rfl) wr (Keep.refl _ _)
      have c2 : wr.cell? ⟨b, off + k * 3 + 2, none⟩ = some (.int .i64 t.y) := row.known 2 (by rw [hn.out]; omega) (by omega) (by rw [ht]; rfl) wr (Keep.refl _ _)
      have HT := Lib.hid ht
      have hsk := HS.out k; rw [ht] at hsk
      have HF : Hid (ndErr l k ≠ 0 → ndsErr l = ndErr l k) := fun he => by rw [ndsErr, if_neg (by rw [hn.out]; omega), firstErr_at hz.out (by rw [hn.out]; exact hlt) he]
      by_cases hkey : keyB t.key = true
      · by_cases hord : 0 < k ∧ cmpS (ndKey l k) (ndKey l (k - 1)) ≤ 0
        · obtain ⟨u, hu⟩ : ∃ u, l.getD (k - 1) default = u := ⟨_, rfl⟩
          have d0 : ∀ w', Keep [] wr w' → w'.cell? ⟨b, off + (k - 1) * 3, none⟩ = some (.string u.key) := row.known 0 (by rw [hn.out]; omega) (by omega) (by rw [hu]; rfl)
          have hleq : (Op.bytesLess t.key.toList u.key.toList || t.key.toList == u.key.toList) = true := by
            rw [leq_cmpS]; have := hord.2; unfold ndKey at this; rw [ht, hu] at this; simpa using this
          have HE : Hid (ndErr l k = 7) := by show _ = _; unfold ndErr; rw [ht, hkey, if_neg (by decide), if_pos hord]
          have hk2 : decide ((0 : Int) < (k : Int)) = true := by simp; omega
          have hk3 : decide (0 < k) = true := by simp; omega
          have hk4 : 1 ≤ k := by omega
          have hk5 : IntKind.i64.wrap ((k : Int) - 1) = ((k - 1 : Nat) : Int) := by rw [IntWalk.i64_in _ (by omega)]; omega
          have hk6 : k - 1 < n := by omega
          clear ht hu row hord
          go_wp2_with (go_at_call 73; refine (key_any _ _ hsk).mono ?_; rintro e w' ⟨rfl, rfl⟩)
          go_quiet (fail)
          go_wp2_with fail
          go_ret
          exact ⟨ret_int (by rw [HF.out (by rw [HE.out]; decide), HE.out]), (by repeat (first | with_reducible assumption | with_reducible apply Keep.drew | with_reducible apply Keep.drewN | with_reducible apply Keep.alloc | with_reducible exact Keep.refl _ _))⟩
        · by_cases hpt : isPtB t.x t.y = true
          · have HE : Hid (ndErr l k = 0) := by show _ = _; unfold ndErr; rw [ht, hkey, if_neg (by decide), if_neg hord, hpt]; rfl
            have hnext : Hid (∀ j, j < k + 1 → ndErr l j = 0) := fun j hj => by
              by_cases e : j = k
              · rw [e]; exact HE.out
              · exact hz.out j (by omega)
            by_cases hk0 : k = 0
            · have hk1 : k ≤ 0 := by omega
              have hk2 : decide ((0 : Int) < (k : Int)) = false := by simp; omega
              have hk3 : decide (0 < k) = false := by simp; omega
              clear ht row hord hk0
              go_wp2_with (first | (go_at_call 73; refine (key_any _ _ hsk).mono ?_; rintro e w' ⟨rfl, rfl⟩) | (go_at_call 117; refine (isPointR_any _ _ _).mono ?_; rintro e w' ⟨rfl, rfl⟩))
              go_quiet (fail)
              go_wp2_with (go_at_call 117; refine (isPointR_any _ _ _).mono ?_; rintro e w' ⟨rfl, rfl⟩)
              refine ⟨?_, ?measure⟩
              case measure => simp [intOf]; omega
              first | exact ⟨k + 1, by omega, by go_num, (by repeat (first | with_reducible assumption | with_reducible apply Keep.drew | with_reducible apply Keep.drewN | with_reducible apply Keep.alloc | with_reducible exact Keep.refl _ _)), hnext⟩ | ((repeat apply Exists.intro); refine ⟨?_, rfl⟩; exact ⟨k + 1, by omega, by go_num, (by repeat (first | with_reducible assumption | with_reducible apply Keep.drew | with_reducible apply Keep.drewN | with_reducible apply Keep.alloc | with_reducible exact Keep.refl _ _)), hnext⟩)
            · obtain ⟨u, hu⟩ : ∃ u, l.getD (k - 1) default = u := ⟨_, rfl⟩
              have d0 : ∀ w', Keep [] wr w' → w'.cell? ⟨b, off + (k - 1) * 3, none⟩ = some (.string u.key) := row.known 0 (by rw [hn.out]; omega) (by omega) (by rw [hu]; rfl)
              have hleq : (Op.bytesLess t.key.toList u.key.toList || t.key.toList == u.key.toList) = false := by
                rw [leq_cmpS]; have : ¬ cmpS (ndKey l k) (ndKey l (k - 1)) ≤ 0 := fun h => hord ⟨by omega, h⟩
                unfold ndKey at this; rw [ht, hu] at this; simpa using this
              have hk2 : decide ((0 : Int) < (k : Int)) = true := by simp; omega
              have hk3 : decide (0 < k) = true := by simp; omega
              have hk4 : 1 ≤ k := by omega
              have hk5 : IntKind.i64.wrap ((k : Int) - 1) = ((k - 1 : Nat) : Int) := by rw [IntWalk.i64_in _ (by omega)]; omega
              have hk6 : k - 1 < n := by omega
              clear ht hu row hord hk0
              go_wp2_with (go_at_call 73; refine (key_any _ _ hsk).mono ?_; rintro e w' ⟨rfl, rfl⟩)
              go_quiet (fail)
              go_wp2_with (go_at_call 117; refine (isPointR_any _ _ _).mono ?_; rintro e w' ⟨rfl, rfl⟩)
              refine ⟨?_, ?measure⟩
              case measure => simp [intOf]; omega
              first | exact ⟨k + 1, by omega, by go_num, (by repeat (first | with_reducible assumption | with_reducible apply Keep.drew | with_reducible apply Keep.drewN | with_reducible apply Keep.alloc | with_reducible exact Keep.refl _ _)), hnext⟩ | ((repeat apply Exists.intro); refine ⟨?_, rfl⟩; exact ⟨k + 1, by omega, by go_num, (by repeat (first | with_reducible assumption | with_reducible apply Keep.drew | with_reducible apply Keep.drewN | with_reducible apply Keep.alloc | with_reducible exact Keep.refl _ _)), hnext⟩)
          · have hpt : isPtB t.x t.y = false := by simpa using hpt
            have HE : Hid (ndErr l k = 1) := by show _ = _; unfold ndErr; rw [ht, hkey, if_neg (by decide), if_neg hord, hpt]; rfl
            by_cases hk0 : k = 0
            · have hk1 : k ≤ 0 := by omega
              have hk2 : decide ((0 : Int) < (k : Int)) = false := by simp; omega
              have hk3 : decide (0 < k) = false := by simp; omega
              clear ht row hord hk0
              go_wp2_with (first | (go_at_call 73; refine (key_any _ _ hsk).mono ?_; rintro e w' ⟨rfl, rfl⟩) | (go_at_call 117; refine (isPointR_any _ _ _).mono ?_; rintro e w' ⟨rfl, rfl⟩))
              go_quiet (fail)
              go_wp2_with (go_at_call 117; refine (isPointR_any _ _ _).mono ?_; rintro e w' ⟨rfl, rfl⟩)
              go_ret
              exact ⟨ret_int (by rw [HF.out (by rw [HE.out]; decide), HE.out]), (by repeat (first | with_reducible assumption | with_reducible apply Keep.drew | with_reducible apply Keep.drewN | with_reducible apply Keep.alloc | with_reducible exact Keep.refl _ _))⟩
            · obtain ⟨u, hu⟩ : ∃ u, l.getD (k - 1) default = u := ⟨_, rfl⟩
              have d0 : ∀ w', Keep [] wr w' → w'.cell? ⟨b, off + (k - 1) * 3, none⟩ = some (.string u.key) := row.known 0 (by rw [hn.out]; omega) (by omega) (by rw [hu]; rfl)
              have hleq : (Op.bytesLess t.key.toList u.key.toList || t.key.toList == u.key.toList) = false := by
                rw [leq_cmpS]; have : ¬ cmpS (ndKey l k) (ndKey l (k - 1)) ≤ 0 := fun h => hord ⟨by omega, h⟩
                unfold ndKey at this; rw [ht, hu] at this; simpa using this
              have hk2 : decide ((0 : Int) < (k : Int)) = true := by simp; omega
              have hk3 : decide (0 < k) = true := by simp; omega
              have hk4 : 1 ≤ k := by omega
              have hk5 : IntKind.i64.wrap ((k : Int) - 1) = ((k - 1 : Nat) : Int) := by rw [IntWalk.i64_in _ (by omega)]; omega
              have hk6 : k - 1 < n := by omega
              clear ht hu row hord hk0
              go_wp2_with (go_at_call 73; refine (key_any _ _ hsk).mono ?_; rintro e w' ⟨rfl, rfl⟩)
              go_quiet (fail)
              go_wp2_with (go_at_call 117; refine (isPointR_any _ _ _).mono ?_; rintro e w' ⟨rfl, rfl⟩)
              go_ret
              exact ⟨ret_int (by rw [HF.out (by rw [HE.out]; decide), HE.out]), (by repeat (first | with_reducible assumption | with_reducible apply Keep.drew | with_reducible apply Keep.drewN | with_reducible apply Keep.alloc | with_reducible exact Keep.refl _ _))⟩
      · have hkey : keyB t.key = false := by simpa using hkey
        have HE : Hid (ndErr l k = 5) := by show _ = _; unfold ndErr; rw [ht, hkey, if_pos rfl]
        clear ht row
        go_wp2_with (go_at_call 73; refine (key_any _ _ hsk).mono ?_; rintro e w' ⟨rfl, rfl⟩)
        go_ret
        exact ⟨ret_int (by rw [HF.out (by rw [HE.out]; decide), HE.out]), (by repeat (first | with_reducible assumption | with_reducible apply Keep.drew | with_reducible apply Keep.drewN | with_reducible apply Keep.alloc | with_reducible exact Keep.refl _ _))⟩
    · go_wp2_with fail
      go_ret
      exact ⟨ret_int (by rw [ndsErr, if_neg (by rw [hn.out]; omega)]; exact (firstErr_zero fun j hj => hz.out j (by have := hn.out; omega)).symm), kp⟩
end Go.Proofs.YtonoknliloilfaaGreatDoor

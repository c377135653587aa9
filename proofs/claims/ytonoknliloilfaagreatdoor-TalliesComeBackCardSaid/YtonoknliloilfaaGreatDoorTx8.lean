/- Contract: demand.Read. -/
import Derived.Test.YtonoknliloilfaaGreatDoorTx7
import Derived.OwnWalk
namespace Go.Proofs.YtonoknliloilfaaGreatDoor
open Go.RowKit

theorem talCells_get : ∀ (l : List Tal) (i j : Nat), i < l.length → j < 4 → (talCells l)[i * 4 + j]? = (encTal (l.getD i default))[j]?
  | [], _, _, h, _ => by simp at h
  | t :: l, i, j, h, hj => by
    have e : talCells (t :: l) = encTal t ++ talCells l := rfl
    cases i with
    | zero => rw [e, List.getElem?_append_left (by simp [encTal]; omega)]; simp
    | succ i =>
      rw [e, List.getElem?_append_right (by simp [encTal]; omega)]
      have := talCells_get l i j (by simpa using h) hj
      rw [show (i + 1) * 4 + j - (encTal t).length = i * 4 + j by simp [encTal]; omega, this]; simp
theorem own_row {w : World} {B : Nat} {v : Value} {l : List Tal} (h : w.ownsRow B 37 4 v l.length (talCells l)) (h0 : l ≠ []) :
    ∃ g cap, v = .slice (some ⟨g, 0, none⟩) l.length cap ∧ Row encTal 4 w g 0 l ∧ g < w.heap.size ∧ B ≤ g := by
  obtain ⟨g, cap, rfl, hg, hgl, _, gc, _⟩ := own_cells h (List.length_pos_iff.2 h0)
  exact ⟨g, cap, rfl, fun i j hi hj => by rw [show 0 + i * 4 + j = i * 4 + j by omega, gc _ (by omega)]; exact talCells_get l i j hi hj, hgl, hg⟩
theorem own_nil {w : World} {B : Nat} {v : Value} {xs : List Value} {e : TypeId} {size : Nat} (h : w.ownsRow B e size v 0 xs) : ∃ p cap, v = .slice p 0 cap := by
  rcases h.2 with ⟨rfl, _⟩ | ⟨g, cap, cur, rfl, _⟩
  · exact ⟨_, _, rfl⟩
  · exact ⟨_, _, rfl⟩

set_option maxHeartbeats 1000000 in
theorem manyCells_nil (p : Option Addr) (cap : Nat) (w : World) : Calls Tryz.prog 33 #[.slice p 0 cap] w fun e w' => e = .returned (.bool false) ∧ w = w' := by
  go_enter Tryz.func33, Tryz.ntmps33
  go_wp2_with fail
  refine wp_loop_rounds 1 ?_
  rw [rounds_succ]
  go_wp2_with fail
  go_ret
  exact ⟨rfl, rfl⟩
set_option maxHeartbeats 1000000 in
theorem checkTallies_nil (p : Option Addr) (cap : Nat) (w : World) : Calls Tryz.prog 12 #[.slice p 0 cap] w fun e w' => e = .returned (.int .i64 0) ∧ w = w' := by
  go_enter Tryz.func12, Tryz.ntmps12
  go_wp2_with fail
  refine wp_loop_rounds 1 ?_
  rw [rounds_succ]
  go_wp2_with (go_at_call 33; refine (manyCells_nil _ _ _).mono ?_; rintro e w' ⟨rfl, rfl⟩)
  go_ret
  exact ⟨rfl, rfl⟩
theorem checkTal_nil : checkTal [] = 0 := by decide
theorem check_own {w : World} {B : Nat} {v : Value} {l : List Tal} (h : w.ownsRow B 37 4 v l.length (talCells l)) (hm : l.length ≤ 1000000) :
    Calls Tryz.prog 12 #[v] w fun e w' => e = .returned (.int .i64 (checkTal l)) ∧ Keep [] w w' := by
  by_cases h0 : l = []
  · subst h0
    obtain ⟨p, cap, rfl⟩ := own_nil h
    exact (checkTallies_nil p cap w).mono fun e w' ⟨h1, h2⟩ => ⟨by rw [h1, checkTal_nil], by subst h2; exact Keep.refl _ _⟩
  · obtain ⟨g, cap, rfl, hr, hg, _⟩ := own_row h h0
    exact checkTallies_any g 0 l.length cap l w rfl hm hr hg

set_option maxHeartbeats 1000000 in
theorem each_nil (f : Value) (w : World) : Calls Tryz.prog 17 #[.string (str []), f] w fun e w' => e = .returned (.tuple #[.int .i64 0, .bool true]) ∧ w = w' := by
  go_enter Tryz.func17, Tryz.ntmps17
  go_wp2_with (go_at_call 36; refine (lines_empty _).mono ?_; rintro e w' ⟨rfl, rfl⟩)
  refine wp_loop_rounds 1 ?_
  rw [rounds_succ]
  go_wp2_with fail
  go_ret2
  exact ⟨rfl, rfl⟩

/-- what demand.Read reads -/
def parseT (t : List UInt8) : Option (List Tal) := if t = [] then some [] else match eachF lineF (endsL t) 0 (spl 10 (bodyL t)) [] with
  | .inl _ => none
  | .inr st => some st
def ReadP (t : List UInt8) (B : Nat) (e : Ending) (w' : World) : Prop := ∃ v i c, e = .returned (.tuple #[v, .int .i64 i, .int .i64 c]) ∧
  ((∃ st, c = 0 ∧ parseT t = some st ∧ checkTal st = 0 ∧ st.length ≤ 300000 ∧ w'.ownsRow B 37 4 v st.length (talCells st)) ∨ (c ≠ 0 ∧ ∀ st, parseT t = some st → checkTal st ≠ 0))
theorem eachF_len (en : Bool) : ∀ (l : List (List UInt8)) (i : Nat) (st st' : List Tal), eachF lineF en i l st = .inr st' → st'.length ≤ st.length + l.length
  | [], _, st, st', h => by simp [eachF] at h; subst h; simp
  | p :: r, i, st, st', h => by
    unfold eachF at h
    split at h
    · cases h
    · cases hs : lineF st p with
      | none => rw [hs] at h; cases h
      | some s1 =>
        rw [hs] at h
        have := eachF_len en r (i + 1) s1 st' h
        unfold lineF at hs
        split at hs
        · simp at hs; subst hs; simp at this ⊢; omega
        · cases hs
theorem KeepB.trans {B : Nat} {S : List Nat} {a b c : World} (h : KeepB B S a b) (k : KeepB B S b c) : KeepB B S a c :=
  ⟨k.os.trans h.os, k.tape.trans h.tape, k.output.trans h.output, Nat.le_trans h.size k.size, fun i hi hn => (k.block i hi hn).trans (h.block i hi hn)⟩
theorem rd_keep {B ob : Nat} {st : List Tal} {W W' : World} (h : RdInv B ob st W) (k : Keep [] W W') : RdInv B ob st W' := by
  obtain ⟨h1, h2, h3, h4, h5, h6, v, h7, h8⟩ := h
  exact ⟨h1.keep0 k, h2, h3, h4, h5, Nat.le_trans h6 k.size, v, h7.keep k (by simp), own_keep h8 k (by simp)⟩
set_option maxHeartbeats 4000000 in
theorem read_any (t : List UInt8) (w : World) (hE : Env w) (ht : t.length ≤ 200000) :
    Calls Tryz.prog 6 #[.string (str t)] w fun e w' => ReadP t w.heap.size e w' ∧ Keep [] w w' := by
  have hz := str_size t
  have HE := Lib.hid hE
  have hlt : (str t).size ≤ 200000 := by omega
  have hlt2 : ((str t).size : Int) ≤ 200000 := by omega
  clear hE hz
  have hmf : ∀ (fn : Fn) (first cap : Array Value) (w : World), (Instr.makeFunc fn first cap).run Tryz.prog w = .ok (.func fn first cap) w := fun _ _ _ _ => rfl
  obtain ⟨W1, hW1⟩ : ∃ W, w.alloc (.cells #[.slice none 0 0] 26) = W := ⟨_, rfl⟩
  have hb1 : Blk W1 w.heap.size #[.slice none 0 0] 26 := hW1 ▸ Blk.new w _ _
  have k01 : Keep [] w W1 := hW1 ▸ (Keep.refl _ _).alloc _
  have hf1 := hb1.frozen 0
  by_cases h0 : t = []
  · subst h0
    have ho : W1.ownsRow w.heap.size 37 4 (.slice none 0 0) ([] : List Tal).length (talCells []) := ⟨rfl, .inl ⟨rfl, rfl⟩⟩
    have hc1 := hb1.cell 0
    have hc1' : W1.cell? ⟨w.heap.size, 0, none⟩ = some (.slice none 0 0) := hc1
    have HO := Lib.hid ho
    clear ho hc1
    go_enter Tryz.func6, Tryz.ntmps6
    go_wp2_with (first | (go_at_call 17; refine (each_nil _ _).mono ?_; rintro e w' ⟨rfl, rfl⟩) | (go_at_call 12; refine (checkTallies_nil _ _ _).mono ?_; rintro e w' ⟨rfl, rfl⟩))
    go_ret3
    exact ⟨⟨_, _, _, rfl, .inl ⟨[], rfl, rfl, checkTal_nil, by simp, HO.out⟩⟩, k01⟩
  · have hE1 : Env W1 := HE.out.keep0 k01
    have hlt3 : t.length ≤ 200000 := ht
    have hsw : w.heap.size ≤ W1.heap.size := k01.size
    have hg := hE1.lt
    have hgw := HE.out.lt
    have hev := each_any t W1 hE1 (by omega) h0 18 #[.pointer (some ⟨w.heap.size, 0, none⟩)] (fun args w => (enters_of Tryz.func18 (by kernel_rfl) rfl) args w)
      (fun j st W => st.length ≤ j ∧ RdInv w.heap.size w.heap.size st W) (fun A C => w.heap.size ≤ A.heap.size → KeepB w.heap.size [] A C) lineF []
      ⟨Nat.le_refl _, hE1, by simp, Nat.le_refl _, hgw.1, hgw.2, hsw, .slice none 0 0, hb1, rfl, .inl ⟨rfl, rfl⟩⟩
      (fun j st W W' h k => ⟨h.1, rd_keep h.2 k⟩) (fun W W' k hB => k.toB hB) (fun A C D h1 h2 hB => (h1 hB).trans (h2 (Nat.le_trans hB (h1 hB).size)))
      (fun j st p W hj h hr hp => by
        have hlen := spl_count 10 (bodyL t)
        have hbl := bodyL_le t
        have := spl_len 10 (bodyL t) p hp
        refine (read1_any w.heap.size w.heap.size p st W (by omega) h.2 (by have := h.1; omega)).mono ?_
        rintro e W' ⟨hp, hs, hk⟩
        refine ⟨?_, hs, fun _ => hk⟩
        unfold lineF at hp ⊢
        by_cases hl : lineOk p = true
        · rw [if_pos hl] at hp ⊢; exact ⟨hp.1, by have := h.1; simp; omega, hp.2⟩
        · rw [if_neg hl] at hp ⊢; exact hp)
    have hpt : parseT t = match eachF lineF (endsL t) 0 (spl 10 (bodyL t)) [] with | .inl _ => none | .inr st => some st := by unfold parseT; rw [if_neg h0]
    have hel := eachF_len (endsL t) (spl 10 (bodyL t)) 0 []
    have hsc := spl_count 10 (bodyL t)
    have hbl := bodyL_le t
    generalize hx : eachF lineF (endsL t) 0 (spl 10 (bodyL t)) [] = x at *
    have HX := Lib.hid hx
    clear hx
    cases x with
    | inl i =>
      have HPT := Lib.hid hpt
      simp only [EachPost] at hev
      have HEV := Lib.hid hev
      clear hpt hev
      go_enter Tryz.func6, Tryz.ntmps6
      go_wp2_with fail
      refine HEV.out.mono ?_
      rintro e w2 ⟨rfl, hk⟩
      go_wp2_with fail
      go_ret3
      exact ⟨⟨_, _, _, rfl, .inr ⟨by decide, fun st h => by rw [HPT.out] at h; cases h⟩⟩, ((k01.toB (Nat.le_refl _)).trans (hk hsw)).toKeep⟩
    | inr st =>
      have HPT := Lib.hid hpt
      simp only [EachPost] at hev
      have HEV := Lib.hid hev
      clear hpt hev
      go_enter Tryz.func6, Tryz.ntmps6
      go_wp2_with fail
      refine HEV.out.mono ?_
      rintro e w2 ⟨⟨rfl, hl, hi⟩, hk⟩
      obtain ⟨_, _, _, _, _, _, v, hbk, ho⟩ := hi
      have hst := hel st rfl
      have hst2 : st.length ≤ 300000 := by simp at hst; omega
      have hcell := hbk.cell 0
      have hcell' : w2.cell? ⟨w.heap.size, 0, none⟩ = some v := hcell
      have HCK := Lib.hid (check_own ho (by omega))
      have HO := Lib.hid ho
      clear hst hel hcell ho hl
      by_cases hc : checkTal st = 0
      · rw [hc] at HCK
        have HCC := Lib.hid hc
        clear hc
        go_wp2_with fail
        refine HCK.out.mono ?_
        rintro e w3 ⟨rfl, k3⟩
        have hcell3 : w3.cell? ⟨w.heap.size, 0, none⟩ = some v := k3.known hcell' (by simp)
        go_wp2_with fail
        go_ret3
        exact ⟨⟨_, _, _, rfl, .inl ⟨st, rfl, HPT.out, HCC.out, hst2, own_keep HO.out k3 (by simp)⟩⟩, ((k01.toB (Nat.le_refl _)).trans (hk hsw)).toKeep.tr k3⟩
      · have hcb : ((checkTal st : Int) == 0) = false := by simpa using hc
        have hcb2 : ((checkTal st : Int) != 0) = true := by simpa using hc
        go_wp2_with fail
        refine HCK.out.mono ?_
        rintro e w3 ⟨rfl, k3⟩
        go_wp2_with fail
        go_ret3
        exact ⟨⟨_, _, _, rfl, .inr ⟨by simpa using hcb, fun s2 h => by rw [HPT.out] at h; cases h; simpa using hcb⟩⟩, ((k01.toB (Nat.le_refl _)).trans (hk hsw)).toKeep.tr k3⟩
end Go.Proofs.YtonoknliloilfaaGreatDoor

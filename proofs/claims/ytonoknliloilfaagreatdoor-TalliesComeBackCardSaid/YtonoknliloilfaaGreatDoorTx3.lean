/- Contracts: base.Numbers, base.Words, base.Lines. -/
import Derived.Test.YtonoknliloilfaaGreatDoorTx2
import Derived.Test.YtonoknliloilfaaGreatDoorRdyC
namespace Go.Proofs.YtonoknliloilfaaGreatDoor
open Go.RowKit

/-- strings one after the other from ⟨b, off⟩ on -/
def Strs (w : World) (b off : Nat) (ws : List (List UInt8)) : Prop := ∀ i, i < ws.length → w.cell? ⟨b, off + i, none⟩ = some (.string (str (ws.getD i [])))
theorem Strs.keep {S : List Nat} {w w' : World} {b off : Nat} {ws : List (List UInt8)} (h : Strs w b off ws) (k : Keep S w w') (hS : b ∉ S) : Strs w' b off ws := fun i hi => k.known (h i hi) hS
theorem Strs.keep0 {w w' : World} {b off : Nat} {ws : List (List UInt8)} (h : Strs w b off ws) (k : Keep [] w w') : Strs w' b off ws := h.keep k (by simp)
def intVals (l : List Int) : List Value := l.map (Value.int .i64)

def NumsPost (ws : List (List UInt8)) (k n B : Nat) (e : Ending) (w' : World) : Prop :=
  (ws.all (numOk · k) = true ∧ ∃ v, e = .returned (.tuple #[v, .bool true]) ∧ w'.ownsRow B 3 1 v n (intVals (ws.map (numV · k)))) ∨ (ws.all (numOk · k) = false ∧ e = .returned (.tuple #[.slice none 0 0, .bool false]))
theorem getD_mem {α : Type} (l : List α) (i : Nat) (d : α) (h : i < l.length) : l.getD i d ∈ l := by simp [List.getD, h]
theorem take_snoc' {α : Type} (l : List α) (i : Nat) (d : α) (h : i < l.length) : l.take (i + 1) = l.take i ++ [l.getD i d] := by
  rw [List.take_succ_eq_append_getElem h]; simp [List.getD, h]
set_option maxHeartbeats 4000000 in
theorem numbers_any (b off n cap : Nat) (ws : List (List UInt8)) (k : Nat) (w : World) (hn : Hid (ws.length = n)) (hm : n ≤ 1000000) (h : Strs w b off ws) (hs : ∀ p ∈ ws, p.length ≤ 4294967280) (hk : k ≤ 17) :
    Calls Tryz.prog 20 #[.slice (some ⟨b, off, none⟩) n cap, .int .i64 k] w fun e w' => NumsPost ws k n w.heap.size e w' ∧ Keep [] w w' := by
  have H := Lib.hid h; clear h
  have HS := Lib.hid hs; clear hs
  obtain ⟨B, hB⟩ : ∃ B, B = w.heap.size := ⟨_, rfl⟩
  have HB := Lib.hid hB
  have hB0 : B ≤ w.heap.size := by omega
  clear hB
  go_enter Tryz.func20, Tryz.ntmps20
  go_wp2_with fail
  go_loopw [6, 13] (fun v i wr => ∃ j : Nat, j ≤ n ∧ i = .int .i64 j ∧ Hid (wr.ownsRow B 3 1 v j (intVals ((ws.take j).map (numV · k)))) ∧ Hid ((ws.take j).all (numOk · k) = true) ∧ Hid (Keep [] w wr)) (fun _ i _ => n - (intOf i).toNat)
  case atStart => exact ⟨0, Nat.zero_le _, rfl, World.ownsRow_nil _ _ _ _, rfl, Keep.refl _ _⟩
  case round =>
    obtain ⟨j, hj, rfl, ho, hall, kp⟩ := hrel
    by_cases hlt : j < n
    · have hj' : j < ws.length := by rw [hn.out]; exact hlt
      have hc := H.out.keep0 kp.out j hj'
      have hsz := HS.out (ws.getD j []) (getD_mem ws j [] hj')
      have htk := take_snoc' ws j [] hj'
      generalize ws.getD j [] = p at *
      have HC := Lib.hid (number_any p k wr hsz hk)
      cases hp : numOk p k
      · have hno : ws.all (numOk · k) = false := by
          rw [List.all_eq_false]; refine ⟨p, ?_, by rw [hp]; simp⟩
          have : p ∈ ws.take (j + 1) := by rw [htk]; simp
          exact List.mem_of_mem_take this
        have HNO := Lib.hid hno
        rw [hp] at HC
        clear hp hno htk hsz hj'
        go_wp2_with (go_at_call 38; refine (HC.out).mono ?_; rintro e w' ⟨rfl, hk1⟩)
        go_ret2
        exact ⟨.inr ⟨HNO.out, rfl⟩, kp.out.tr hk1⟩
      · have hall2 : Hid ((ws.take (j + 1)).all (numOk · k) = true) := by show _ = _; rw [htk, List.all_append, hall.out]; simp [hp]
        have hmp : Hid (intVals ((ws.take (j + 1)).map (numV · k)) = intVals ((ws.take j).map (numV · k)) ++ [.int .i64 (numV p k)]) := by show _ = _; rw [htk]; simp [intVals]
        rw [hp] at HC
        clear hp htk hsz hj'
        have hBw : B ≤ wr.heap.size := Nat.le_trans hB0 kp.out.size
        go_wp2_with (first | (go_at_call 38; refine (HC.out).mono ?_; rintro e w' ⟨rfl, hk1⟩) | (at_builtin; refine wpList_append1 rfl _ _ rfl elInt rfl rfl (own_keep ho.out hk1 (by simp)) rfl (by simp [Value.oneCell']) (by unfold maxLen; omega) (by omega) (Nat.le_trans hBw hk1.size) ?_; intro v1 w1 ho1 q1))
        have b1 := own_block ho.out
        have hq := Keep.trans (kp.out.tr hk1) q1 (fun i hi hlt => by have := b1 i hi; have := HB.out; omega)
        refine ⟨?_, ?measure⟩
        case measure => simp [intOf]; omega
        first | exact ⟨j + 1, by omega, by go_num, by show _; rw [hmp.out]; exact ho1, hall2, hq⟩ | ((repeat apply Exists.intro); refine ⟨?_, rfl⟩; exact ⟨j + 1, by omega, by go_num, by show _; rw [hmp.out]; exact ho1, hall2, hq⟩)
    · obtain rfl : j = n := by omega
      go_wp2_with fail
      go_ret2
      exact ⟨.inl ⟨by have := hall.out; rw [← hn.out, List.take_length] at this; exact this, _, rfl, by rw [← HB.out]; have := ho.out; rw [← hn.out, List.take_length] at this; rw [← hn.out]; exact this⟩, kp.out⟩

theorem spl_count (c : UInt8) : ∀ l, (spl c l).length ≤ l.length + 1
  | [] => by simp [spl]
  | b :: l => by
    have ih := spl_count c l
    obtain ⟨p, r, h⟩ := spl_ne c l
    unfold spl; rw [h] at ih ⊢
    split
    · simp at ih ⊢; omega
    · simp at ih ⊢; omega
def wordsOk (line : List UInt8) (m : Nat) : Bool := decide ((spl 32 line).length = m) && (spl 32 line).all (fun p => !p.isEmpty)
def WordsPost (line : List UInt8) (m B : Nat) (e : Ending) (w' : World) : Prop :=
  (wordsOk line m = true ∧ e = .returned (.tuple #[.slice (some ⟨B, 0, none⟩) m m, .bool true]) ∧ Blk w' B (strVals (spl 32 line)) 9) ∨ (wordsOk line m = false ∧ e = .returned (.tuple #[.slice none 0 0, .bool false]))
theorem Strs.ofBlk {w : World} {b : Nat} {ws : List (List UInt8)} {T : TypeId} (h : Blk w b (strVals ws) T) : Strs w b 0 ws := fun i hi => by
  rw [show 0 + i = i by omega, h.cell]; simp [strVals, List.getD, hi]
set_option maxHeartbeats 4000000 in
theorem words_any (line : List UInt8) (m : Nat) (mi : Int) (w : World) (hE : Env w) (hs : line.length < 4294967281) (hmi : Hid (mi = m)) :
    Calls Tryz.prog 19 #[.string (str line), .int .i64 mi] w fun e w' => WordsPost line m w.heap.size e w' ∧ Keep [] w w' := by
  have hsp := split_any (str line) 32 w hE (by rw [str_size]; exact hs)
  rw [str_data] at hsp
  have hlen : (spl 32 line).length ≤ line.length + 1 := spl_count 32 line
  have HSP := Lib.hid hsp
  clear hsp hE
  obtain ⟨ws, hws⟩ : ∃ ws, spl 32 line = ws := ⟨_, rfl⟩
  rw [hws] at HSP hlen
  have HW : Hid (wordsOk line m = (decide (ws.length = m) && ws.all (fun p => !p.isEmpty))) := by show _ = _; unfold wordsOk; rw [hws]
  have HWS := Lib.hid hws
  clear hws
  by_cases hm : ws.length = m
  · have hb1 : ((ws.length : Int) != mi) = false := by rw [hmi.out, hm]; simp
    have HM := Lib.hid hm
    clear hm
    go_enter Tryz.func19, Tryz.ntmps19
    go_wp2_with (go_at_call 37; refine (HSP.out).mono ?_; rintro e w' ⟨rfl, rfl⟩)
    have bW := Blk.new w (strVals ws) 9
    have kw : Keep [] w (w.alloc (.cells (strVals ws) 9)) := (Keep.refl _ _).alloc _
    generalize w.alloc (.cells (strVals ws) 9) = W1 at *
    have HST := Lib.hid (Strs.ofBlk bW)
    have BW := Lib.hid bW
    have KW := Lib.hid kw
    clear bW kw
    go_loopw [17] (fun i wr => ∃ j : Nat, j ≤ ws.length ∧ i = .int .i64 j ∧ Hid (Keep [] W1 wr) ∧ Hid ((ws.take j).all (fun p => !p.isEmpty) = true)) (fun i _ => ws.length - (intOf i).toNat)
    case atStart => exact ⟨0, Nat.zero_le _, rfl, Keep.refl _ _, rfl⟩
    case round =>
      obtain ⟨j, hj, rfl, kp, hall⟩ := hrel
      by_cases hlt : j < ws.length
      · have hc := HST.out.keep0 kp.out j hlt
        rw [show 0 + j = j by omega] at hc
        have htk := take_snoc' ws j [] hlt
        have hmem := getD_mem ws j [] hlt
        have hjI : (j : Int) < ws.length := by omega
        have hjb : j < 4294967295 := by omega
        generalize ws.getD j [] = p at *
        have hpl := str_toList p
        by_cases hp : p = []
        · have e1 : (str p).toList = [] := by rw [hpl, hp]
          have hno : wordsOk line m = false := by
            rw [HW.out]
            have : ws.all (fun p => !p.isEmpty) = false := by rw [List.all_eq_false]; exact ⟨p, hmem, by simp [hp]⟩
            rw [this]; simp
          have HNO := Lib.hid hno
          clear hno hp htk hmem hpl
          go_wp2_with fail
          go_ret2
          exact ⟨.inr ⟨HNO.out, rfl⟩, KW.out.tr kp.out⟩
        · have e1 : ¬ (str p).toList = [] := by rw [hpl]; exact hp
          have e2 : (str p).toList.isEmpty = false := by rw [hpl]; simpa using hp
          have hall2 : Hid ((ws.take (j + 1)).all (fun p => !p.isEmpty) = true) := by show _ = _; rw [htk, List.all_append, hall.out]; simpa using hp
          clear hp htk hmem hpl
          go_wp2_with fail
          refine ⟨?_, ?measure⟩
          case measure => simp [intOf]; omega
          first | exact ⟨j + 1, by omega, by go_num, kp, hall2⟩ | ((repeat apply Exists.intro); refine ⟨?_, rfl⟩; exact ⟨j + 1, by omega, by go_num, kp, hall2⟩)
      · obtain rfl : j = ws.length := by omega
        have hyes : wordsOk line m = true := by
          have := hall.out; rw [List.take_length] at this; rw [HW.out, this]; simpa using HM.out
        have HY := Lib.hid hyes
        clear hyes hlt
        go_wp2_with fail
        go_ret2
        exact ⟨.inl ⟨HY.out, by rw [HM.out]; rfl, by rw [HWS.out]; exact BW.out.keep kp.out (by simp)⟩, KW.out.tr kp.out⟩
  · have hb1 : ((ws.length : Int) != mi) = true := by rw [hmi.out]; simp; omega
    have hno : wordsOk line m = false := by rw [HW.out]; simp [hm]
    have HNO := Lib.hid hno
    clear hno hm
    go_enter Tryz.func19, Tryz.ntmps19
    go_wp2_with (go_at_call 37; refine (HSP.out).mono ?_; rintro e w' ⟨rfl, rfl⟩)
    go_ret2
    exact ⟨.inr ⟨HNO.out, rfl⟩, (Keep.refl _ _).alloc _⟩
end Go.Proofs.YtonoknliloilfaaGreatDoor

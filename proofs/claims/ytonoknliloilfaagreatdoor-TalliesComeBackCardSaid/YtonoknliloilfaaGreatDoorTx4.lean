/- Contracts: base.Lines, base.Each with whatever function reads. -/
import Derived.Test.YtonoknliloilfaaGreatDoorTx3
import Derived.Shelf.Abstract
namespace Go.Proofs.YtonoknliloilfaaGreatDoor
open Go.RowKit

def endsL (t : List UInt8) : Bool := Lib.hasSuffix t [10]
def bodyL (t : List UInt8) : List UInt8 := Lib.trimSuffix t [10]
theorem bodyL_le (t : List UInt8) : (bodyL t).length ≤ t.length := by unfold bodyL Lib.trimSuffix; split <;> simp
theorem cut_any (t : List UInt8) (w : World) (h : t.length < 4294967281) : Calls Tryz.prog 61 #[.string (str t), .string ⟨#[10]⟩] w fun e w' => e = .returned (.tuple #[.string (str (bodyL t)), .bool (endsL t)]) ∧ w = w' :=
  (Tryz.strings_CutSuffix (str t) ⟨#[10]⟩ w (by rw [str_size]; omega)).mono fun e w' ⟨he, hw⟩ => ⟨he, hw.symm⟩

set_option maxHeartbeats 2000000 in
theorem lines_empty (w : World) : Calls Tryz.prog 36 #[.string (str [])] w fun e w' => e = .returned (.tuple #[.slice none 0 0, .bool true]) ∧ w = w' := by
  have e1 : (str []).toList = [] := str_toList []
  go_enter Tryz.func36, Tryz.ntmps36
  go_wp2_with fail
  go_ret2
  exact ⟨rfl, rfl⟩
set_option maxHeartbeats 2000000 in
theorem lines_any (t : List UInt8) (w : World) (hE : Env w) (h : t.length < 4294967281) (h0 : t ≠ []) :
    Calls Tryz.prog 36 #[.string (str t)] w fun e w' => e = .returned (.tuple #[.slice (some ⟨w.heap.size, 0, none⟩) (spl 10 (bodyL t)).length (spl 10 (bodyL t)).length, .bool (endsL t)]) ∧ w.alloc (.cells (strVals (spl 10 (bodyL t))) 9) = w' := by
  have hz := str_toList t
  have e1 : ¬ (str t).toList = [] := by rw [hz]; exact h0
  have e2 : (str t).toList.isEmpty = false := by rw [hz]; simpa using h0
  have hsp := split_any (str (bodyL t)) 10 w hE (by rw [str_size]; have := bodyL_le t; omega)
  rw [str_data] at hsp
  have HSP := Lib.hid hsp
  have HC := Lib.hid (cut_any t w h)
  clear hz hsp
  go_enter Tryz.func36, Tryz.ntmps36
  go_wp2_with (first | (go_at_call 61; refine (HC.out).mono ?_; rintro e w' ⟨rfl, rfl⟩) | (go_at_call 37; refine (HSP.out).mono ?_; rintro e w' ⟨rfl, rfl⟩))
  go_ret2
  exact ⟨rfl, rfl⟩

/-- what base.Each does with the lines that are left, the first of them number i -/
def eachF {σ : Type} (step : σ → List UInt8 → Option σ) (ends : Bool) : Nat → List (List UInt8) → σ → Nat ⊕ σ
  | _, [], st => .inr st
  | i, p :: r, st => if (!ends && r.isEmpty) = true then .inl i else match step st p with
    | none => .inl i
    | some st' => eachF step ends (i + 1) r st'
def EachPost {σ : Type} (Inv : σ → World → Prop) (x : Nat ⊕ σ) (e : Ending) (w' : World) : Prop :=
  match x with
  | .inl i => e = .returned (.tuple #[.int .i64 i, .bool false])
  | .inr st => e = .returned (.tuple #[.int .i64 0, .bool true]) ∧ Inv st w'
def ReadPost {σ : Type} (Inv : σ → World → Prop) (x : Option σ) (e : Ending) (w' : World) : Prop :=
  match x with
  | none => e = .returned (.bool false)
  | some st => e = .returned (.bool true) ∧ Inv st w'
/-- blocks of strings are as they were -/
def StrsStay (w w' : World) : Prop := ∀ b cs, Blk w b cs 9 → Blk w' b cs 9
def linesL (t : List UInt8) : List (List UInt8) := if t = [] then [] else spl 10 (bodyL t)

set_option maxHeartbeats 4000000 in
theorem each_any {σ : Type} (t : List UInt8) (w : World) (hE : Env w) (h : t.length < 4294967281) (h0 : t ≠ [])
    (g : Nat) (cb : Array Value) (eg : ∀ args w, (callFunc g args).run Tryz.prog w = .ok (.enter g args) w)
    (Inv : Nat → σ → World → Prop) (Rel : World → World → Prop) (step : σ → List UInt8 → Option σ) (st0 : σ)
    (hI : Inv 0 st0 w) (hIk : ∀ j st W W', Inv j st W → Keep [] W W' → Inv j st W') (hRk : ∀ W W', Keep [] W W' → Rel W W') (hRt : ∀ A B C, Rel A B → Rel B C → Rel A C)
    (hread : ∀ j st p W, j < (spl 10 (bodyL t)).length → Inv j st W → Rel w W → p ∈ spl 10 (bodyL t) → Calls Tryz.prog g (#[.string (str p)] ++ cb) W fun e W' => ReadPost (Inv (j + 1)) (step st p) e W' ∧ StrsStay W W' ∧ Rel W W') :
    Calls Tryz.prog 17 #[.string (str t), .func (.func g) #[] cb] w fun e w' => EachPost (Inv (spl 10 (bodyL t)).length) (eachF step (endsL t) 0 (spl 10 (bodyL t)) st0) e w' ∧ Rel w w' := by
  have HL := Lib.hid (lines_any t w hE h h0)
  have hlen : (spl 10 (bodyL t)).length ≤ t.length + 1 := Nat.le_trans (spl_count 10 (bodyL t)) (by have := bodyL_le t; omega)
  have HR := Lib.hid hread; clear hread
  have HI := Lib.hid hI; clear hI
  have HK := Lib.hid (And.intro hIk (And.intro hRk hRt)); clear hIk hRk hRt
  obtain ⟨ws, hws⟩ : ∃ ws, spl 10 (bodyL t) = ws := ⟨_, rfl⟩
  rw [hws] at HL HR hlen
  rw [hws]
  clear hws
  generalize endsL t = en at *
  go_enter Tryz.func17, Tryz.ntmps17
  go_wp2_with (go_at_call 36; refine (HL.out).mono ?_; rintro e w' ⟨rfl, rfl⟩)
  have bW := Blk.new w (strVals ws) 9
  have kw : Keep [] w (w.alloc (.cells (strVals ws) 9)) := (Keep.refl _ _).alloc _
  generalize w.alloc (.cells (strVals ws) 9) = W1 at *
  have BW := Lib.hid bW
  have KW := Lib.hid kw
  clear bW kw
  go_loopw [17] (fun i wr => ∃ (j : Nat) (st : σ), j ≤ ws.length ∧ i = .int .i64 j ∧ Hid (Inv j st wr ∧ Rel w wr ∧ Blk wr w.heap.size (strVals ws) 9) ∧ Hid (eachF step en 0 ws st0 = eachF step en j (ws.drop j) st)) (fun i _ => ws.length - (intOf i).toNat)
  case atStart => exact ⟨0, st0, Nat.zero_le _, rfl, ⟨HK.out.1 _ _ _ _ HI.out KW.out, HK.out.2.1 _ _ KW.out, BW.out⟩, rfl⟩
  case round =>
    obtain ⟨j, st, hj, rfl, hi, hev⟩ := hrel
    by_cases hlt : j < ws.length
    · have hc := Strs.ofBlk hi.out.2.2 j hlt
      rw [show 0 + j = j by omega] at hc
      have hdr : ws.drop j = ws.getD j [] :: ws.drop (j + 1) := by rw [List.drop_eq_getElem_cons hlt]; simp [List.getD, hlt]
      have hmem := getD_mem ws j [] hlt
      have hjI : (j : Int) < ws.length := by omega
      have hjb : j < 4294967295 := by omega
      have hl1 : 1 ≤ ws.length := by omega
      have hem : (ws.drop (j + 1)).isEmpty = decide (j + 1 = ws.length) := by
        by_cases e : j + 1 = ws.length
        · rw [e]; simp
        · have : ws.drop (j + 1) ≠ [] := by intro h; have := congrArg List.length h; simp at this; omega
          simp [this, e]
      generalize ws.getD j [] = p at *
      have hlb : ws.length < 4294967297 := by omega
      have hev2 := hev.out
      rw [hdr, eachF, hem] at hev2
      by_cases hlast : en = false ∧ j + 1 = ws.length
      · obtain ⟨rfl, hl⟩ := hlast
        have hq : ((j : Int) == (ws.length : Int) - 1) = true := by simp; omega
        rw [if_pos (by simp [hl])] at hev2
        have HV := Lib.hid hev2
        clear hev2 hdr hem hl
        go_wp2_with fail
        go_ret2
        exact ⟨by rw [HV.out]; rfl, hi.out.2.1⟩
      · rw [if_neg (by
          intro h; apply hlast; cases en <;> simp at h ⊢; exact h)] at hev2
        have hq : en = true ∨ (en = false ∧ ((j : Int) == (ws.length : Int) - 1) = false) := by
          cases en
          · right; refine ⟨rfl, ?_⟩; have : ¬ j + 1 = ws.length := fun h => hlast ⟨rfl, h⟩; simp; omega
          · left; rfl
        have hcall := HR.out j st p wr hlt hi.out.1 hi.out.2.1 hmem
        clear hlast
        cases hs : step st p with
        | none =>
          rw [hs] at hev2 hcall
          simp only [ReadPost] at hcall
          have HV := Lib.hid hev2
          have HC := Lib.hid hcall
          clear hev2 hdr hem hs hcall
          rcases hq with rfl | ⟨rfl, hq⟩
          all_goals go_wp2_with (go_at_fn g; refine HC.out.mono ?_; rintro e w' ⟨rfl, hs1, hs2⟩)
          all_goals go_ret2
          all_goals exact ⟨by rw [HV.out]; rfl, HK.out.2.2 _ _ _ hi.out.2.1 hs2⟩
        | some st' =>
          rw [hs] at hev2 hcall
          simp only [ReadPost] at hcall
          have HV := Lib.hid hev2
          have HC := Lib.hid hcall
          clear hev2 hdr hem hs hcall
          rcases hq with rfl | ⟨rfl, hq⟩
          all_goals go_wp2_with (go_at_fn g; refine HC.out.mono ?_; rintro e w' ⟨⟨rfl, hi'⟩, hs1, hs2⟩)
          all_goals (refine ⟨?_, by (simp [intOf]; omega)⟩; first | exact ⟨j + 1, st', by omega, by go_num, ⟨hi', HK.out.2.2 _ _ _ hi.out.2.1 hs2, hs1 _ _ hi.out.2.2⟩, hev.out.trans (by rw [← hev.out]; exact HV.out)⟩ | exact ⟨rfl, ⟨j + 1, st', by omega, by go_num, ⟨hi', HK.out.2.2 _ _ _ hi.out.2.1 hs2, hs1 _ _ hi.out.2.2⟩, hev.out.trans (by rw [← hev.out]; exact HV.out)⟩⟩ | ((repeat apply Exists.intro); refine ⟨?_, rfl⟩; exact ⟨j + 1, st', by omega, by go_num, ⟨hi', HK.out.2.2 _ _ _ hi.out.2.1 hs2, hs1 _ _ hi.out.2.2⟩, hev.out.trans (by rw [← hev.out]; exact HV.out)⟩) | (refine ⟨rfl, ?_⟩; (repeat apply Exists.intro); refine ⟨?_, rfl⟩; exact ⟨j + 1, st', by omega, by go_num, ⟨hi', HK.out.2.2 _ _ _ hi.out.2.1 hs2, hs1 _ _ hi.out.2.2⟩, hev.out.trans (by rw [← hev.out]; exact HV.out)⟩))
    · obtain rfl : j = ws.length := by omega
      have hev2 := hev.out
      rw [List.drop_length, eachF] at hev2
      have HV := Lib.hid hev2
      clear hev2
      go_wp2_with fail
      go_ret2
      exact ⟨by rw [HV.out]; exact ⟨rfl, hi.out.1⟩, hi.out.2.1⟩
end Go.Proofs.YtonoknliloilfaaGreatDoor

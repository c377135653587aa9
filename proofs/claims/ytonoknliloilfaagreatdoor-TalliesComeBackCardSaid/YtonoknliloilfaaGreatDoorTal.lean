/- The drawn tallies: what RightTallies makes of a stream. -/
import Derived.Test.YtonoknliloilfaaGreatDoorDem1
import Derived.Test.YtonoknliloilfaaGreatDoorStream
import Derived.Test.YtonoknliloilfaaGreatDoorOwn
namespace Go.Proofs.YtonoknliloilfaaGreatDoor
open Go.RowKit

theorem elTal : ElemOf Tryz.prog 26 37 4 32 := ElemOf.mk' Tryz.underlying26 (by omega) (by kernel_rfl)

def rtX : List Int := [-1, 0, 1, 10000]
def rtY : List Int := [0, 1]
def rtH : List Int := [0, 8, 167]
/-- the tallies and the count of drawn numbers behind j places -/
def rtSt (L : List Int) (a : Nat) : Nat → List Tal × Nat
  | 0 => ([], a)
  | j + 1 =>
    let p := rtSt L a j
    if flipF L p.2 3 then (p.1 ++ [⟨rtX.getD (j / 6) 0, rtY.getD (j / 3 % 2) 0, rtH.getD (j % 3) 0, pickF L (p.2 + 1) [1, 2, 5, 5, 100]⟩], p.2 + 2) else (p.1, p.2 + 1)
theorem rtSt_len (L : List Int) (a j : Nat) : (rtSt L a j).1.length ≤ j := by
  induction j with
  | zero => simp [rtSt]
  | succ j ih => simp only [rtSt]; split <;> simp <;> omega
theorem rtSt_at (L : List Int) (a j : Nat) : (rtSt L a j).2 ≤ a + 2 * j := by
  induction j with
  | zero => simp [rtSt]
  | succ j ih => simp only [rtSt]; split <;> simp <;> omega
def talCells (l : List Tal) : List Value := l.flatMap encTal

/-- what holds behind j places, in the world wr; B: where the call's own blocks begin -/
def RtInv (bs : Nat) (pl : Option Addr) (len cap : Nat) (L : List Int) (at_ B : Nat) (w : World) (v : Value) (j : Nat) (wr : World) : Prop :=
  wr.ownsRow B 37 4 v (rtSt L at_ j).1.length (talCells (rtSt L at_ j).1) ∧ Stm wr bs pl len cap L (rtSt L at_ j).2 ∧ KeepB B [bs] w wr
theorem RtInv.alloc {bs : Nat} {pl : Option Addr} {len cap : Nat} {L : List Int} {at_ B : Nat} {w : World} {v : Value} {j : Nat} {wr : World} (h : RtInv bs pl len cap L at_ B w v j wr) (hB : B ≤ w.heap.size) (o : Obj) : RtInv bs pl len cap L at_ B w v j (wr.alloc o) :=
  ⟨h.1.alloc o, h.2.1.alloc o, h.2.2.tr ((Keep.refl [] wr).alloc o) hB (by simp)⟩
/-- block b holds these numbers -/
def Lit3 (wr : World) (b : Nat) (xs : List Int) : Prop := Blk wr b (xs.map (Value.int .i64)).toArray 3
theorem Lit3.at {wr : World} {b : Nat} {xs : List Int} (h : Lit3 wr b xs) (k : Nat) (hk : k < xs.length) : wr.cell? ⟨b, k, none⟩ = some (.int .i64 (xs.getD k 0)) := (Ints.ofBlk h xs rfl) k hk

set_option maxHeartbeats 4000000 in
theorem rightTallies_any (bs : Nat) (pl : Option Addr) (len cap : Nat) (L : List Int) (at_ : Nat) (w : World) (h : Stm w bs pl len cap L at_) (hat : at_ < 900000) :
    Calls Tryz.prog 4 #[.pointer (some ⟨bs, 0, none⟩)] w
      fun e w' => ∃ v, e = .returned v ∧ w'.ownsRow w.heap.size 37 4 v (rtSt L at_ 24).1.length (talCells (rtSt L at_ 24).1) ∧ Stm w' bs pl len cap L (rtSt L at_ 24).2 ∧ Keep [bs] w w' := by
  have hbs := h.blk.lt
  have i0 : RtInv bs pl len cap L at_ w.heap.size w (.slice none 0 0) 0 w := ⟨World.ownsRow_nil _ _ _ _, h, KeepB.refl _ _ _⟩
  have I0 := Lib.hid i0; clear i0 h
  obtain ⟨B, hBB⟩ : ∃ B, B = w.heap.size := ⟨_, rfl⟩
  have HBB := Lib.hid hBB; clear hBB
  go_enter Tryz.func4, Tryz.ntmps4
  go_wp2_with fail
  have i1 := Lib.hid (I0.out.alloc (Nat.le_refl _) (.cells #[.int .i64 (-1), .int .i64 0, .int .i64 1, .int .i64 10000] 3))
  have x1 : Hid (Lit3 _ _ rtX) := Blk.new w #[.int .i64 (-1), .int .i64 0, .int .i64 1, .int .i64 10000] 3
  generalize w.alloc (.cells #[.int .i64 (-1), .int .i64 0, .int .i64 1, .int .i64 10000] 3) = w1 at *
  generalize hXX : w.heap.size = X at *
  have HXX := Lib.hid hXX; clear hXX
  go_loopw [3, 12] (fun v i wr => ∃ k : Nat, k ≤ 4 ∧ i = .int .i64 k ∧ Hid (RtInv bs pl len cap L at_ X w v (k * 6) wr) ∧ Hid (Lit3 wr X rtX)) (fun _ i _ => 4 - (intOf i).toNat)
  case atStart => exact ⟨0, by omega, rfl, i1, x1⟩
  case round =>
    clear i1 x1
    obtain ⟨k, hk, rfl, hi, hx⟩ := hrel
    by_cases hlt : k < 4
    · have cx := hx.out.at k hlt
      have hd1 : decide ((k : Int) < 4) = true := by simp; omega
      generalize hxv : rtX.getD k 0 = x at cx
      have HX := Lib.hid hxv; clear hxv
      go_wp2_with fail
      have i2 := Lib.hid (hi.out.alloc (by rw [HXX.out]; exact Nat.le_refl _) (.cells #[.int .i64 0, .int .i64 1] 3))
      have x2 := Lib.hid (Blk.alloc hx.out (.cells #[.int .i64 0, .int .i64 1] 3))
      have y2 : Hid (Lit3 _ _ rtY) := Blk.new wr #[.int .i64 0, .int .i64 1] 3
      have hbY : bs < wr.heap.size := hi.out.2.1.blk.lt
      clear cx hi hx
      generalize wr.alloc (.cells #[.int .i64 0, .int .i64 1] 3) = w2 at *
      generalize wr.heap.size = Y at *
      clear wr
      go_loopw [3, 18] (fun v i wr => ∃ k2 : Nat, k2 ≤ 2 ∧ i = .int .i64 k2 ∧ Hid (RtInv bs pl len cap L at_ X w v (k * 6 + k2 * 3) wr) ∧ Hid (Lit3 wr X rtX) ∧ Hid (Lit3 wr Y rtY)) (fun _ i _ => 2 - (intOf i).toNat)
      case atStart => exact ⟨0, by omega, rfl, i2, x2, y2⟩
      case round =>
        clear i2 x2 y2
        obtain ⟨k2, hk2, rfl, hi, hx, hy⟩ := hrel
        by_cases hlt2 : k2 < 2
        · have cy := hy.out.at k2 hlt2
          have hd2 : decide ((k2 : Int) < 2) = true := by simp; omega
          generalize hyv : rtY.getD k2 0 = y at cy
          have HY := Lib.hid hyv; clear hyv
          go_wp2_with fail
          have i3 := Lib.hid (hi.out.alloc (by rw [HXX.out]; exact Nat.le_refl _) (.cells #[.int .i64 0, .int .i64 8, .int .i64 167] 3))
          have x3 := Lib.hid (Blk.alloc hx.out (.cells #[.int .i64 0, .int .i64 8, .int .i64 167] 3))
          have y3 := Lib.hid (Blk.alloc hy.out (.cells #[.int .i64 0, .int .i64 8, .int .i64 167] 3))
          have z3 : Hid (Lit3 _ _ rtH) := Blk.new wr #[.int .i64 0, .int .i64 8, .int .i64 167] 3
          have hbZ : bs < wr.heap.size := hi.out.2.1.blk.lt
          clear cy hi hx hy
          generalize wr.alloc (.cells #[.int .i64 0, .int .i64 8, .int .i64 167] 3) = w3 at *
          generalize wr.heap.size = Z at *
          clear wr
          go_loopw [3, 24] (fun v i wr => ∃ k3 : Nat, k3 ≤ 3 ∧ i = .int .i64 k3 ∧ Hid (RtInv bs pl len cap L at_ X w v (k * 6 + k2 * 3 + k3) wr) ∧ Hid (Lit3 wr X rtX) ∧ Hid (Lit3 wr Y rtY) ∧ Hid (Lit3 wr Z rtH)) (fun _ i _ => 3 - (intOf i).toNat)
          case atStart => exact ⟨0, by omega, rfl, i3, x3, y3, z3⟩
          case round =>
            clear i3 x3 y3 z3
            obtain ⟨k3, hk3, rfl, hi, hx, hy, hz⟩ := hrel
            by_cases hlt3 : k3 < 3
            · have cz := hz.out.at k3 hlt3
              generalize hzv : rtH.getD k3 0 = hh' at cz
              have HH := Lib.hid hzv; clear hzv
              have hl := rtSt_len L at_ (k * 6 + k2 * 3 + k3)
              have ha := rtSt_at L at_ (k * 6 + k2 * 3 + k3)
              have HS : Hid (rtSt L at_ (k * 6 + k2 * 3 + k3 + 1) = (if flipF L (rtSt L at_ (k * 6 + k2 * 3 + k3)).2 3 then ((rtSt L at_ (k * 6 + k2 * 3 + k3)).1 ++ [⟨x, y, hh', pickF L ((rtSt L at_ (k * 6 + k2 * 3 + k3)).2 + 1) [1, 2, 5, 5, 100]⟩], (rtSt L at_ (k * 6 + k2 * 3 + k3)).2 + 2) else ((rtSt L at_ (k * 6 + k2 * 3 + k3)).1, (rtSt L at_ (k * 6 + k2 * 3 + k3)).2 + 1))) := by
                show rtSt L at_ (k * 6 + k2 * 3 + k3 + 1) = _
                rw [← HX.out, ← HY.out, ← HH.out, rtSt, show (k * 6 + k2 * 3 + k3) / 6 = k by omega, show (k * 6 + k2 * 3 + k3) / 3 % 2 = k2 by omega, show (k * 6 + k2 * 3 + k3) % 3 = k3 by omega]
              have hj24 : k * 6 + k2 * 3 + k3 < 24 := by omega
              obtain ⟨ho, hst, hkb⟩ := hi.out
              clear hi
              generalize hj : k * 6 + k2 * 3 + k3 = j at *
              have HJ := Lib.hid hj; clear hj
              generalize rtSt L at_ j = p at *
              obtain ⟨acc, a⟩ := p
              dsimp only at ho hst hl ha HS
              have HO := Lib.hid ho
              have HSt := Lib.hid hst
              have HKB := Lib.hid hkb
              clear ho hst hkb
              have hbX : bs < X := hbs
              have hX : X ≤ w.heap.size := by rw [HXX.out]; exact Nat.le_refl _
              cases hf : flipF L a 3
              · have HF := Lib.hid hf
                go_wp2_with (go_at_call 10; refine (flip_any _ _ _ _ _ _ _ _ HSt.out (by omega) (by omega)).mono ?_; rintro e w' ⟨rfl, s1, q1⟩)
                have hS : rtSt L at_ (j + 1) = (acc, a + 1) := by rw [HS.out, HF.out]; rfl
                have hb := HSt.out.blk
                refine ⟨?_, ?measure⟩
                case measure => simp [intOf]; omega
                first | exact ⟨k3 + 1, by omega, by go_num, by rw [show k * 6 + k2 * 3 + (k3 + 1) = j + 1 by rw [← HJ.out]; omega, RtInv, hS]; exact ⟨own_keep HO.out q1 (by simp; omega), s1, HKB.out.tr q1 hX (by simp)⟩, Blk.keep hx.out q1 (by simp; omega), Blk.keep hy.out q1 (by simp; omega), Blk.keep hz.out q1 (by simp; omega)⟩ | ((repeat apply Exists.intro); refine ⟨?_, rfl⟩; exact ⟨k3 + 1, by omega, by go_num, by rw [show k * 6 + k2 * 3 + (k3 + 1) = j + 1 by rw [← HJ.out]; omega, RtInv, hS]; exact ⟨own_keep HO.out q1 (by simp; omega), s1, HKB.out.tr q1 hX (by simp)⟩, Blk.keep hx.out q1 (by simp; omega), Blk.keep hy.out q1 (by simp; omega), Blk.keep hz.out q1 (by simp; omega)⟩)
              · have HF := Lib.hid hf
                go_wp2_with (go_at_call 10; refine (flip_any _ _ _ _ _ _ _ _ HSt.out (by omega) (by omega)).mono ?_; rintro e w' ⟨rfl, s1, q1⟩)
                refine (pick_any bs pl len cap L (a + 1) _ 5 5 [1, 2, 5, 5, 100] _ (s1.alloc _) (by omega) (Ints.ofBlk (Blk.new _ _ _) _ rfl) (Nat.ne_of_gt s1.blk.lt) rfl (by omega) (by omega)).mono ?_
                rintro e w5 ⟨rfl, s2, q2⟩
                have hsz : X ≤ w5.heap.size := by
                  have z1 := HKB.out.size
                  have z2 := q1.size
                  have z3 := q2.size
                  have z4 := HXX.out
                  simp at z3; omega
                have ho5 := own_keep ((own_keep HO.out q1 (by simp; omega)).alloc _) q2 (by simp; omega)
                have q5 := (q1.alloc _).tr q2
                have HO5 := Lib.hid ho5
                clear ho5 q1 s1 q2
                generalize hm : pickF L (a + 1) [1, 2, 5, 5, 100] = mm at *
                have HM := Lib.hid hm; clear hm
                go_wp2_with (at_builtin; refine wpList_append1 rfl _ _ rfl elTal rfl rfl HO5.out rfl (by simp [Value.oneCell']) (by unfold maxLen; omega) (by omega) hsz ?_; intro v' w6 ho6 q6)
                have hS : rtSt L at_ (j + 1) = (acc ++ [⟨x, y, hh', mm⟩], a + 2) := by rw [HS.out, HF.out, ← HM.out]; rfl
                have hob := own_block HO5.out
                have hi' : RtInv bs pl len cap L at_ X w v' (j + 1) w6 := by
                  rw [RtInv, hS]
                  exact ⟨by simpa [talCells, encTal] using ho6, s2.keepHi q6 (fun s hs => by have := hob s hs; omega), (HKB.out.tr q5 hX (by simp)).tr q6 hX (fun i hi hlt => by have := hob i hi; omega)⟩
                have hx' := Blk.keep (Blk.keep hx.out q5 (by simp; omega)) q6 (own_apart HO5.out (Blk.keep hx.out q5 (by simp; omega)) (by decide))
                have hy' := Blk.keep (Blk.keep hy.out q5 (by simp; omega)) q6 (own_apart HO5.out (Blk.keep hy.out q5 (by simp; omega)) (by decide))
                have hz' := Blk.keep (Blk.keep hz.out q5 (by simp; omega)) q6 (own_apart HO5.out (Blk.keep hz.out q5 (by simp; omega)) (by decide))
                refine ⟨?_, ?measure⟩
                case measure => simp [intOf]; omega
                first | exact ⟨k3 + 1, by omega, by go_num, by rw [show k * 6 + k2 * 3 + (k3 + 1) = j + 1 by rw [← HJ.out]; omega]; exact hi', hx', hy', hz'⟩ | ((repeat apply Exists.intro); refine ⟨?_, rfl⟩; exact ⟨k3 + 1, by omega, by go_num, by rw [show k * 6 + k2 * 3 + (k3 + 1) = j + 1 by rw [← HJ.out]; omega]; exact hi', hx', hy', hz'⟩)
            · obtain rfl : k3 = 3 := by omega
              go_wp2_with fail
              refine ⟨?_, ?measure⟩
              case measure => simp [intOf]; omega
              first | exact ⟨k2 + 1, by omega, by go_num, by rw [show k * 6 + (k2 + 1) * 3 = k * 6 + k2 * 3 + 3 by omega]; exact hi, hx, hy⟩ | ((repeat apply Exists.intro); refine ⟨?_, rfl⟩; exact ⟨k2 + 1, by omega, by go_num, by rw [show k * 6 + (k2 + 1) * 3 = k * 6 + k2 * 3 + 3 by omega]; exact hi, hx, hy⟩)
        · obtain rfl : k2 = 2 := by omega
          go_wp2_with fail
          refine ⟨?_, ?measure⟩
          case measure => simp [intOf]; omega
          first | exact ⟨k + 1, by omega, by go_num, by rw [show (k + 1) * 6 = k * 6 + 2 * 3 by omega]; exact hi, hx⟩ | ((repeat apply Exists.intro); refine ⟨?_, rfl⟩; exact ⟨k + 1, by omega, by go_num, by rw [show (k + 1) * 6 = k * 6 + 2 * 3 by omega]; exact hi, hx⟩)
    · obtain rfl : k = 4 := by omega
      go_wp2_with fail
      go_ret
      obtain ⟨ho, hst, hkb⟩ := hi.out
      exact ⟨_, rfl, by rw [HXX.out]; exact ho, hst, by rw [← HXX.out] at hkb; exact hkb.toKeep⟩
end Go.Proofs.YtonoknliloilfaaGreatDoor

/- The walk of the law TalliesComeBack. -/
import Derived.Test.YtonoknliloilfaaGreatDoorSeq
import Derived.Test.YtonoknliloilfaaGreatDoorTpl
import Derived.Test.YtonoknliloilfaaGreatDoorReady
namespace Go.Proofs.YtonoknliloilfaaGreatDoor
open Go.RowKit

set_option maxHeartbeats 4000000 in
theorem law_walk (pl : Option Addr) (len cap : Nat) (L : List Int) (w : World) (hE : Env w) (hL : L.length = len) (hs : len ≤ 9223372036854775807)
    (hel : ∀ i, i < len → ∃ p, pl = some p ∧ p.block < w.heap.size ∧ w.cell? (p.add i) = some (.int .i64 (L.getD i 0))) (hpl : ∀ p, pl = some p → p.block < w.heap.size) :
    Calls Tryz.prog 3 #[.slice pl len cap] w fun e w' => e = .returned (.bool true) ∧ Keep [] w w' := by
  have hg := hE.lt
  go_enter Tryz.func3, Tryz.ntmps3
  go_wp2_with fail
  obtain ⟨W1, hW1⟩ : ∃ W, w.alloc (.cells #[.slice pl len cap, .int .i64 0] 25) = W := ⟨_, rfl⟩
  rw [hW1]
  have kw : Keep [] w W1 := hW1 ▸ (Keep.refl _ _).alloc _
  have hb1 : Blk W1 w.heap.size #[.slice pl len cap, .int .i64 0] 25 := hW1 ▸ Blk.new w _ _
  have hws := kw.size
  have hst : Stm W1 w.heap.size pl len cap L 0 := ⟨hb1, hL, hs, fun i hi => by
    obtain ⟨p, h1, h2, h3⟩ := hel i hi
    exact ⟨p, h1, by omega, by omega, kw.known h3 (by simp)⟩, hpl⟩
  have hE1 := hE.keep0 kw
  have HK1 := Lib.hid kw
  clear kw hb1 hW1 hel hE
  generalize hbs : w.heap.size = bs at *
  have HBS := Lib.hid hbs
  clear hbs
  have hlt1 := hst.blk.lt
  refine (rightTallies_any bs pl len cap L 0 W1 hst (by omega)).mono ?_
  rintro e w2 ⟨v, rfl, ho, s2, k2⟩
  have hE2 := hE1.keep k2 (fun s hs => by simp at hs; omega)
  have hl24 := rtSt_len L 0 24
  have hat1 := rtSt_at L 0 24
  have hok := rt_ok L 0
  have htl := talText_len hok
  have hpt := parse_text hok
  generalize (rtSt L 0 24).1 = l at *
  generalize (rtSt L 0 24).2 = a1 at *
  have hT := text_own hE2 ho hok (by omega)
  have K2 := Lib.hid k2
  have HO := Lib.hid ho
  have HT := Lib.hid hT
  have HPT := Lib.hid hpt
  clear k2 hT hpt
  go_wp2_with fail
  refine HT.out.mono ?_
  rintro e w3 ⟨rfl, k3⟩
  have hR := read_any (talText l) w3 (hE2.keep0 k3) (by omega)
  have HR := Lib.hid hR
  clear hR
  go_wp2_with fail
  refine HR.out.mono ?_
  rintro e w4 ⟨⟨x, i, c, rfl, hc⟩, k4⟩
  obtain ⟨rfl, hox⟩ : c = 0 ∧ w4.ownsRow w3.heap.size 37 4 x l.length (talCells l) := by
    rcases hc with ⟨st, h1, h2, h3, h4, h5⟩ | ⟨h1, h2⟩
    · rw [HPT.out] at h2; cases h2; exact ⟨h1, h5⟩
    · exact absurd hok (h2 l HPT.out)
  have hov := own_keep HO.out (k3.tr k4) (by simp)
  have hQ := equal_own hox hov (by omega)
  have K34 := Lib.hid (k3.tr k4)
  have HQ := Lib.hid hQ
  have hE4 := (hE2.keep0 k3).keep0 k4
  have s4 := s2.keep (k3.tr k4) (by simp) (by simp)
  clear hc hov hQ hox ho htl k3 k4 s2
  go_wp2_with fail
  refine HQ.out.mono ?_
  rintro e w5 ⟨rfl, k5⟩
  have s5 := s4.keep k5 (by simp) (by simp)
  have hE5 := hE4.keep0 k5
  have hS := tallyString_any bs pl len cap L a1 w5 hE5 hg s5 (by omega)
  have HS := Lib.hid hS
  have K25 := Lib.hid (K34.out.tr k5)
  clear hS s4 s5 k5
  go_wp2_with fail
  refine HS.out.mono ?_
  rintro e w6 ⟨tx, a6, rfl, htx, ha6, s6, k6⟩
  have hE6 := hE5.keep k6 (fun s hs => by simp at hs; omega)
  have hR6 := read_any tx w6 hE6 (by omega)
  have HR6 := Lib.hid hR6
  have K6 := Lib.hid k6
  clear hR6 k6 s6
  go_wp2_with fail
  refine HR6.out.mono ?_
  rintro e w7 ⟨⟨x7, i7, c7, rfl, hc⟩, k7⟩
  have kAll : Keep [] w w7 := by
    have h1 : Keep [bs] W1 w6 := (K2.out.tr (K25.out.mono (by simp))).tr K6.out
    have h2 : Keep [bs] W1 w7 := h1.tr (k7.mono (by simp))
    have hsz := HBS.out
    refine ((HK1.out.toB (Nat.le_refl _)).tr h2 (Nat.le_refl _) (fun i hi hlt => ?_)).toKeep
    simp at hi; omega
  have KA := Lib.hid kAll
  have hE7 := hE6.keep0 k7
  rcases hc with ⟨st, rfl, h2, h3, h4, h5⟩ | ⟨h1, h2⟩
  · have htx2 := text_parse h2
    have hT7 := text_own hE7 h5 h3 (by rw [htx2]; omega)
    rw [htx2] at hT7
    have HT7 := Lib.hid hT7
    clear hT7 h5 h3 h2 htx2 k7 kAll
    go_wp2_with fail
    refine HT7.out.mono ?_
    rintro e w8 ⟨rfl, k8⟩
    go_wp2_with fail
    refine (ready_any w8).mono ?_
    rintro e w9 ⟨rfl, k9⟩
    go_wp2_with fail
    go_ret
    exact ⟨rfl, (KA.out.tr k8).tr k9⟩
  · have hc7 : (c7 == 0) = false := by simpa using h1
    clear h2 k7 kAll
    go_wp2_with fail
    refine (ready_any w7).mono ?_
    rintro e w9 ⟨rfl, k9⟩
    go_wp2_with fail
    go_ret
    exact ⟨rfl, KA.out.tr k9⟩
end Go.Proofs.YtonoknliloilfaaGreatDoor

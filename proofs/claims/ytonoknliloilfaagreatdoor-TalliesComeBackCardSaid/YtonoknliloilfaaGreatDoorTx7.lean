/- Contract: demand.Read and its closure. -/
import Derived.Test.YtonoknliloilfaaGreatDoorTx6
import Derived.Test.YtonoknliloilfaaGreatDoorOwn2
import Derived.Test.YtonoknliloilfaaGreatDoorBld
namespace Go.Proofs.YtonoknliloilfaaGreatDoor
open Go.RowKit

def lineOk (line : List UInt8) : Bool := wordsOk line 4 && (spl 32 line).all (numOk · 10)
def lineT (line : List UInt8) : Tal := ⟨numV ((spl 32 line).getD 0 []) 10, numV ((spl 32 line).getD 1 []) 10, numV ((spl 32 line).getD 2 []) 10, numV ((spl 32 line).getD 3 []) 10⟩
def lineF (st : List Tal) (line : List UInt8) : Option (List Tal) := if lineOk line = true then some (st ++ [lineT line]) else none
/-- the tallies that were read so far lie in the box ob -/
def RdInv (B ob : Nat) (st : List Tal) (W : World) : Prop := Env W ∧ st.length ≤ 1000000 ∧ B ≤ ob ∧ 0 < B ∧ 5 < B ∧ B ≤ W.heap.size ∧ ∃ v, Blk W ob #[v] 26 ∧ W.ownsRow B 37 4 v st.length (talCells st)

theorem own_types {w : World} {base : Nat} {e : TypeId} {size : Nat} {v : Value} {n : Nat} {xs : List Value} (h : w.ownsRow base e size v n xs) : ∀ k ∈ v.ownBlock.toList, base ≤ k ∧ ∃ cs, Blk w k cs e := fun k hk => by
  refine ⟨own_block h k hk, ?_⟩
  rcases h.2 with ⟨rfl, _⟩ | ⟨g, cap, cur, rfl, hg, hh, _⟩
  · simp [Value.ownBlock] at hk
  · simp [Value.ownBlock] at hk; subst hk; exact ⟨_, hh⟩
theorem read1_end {B ob : Nat} {st : List Tal} {t : Tal} {v v4 : Value} {w w2 w4 : World} (hob : B ≤ ob) (hg1 : 0 < B) (hg2 : 5 < B) (hBw : B ≤ w.heap.size) (hst : st.length < 1000000)
    (K02 : Keep [] w w2) (KX : Keep v.ownBlock.toList w2 w4) (h2 : Blk w2 ob #[v] 26 ∧ w2.ownsRow B 37 4 v st.length (talCells st) ∧ Env w2)
    (h4 : Blk w4 ob #[v] 26) (ho4 : w4.ownsRow B 37 4 v4 (st.length + 1) (talCells st ++ encTal t)) :
    RdInv B ob (st ++ [t]) (w4.setCell ⟨ob, 0, none⟩ v4) ∧ StrsStay w (w4.setCell ⟨ob, 0, none⟩ v4) ∧ KeepB B [] w (w4.setCell ⟨ob, 0, none⟩ v4) := by
  have kS : Keep [ob] w4 (w4.setCell ⟨ob, 0, none⟩ v4) := (Keep.refl _ _).setCell (.inl (by simp)) _
  have ht := own_types h2.2.1
  have hE : Env (w4.setCell ⟨ob, 0, none⟩ v4) := (h2.2.2.keep KX (fun s hs => by have := (ht s hs).1; omega)).keep kS (fun s hs => by simp at hs; omega)
  refine ⟨⟨hE, by simp; omega, hob, hg1, hg2, Nat.le_trans hBw (Nat.le_trans K02.size (Nat.le_trans KX.size kS.size)), v4, h4.set 0 _, ?_⟩, fun b cs hb => ?_, ?_⟩
  · have := own_keepN ho4 kS (fun s hs hm => by simp at hs; subst hs; exact own_apart ho4 h4 (by decide) hm)
    simpa [talCells] using this
  · have hb2 := hb.keep K02 (by simp)
    have hb4 := hb2.keep KX (own_apart h2.2.1 hb2 (by decide))
    exact hb4.keep kS (fun hm => by simp at hm; subst hm; unfold Blk at hb4 h4; rw [h4] at hb4; simp at hb4)
  · refine ((K02.toB hBw).tr KX hBw (fun i hi hlt => by have := (ht i hi).1; omega)).tr kS hBw (fun i hi hlt => by simp at hi; omega)
set_option maxHeartbeats 4000000 in
set_option maxRecDepth 100000 in
theorem read1_any (B ob : Nat) (line : List UInt8) (st : List Tal) (w : World) (hl : line.length ≤ 200000) (hi : RdInv B ob st w) (hst : st.length < 1000000) :
    Calls Tryz.prog 18 #[.string (str line), .pointer (some ⟨ob, 0, none⟩)] w fun e w' => ReadPost (RdInv B ob) (lineF st line) e w' ∧ StrsStay w w' ∧ KeepB B [] w w' := by
  obtain ⟨hE, _, hob, hg1, hg2, hBw, v, hbk, ho⟩ := hi
  have HW := Lib.hid (words_any line 4 4 w hE (by omega) rfl)
  have HO := Lib.hid (And.intro hbk ho)
  have HE := Lib.hid hE
  clear hbk ho hE
  go_enter Tryz.func18, Tryz.ntmps18
  go_wp2_with fail
  refine HW.out.mono ?_
  rintro e w1 ⟨hp, k1⟩
  rcases hp with ⟨hok, rfl, hbw⟩ | ⟨hno, rfl⟩
  · have h4 : (spl 32 line).length = 4 := by unfold wordsOk at hok; simp only [Bool.and_eq_true, decide_eq_true_eq] at hok; exact hok.1
    have hnum := numbers_any w.heap.size 0 4 4 (spl 32 line) 10 w1 h4 (by omega) (Strs.ofBlk hbw) (fun p hp => by have := spl_len 32 line p hp; omega) (by omega)
    have HN := Lib.hid hnum
    have HOK := Lib.hid hok
    have HW4 := Lib.hid h4
    have HB := Lib.hid hbw
    have hL : Hid (lineOk line = (spl 32 line).all (numOk · 10)) := by show _ = _; unfold lineOk; rw [hok]; simp
    clear hnum hok h4 hbw
    go_wp2_with fail
    refine HN.out.mono ?_
    rintro e w2 ⟨hp, k2⟩
    rcases hp with ⟨hall, v2, rfl, ho2⟩ | ⟨hno, rfl⟩
    · have hF : lineF st line = some (st ++ [lineT line]) := by unfold lineF; rw [hL.out, hall]; rfl
      have HF := Lib.hid hF
      obtain ⟨gi, gc, cur, rfl, hgi, hbi, _, gcell⟩ := own_blk ho2 (by omega)
      obtain ⟨a0, a1, a2, a3, hws⟩ : ∃ a b c d, spl 32 line = [a, b, c, d] := by
        have := HW4.out
        match hsp : spl 32 line, this with
        | [a, b, c, d], _ => exact ⟨a, b, c, d, rfl⟩
      have hT : lineT line = ⟨numV a0 10, numV a1 10, numV a2 10, numV a3 10⟩ := by unfold lineT; rw [hws]; rfl
      have q0 := gcell 0 (by omega)
      have q1 := gcell 1 (by omega)
      have q2 := gcell 2 (by omega)
      have q3 := gcell 3 (by omega)
      rw [hws] at q0 q1 q2 q3
      have p0 : ∀ w', Hid (Blk w' gi cur 3) → w'.cell? ⟨gi, 0, none⟩ = some (.int .i64 (numV a0 10)) := fun _ h => (h.out.cell 0).trans q0
      have p1 : ∀ w', Hid (Blk w' gi cur 3) → w'.cell? ⟨gi, 1, none⟩ = some (.int .i64 (numV a1 10)) := fun _ h => (h.out.cell 1).trans q1
      have p2 : ∀ w', Hid (Blk w' gi cur 3) → w'.cell? ⟨gi, 2, none⟩ = some (.int .i64 (numV a2 10)) := fun _ h => (h.out.cell 2).trans q2
      have p3 : ∀ w', Hid (Blk w' gi cur 3) → w'.cell? ⟨gi, 3, none⟩ = some (.int .i64 (numV a3 10)) := fun _ h => (h.out.cell 3).trans q3
      have HT := Lib.hid hT
      have k02 := k1.tr k2
      have hbk2 := HO.out.1.keep k02 (by simp)
      have ho3 := own_keep HO.out.2 k02 (by simp)
      have hE2 := HE.out.keep0 k02
      have HO2 := Lib.hid (And.intro hbk2 (And.intro ho3 hE2))
      have K02 := Lib.hid k02
      have HWS := Lib.hid hws
      have o0 : ∀ w', Keep [] w2 w' → w'.cell? ⟨ob, 0, none⟩ = some v := fun _ k => k.known (hbk2.cell 0) (by simp)
      clear hF hT hws hall ho2 gcell k1 k2 k02 hbk2 ho3 hE2 q0 q1 q2 q3
      have HBI := Lib.hid hbi
      have hob2 : ob ≠ gi := fun e => by have h1 := HO2.out.1; subst e; unfold Blk at h1 hbi; rw [h1] at hbi; simp at hbi
      clear hbi
      go_wp2_with fail
      have hsz2 : B ≤ w2.heap.size := Nat.le_trans hBw K02.out.size
      have bNew := Blk.new w2 (encTal ⟨numV a0 10, numV a1 10, numV a2 10, numV a3 10⟩).toArray 37
      have BN := Lib.hid bNew
      clear bNew
      refine wp_region_held_drew (S := (fun w' => Hid (Blk w' gi cur 3))) (by kernel_rfl) (by first | assumption | exact HBI.out | exact Blk.alloc HBI.out _ | exact hg4 | exact Blk.set_other hg4.out hob2.symm _ | exact (HBI.out.keep (((Keep.refl [] w2).alloc _).drew) (by simp))) (fun hHeld => ?_)
      refine wpAnyH_take (i := 1) (oi := _) (v := ?_) rfl (by kernel_rfl) (by kernel_rfl) (by kernel_rfl) (fun _ _ _ h => h) (Or.inl ⟨by rfl, ?_⟩) (by assumption) ?_
      rotate_left
      · (intro w hSw; (try dsimp only at hSw); go_simp; all_goals with_reducible rfl)
      simp only [Act.put]
      refine wpAnyH_take (i := 2) (oi := _) (v := ?_) rfl (by kernel_rfl) (by kernel_rfl) (by kernel_rfl) (fun _ _ _ h => h) (Or.inl ⟨by rfl, ?_⟩) (by assumption) ?_
      rotate_left
      · (intro w hSw; (try dsimp only at hSw); go_simp; all_goals with_reducible rfl)
      simp only [Act.put]
      refine wpAnyH_take (i := 3) (oi := _) (v := ?_) rfl (by kernel_rfl) (by kernel_rfl) (by kernel_rfl) (fun _ _ _ h => h) (Or.inl ⟨by rfl, ?_⟩) (by assumption) ?_
      rotate_left
      · (intro w hSw; (try dsimp only at hSw); go_simp; all_goals with_reducible rfl)
      simp only [Act.put]
      refine wpAnyH_take (i := 4) (oi := _) (v := ?_) rfl (by kernel_rfl) (by kernel_rfl) (by kernel_rfl) (fun _ _ _ h => h) (Or.inl ⟨by rfl, ?_⟩) (by assumption) ?_
      rotate_left
      · (intro w hSw; (try dsimp only at hSw); go_simp; all_goals with_reducible rfl)
      simp only [Act.put]
      refine wpAnyH_take (i := 5) (oi := _) (v := ?_) rfl (by kernel_rfl) (by kernel_rfl) (by kernel_rfl) (fun _ _ _ h => h) (Or.inl ⟨by rfl, ?_⟩) (by assumption) ?_
      rotate_left
      · (intro w hSw; (try dsimp only at hSw); go_simp; all_goals with_reducible rfl)
      simp only [Act.put]
      refine wpAnyH_take (i := 6) (oi := _) (v := ?_) rfl (by kernel_rfl) (by kernel_rfl) (by kernel_rfl) (fun _ _ _ h => h) (Or.inl ⟨by rfl, ?_⟩) (by assumption) ?_
      rotate_left
      · (intro w hSw; (try dsimp only at hSw); go_simp; all_goals with_reducible rfl)
      simp only [Act.put]
      refine wpAnyH_take (i := 7) (oi := _) (v := ?_) rfl (by kernel_rfl) (by kernel_rfl) (by kernel_rfl) (fun _ _ _ h => h) (Or.inl ⟨by rfl, ?_⟩) (by assumption) ?_
      rotate_left
      · (intro w hSw; (try dsimp only at hSw); go_simp; all_goals with_reducible rfl)
      simp only [Act.put]
      refine wpAnyH_take (i := 8) (oi := _) (v := ?_) rfl (by kernel_rfl) (by kernel_rfl) (by kernel_rfl) (fun _ _ _ h => h) (Or.inl ⟨by rfl, ?_⟩) (by assumption) ?_
      rotate_left
      · (intro w hSw; (try dsimp only at hSw); go_simp; all_goals with_reducible rfl)
      simp only [Act.put]
      refine wpAnyH_take (i := 9) (oi := _) (v := ?_) rfl (by kernel_rfl) (by kernel_rfl) (by kernel_rfl) (fun _ _ _ h => h) (Or.inl ⟨by rfl, ?_⟩) (by assumption) ?_
      rotate_left
      · (intro w hSw; (try dsimp only at hSw); go_simp; all_goals with_reducible rfl)
      simp only [Act.put]
      refine wpAnyH_take (i := 10) (oi := _) (v := ?_) rfl (by kernel_rfl) (by kernel_rfl) (by kernel_rfl) (fun _ _ _ h => h) (Or.inl ⟨by rfl, ?_⟩) (by assumption) ?_
      rotate_left
      · (intro w hSw; (try dsimp only at hSw); go_simp; all_goals with_reducible rfl)
      simp only [Act.put]
      refine wpAnyH_take (i := 11) (oi := _) (v := ?_) rfl (by kernel_rfl) (by kernel_rfl) (by kernel_rfl) (fun _ _ _ h => h) (Or.inl ⟨by rfl, ?_⟩) (by assumption) ?_
      rotate_left
      · (intro w hSw; (try dsimp only at hSw); go_simp; all_goals with_reducible rfl)
      simp only [Act.put]
      refine wpAnyH_take (i := 12) (oi := _) (v := ?_) rfl (by kernel_rfl) (by kernel_rfl) (by kernel_rfl) (fun _ _ _ h => h) (Or.inl ⟨by rfl, ?_⟩) (by assumption) ?_
      rotate_left
      · (intro w hSw; (try dsimp only at hSw); go_simp; all_goals with_reducible rfl)
      simp only [Act.put]
      refine wpAnyH_take (i := 13) (oi := _) (v := ?_) rfl (by kernel_rfl) (by kernel_rfl) (by kernel_rfl) (fun _ _ _ h => h) (Or.inl ⟨by rfl, ?_⟩) (by assumption) ?_
      rotate_left
      · (intro w hSw; (try dsimp only at hSw); go_simp; all_goals with_reducible rfl)
      simp only [Act.put]
      refine wpAnyH_take (i := 14) (oi := _) (v := ?_) rfl (by kernel_rfl) (by kernel_rfl) (by kernel_rfl) (fun _ _ _ h => h) (Or.inl ⟨by rfl, ?_⟩) (by assumption) ?_
      rotate_left
      · (intro w hSw; (try dsimp only at hSw); go_simp; all_goals with_reducible rfl)
      simp only [Act.put]
      refine wpAnyH_ready (rs := [0, 15]) (by kernel_rfl) (by simp) ?_
      refine AllReadyH.cons (o := _) rfl (fun K hK => ?_) ?_
      · go_simp
        refine hK.out _ _ ?_ (fun hHeld => ?_)
        · first | assumption | exact HBI.out | exact Blk.alloc HBI.out _ | exact hg4 | exact Blk.set_other hg4.out hob2.symm _ | exact (HBI.out.keep (((Keep.refl [] w2).alloc _).drew) (by simp))
        clear hK K
        try simp only [Act.put]
        refine wpAnyH_ready (rs := [15]) (by kernel_rfl) (by simp) ?_
        refine AllReadyH.cons (o := _) rfl (fun K hK => ?_) ?_
        · go_simp
          refine hK.out _ _ ?_ (fun hHeld => ?_)
          · first | assumption | exact HBI.out | exact Blk.alloc HBI.out _ | exact hg4 | exact Blk.set_other hg4.out hob2.symm _ | exact (HBI.out.keep (((Keep.refl [] w2).alloc _).drew) (by simp))
          clear hK K
          try simp only [Act.put]
          refine wpAnyH_ready (rs := [16]) (by kernel_rfl) (by simp) ?_
          refine AllReadyH.cons (o := _) rfl (fun K hK => ?_) ?_
          · (refine step_append1 rfl _ _ rfl elTal rfl w2.heap.size rfl BN.out (HO2.out.2.1.alloc _) rfl (by simp [encTal, Value.oneCell']) (by unfold maxLen; omega) (by omega) (by simp; omega) ?_; intro v4 w4 ho4 k4; have kx : Keep v.ownBlock.toList w2 w4 := ((((Keep.refl [] w2).alloc _).drew).mono (by simp)).tr k4; have hb4 := HO2.out.1.keep kx (own_apart HO2.out.2.1 HO2.out.1 (by decide)); have d4 := hb4.cell 0; have f4 := hb4.frozen 0; have hg4 : Hid (Blk w4 gi cur 3) := HBI.out.keep kx (own_apart HO2.out.2.1 HBI.out (by decide)); have KX := Lib.hid kx; have HO4 := Lib.hid ho4; have HB4 := Lib.hid hb4; clear k4 kx ho4 hb4; obtain ⟨ao, n4, cp, rfl⟩ := own_slice HO4.out)
            refine hK.out _ _ ?_ (fun hHeld => ?_)
            · first | assumption | exact HBI.out | exact Blk.alloc HBI.out _ | exact hg4 | exact Blk.set_other hg4.out hob2.symm _ | exact (HBI.out.keep (((Keep.refl [] w2).alloc _).drew) (by simp))
            clear hK K
            try simp only [Act.put]
            refine wpAnyH_ready (rs := [17]) (by kernel_rfl) (by simp) ?_
            refine AllReadyH.cons (o := _) rfl (fun K hK => ?_) ?_
            · go_simp
              refine hK.out _ _ ?_ (fun hHeld => ?_)
              · first | assumption | exact HBI.out | exact Blk.alloc HBI.out _ | exact hg4 | exact Blk.set_other hg4.out hob2.symm _ | exact (HBI.out.keep (((Keep.refl [] w2).alloc _).drew) (by simp))
              clear hK K
              try simp only [Act.put]
              refine wpAnyH_done (by kernel_rfl) ?_ _
              go_wp2_with fail
              go_ret
              have hend := read1_end hob hg1 hg2 hBw hst K02.out KX.out HO2.out HB4.out HO4.out
              exact ⟨by rw [HF.out, HT.out]; exact ⟨rfl, hend.1⟩, hend.2.1, hend.2.2⟩
            exact AllReadyH.nil
          exact AllReadyH.nil
        exact AllReadyH.nil
      refine AllReadyH.cons (o := _) rfl (fun K hK => ?_) ?_
      · go_simp
        refine hK.out _ _ ?_ (fun hHeld => ?_)
        · first | assumption | exact HBI.out | exact Blk.alloc HBI.out _ | exact hg4 | exact Blk.set_other hg4.out hob2.symm _ | exact (HBI.out.keep (((Keep.refl [] w2).alloc _).drew) (by simp))
        clear hK K
        try simp only [Act.put]
        refine wpAnyH_ready (rs := [0]) (by kernel_rfl) (by simp) ?_
        refine AllReadyH.cons (o := _) rfl (fun K hK => ?_) ?_
        · go_simp
          refine hK.out _ _ ?_ (fun hHeld => ?_)
          · first | assumption | exact HBI.out | exact Blk.alloc HBI.out _ | exact hg4 | exact Blk.set_other hg4.out hob2.symm _ | exact (HBI.out.keep (((Keep.refl [] w2).alloc _).drew) (by simp))
          clear hK K
          try simp only [Act.put]
          refine wpAnyH_ready (rs := [16]) (by kernel_rfl) (by simp) ?_
          refine AllReadyH.cons (o := _) rfl (fun K hK => ?_) ?_
          · (refine step_append1 rfl _ _ rfl elTal rfl w2.heap.size rfl BN.out (HO2.out.2.1.alloc _) rfl (by simp [encTal, Value.oneCell']) (by unfold maxLen; omega) (by omega) (by simp; omega) ?_; intro v4 w4 ho4 k4; have kx : Keep v.ownBlock.toList w2 w4 := ((((Keep.refl [] w2).alloc _).drew).mono (by simp)).tr k4; have hb4 := HO2.out.1.keep kx (own_apart HO2.out.2.1 HO2.out.1 (by decide)); have d4 := hb4.cell 0; have f4 := hb4.frozen 0; have hg4 : Hid (Blk w4 gi cur 3) := HBI.out.keep kx (own_apart HO2.out.2.1 HBI.out (by decide)); have KX := Lib.hid kx; have HO4 := Lib.hid ho4; have HB4 := Lib.hid hb4; clear k4 kx ho4 hb4; obtain ⟨ao, n4, cp, rfl⟩ := own_slice HO4.out)
            refine hK.out _ _ ?_ (fun hHeld => ?_)
            · first | assumption | exact HBI.out | exact Blk.alloc HBI.out _ | exact hg4 | exact Blk.set_other hg4.out hob2.symm _ | exact (HBI.out.keep (((Keep.refl [] w2).alloc _).drew) (by simp))
            clear hK K
            try simp only [Act.put]
            refine wpAnyH_ready (rs := [17]) (by kernel_rfl) (by simp) ?_
            refine AllReadyH.cons (o := _) rfl (fun K hK => ?_) ?_
            · go_simp
              refine hK.out _ _ ?_ (fun hHeld => ?_)
              · first | assumption | exact HBI.out | exact Blk.alloc HBI.out _ | exact hg4 | exact Blk.set_other hg4.out hob2.symm _ | exact (HBI.out.keep (((Keep.refl [] w2).alloc _).drew) (by simp))
              clear hK K
              try simp only [Act.put]
              refine wpAnyH_done (by kernel_rfl) ?_ _
              go_wp2_with fail
              go_ret
              have hend := read1_end hob hg1 hg2 hBw hst K02.out KX.out HO2.out HB4.out HO4.out
              exact ⟨by rw [HF.out, HT.out]; exact ⟨rfl, hend.1⟩, hend.2.1, hend.2.2⟩
            exact AllReadyH.nil
          exact AllReadyH.nil
        exact AllReadyH.nil
      exact AllReadyH.nil
    · have hF : lineF st line = none := by unfold lineF; rw [hL.out, hno]; rfl
      have HF := Lib.hid hF
      clear hF hno
      go_wp2_with fail
      go_ret
      exact ⟨by rw [HF.out]; exact rfl, fun b cs hb => hb.keep (k1.tr k2) (by simp), (k1.tr k2).toB hBw⟩
  · have hF : lineF st line = none := by unfold lineF lineOk; rw [hno]; rfl
    have HF := Lib.hid hF
    clear hF hno
    go_wp2_with fail
    go_ret
    exact ⟨by rw [HF.out]; exact rfl, fun b cs hb => hb.keep k1 (by simp), k1.toB hBw⟩
end Go.Proofs.YtonoknliloilfaaGreatDoor

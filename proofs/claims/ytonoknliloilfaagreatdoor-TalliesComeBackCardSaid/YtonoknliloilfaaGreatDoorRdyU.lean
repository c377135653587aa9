/- road.TimeOn at the arc of 'ready'. -/
import Derived.Test.YtonoknliloilfaaGreatDoorRdyT
namespace Go.Proofs.YtonoknliloilfaaGreatDoor
open Go.RowKit

def rvR (kb kc : Nat) : RV := ⟨[⟨⟨#[120]⟩, 0, 0⟩, ⟨⟨#[121]⟩, 0, 0⟩], [⟨⟨#[97]⟩, ⟨#[120]⟩, ⟨#[121]⟩, 5, some ⟨kb, 0, none⟩, 2, kc⟩], fun _ => [kn1, kn2], []⟩
theorem rvR_ok (kb kc : Nat) : roadsErr (rvR kb kc) = 0 := by rfl

set_option maxHeartbeats 8000000 in
set_option maxRecDepth 100000 in
theorem timeOn_rdy (kb kc : Nat) (w : World) (h : Row encKnt 2 w kb 0 [kn1, kn2]) (hb : kb < w.heap.size) :
    Calls Tryz.prog 24 #[.agg #[.string ⟨#[97]⟩, .string ⟨#[120]⟩, .string ⟨#[121]⟩, .int .i64 5, .slice (some ⟨kb, 0, none⟩) 2 kc], .int .i64 500] w fun e w' => e = .returned (.tuple #[.int .i64 350, .int .i64 0]) ∧ Keep [] w w' := by
  have hm : momB 500 = true := by decide
  have HR := Lib.hid h; clear h
  go_enter Tryz.func24, Tryz.ntmps24
  go_wp2_with fail
  have bA := (Blk.new w #[.string ⟨#[97]⟩, .string ⟨#[120]⟩, .string ⟨#[121]⟩, .int .i64 5, .slice (some ⟨kb, 0, none⟩) 2 kc] 71).alloc (.cells #[.string ⟨#[120]⟩, .string ⟨#[121]⟩] 9)
  have bS := Blk.new (w.alloc (.cells #[.string ⟨#[97]⟩, .string ⟨#[120]⟩, .string ⟨#[121]⟩, .int .i64 5, .slice (some ⟨kb, 0, none⟩) 2 kc] 71)) #[.string ⟨#[120]⟩, .string ⟨#[121]⟩] 9
  have kw : Keep [] w ((w.alloc (.cells #[.string ⟨#[97]⟩, .string ⟨#[120]⟩, .string ⟨#[121]⟩, .int .i64 5, .slice (some ⟨kb, 0, none⟩) 2 kc] 71)).alloc (.cells #[.string ⟨#[120]⟩, .string ⟨#[121]⟩] 9)) := ((Keep.refl _ _).alloc _).alloc _
  simp only [World.size_alloc] at bS
  generalize (w.alloc (.cells #[.string ⟨#[97]⟩, .string ⟨#[120]⟩, .string ⟨#[121]⟩, .int .i64 5, .slice (some ⟨kb, 0, none⟩) 2 kc] 71)).alloc (.cells #[.string ⟨#[120]⟩, .string ⟨#[121]⟩] 9) = W1 at *
  obtain ⟨D, hD⟩ : ∃ D, D = w.heap.size := ⟨_, rfl⟩
  rw [← hD] at bA bS ⊢
  have HD := Lib.hid hD; clear hD
  refine (sortXY _ _ _ (bS.cell 0) (bS.cell 1)).mono ?_
  rintro e W2 ⟨rfl, k2⟩
  replace bS := bS.keep k2 (by simp)
  replace bA := bA.keep k2 (by simp)
  replace kw := kw.tr k2
  go_wp2_with fail
  refine (compactXY _ _ _ (bS.cell 0) (bS.cell 1)).mono ?_
  rintro e W3 ⟨rfl, k3⟩
  replace bS := bS.keep k3 (by simp)
  replace bA := bA.keep k3 (by simp)
  replace kw := kw.tr k3
  clear k2 k3
  have s0 : ∀ w', Keep [] W3 w' → w'.cell? ⟨D + 1, 0, none⟩ = some (.string ⟨#[120]⟩) := fun _ k => k.known (bS.cell 0) (by simp)
  have s1 : ∀ w', Keep [] W3 w' → w'.cell? ⟨D + 1, 1, none⟩ = some (.string ⟨#[121]⟩) := fun _ k => k.known (bS.cell 1) (by simp)
  have hD3 : D ≤ W3.heap.size := by rw [HD.out]; exact kw.size
  have BA := Lib.hid bA
  have KW := Lib.hid kw
  clear bA bS kw
  go_wp2_with fail
  refine wp_loop_rounds 3 ?_
  rw [rounds_succ]
  go_wp2_with (at_builtin; refine wpList_append1 rfl _ _ rfl elNode rfl rfl (World.ownsRow_nil W3 D _ _) rfl (by simp [Value.oneCell']) (by unfold maxLen; omega) (by omega) hD3 ?_; intro v' W4 ho4 q4)
  have q4' : Keep [] W3 W4 := q4
  have HO4 := Lib.hid ho4
  have hD4 : D ≤ W4.heap.size := Nat.le_trans hD3 q4'.size
  clear q4 ho4
  rw [rounds_succ]
  go_wp2_with (at_builtin; refine wpList_append1 rfl _ _ rfl elNode rfl rfl HO4.out rfl (by simp [Value.oneCell']) (by unfold maxLen; omega) (by omega) hD4 ?_; intro v5 W5 ho5 q5)
  have q5' : Keep v'.ownBlock.toList W4 W5 := q5
  have hBA5 := (BA.out.keep q4' (by simp)).keep q5' (own_apart HO4.out (BA.out.keep q4' (by simp)) (by decide))
  have hw5 : Keep [] w W5 := (KW.out.tr q4').trans q5' (fun i hi hlt => by have := own_block HO4.out i hi; have := HD.out; omega)
  obtain ⟨g, cg, rfl, hg, hgl, _, gc, gf⟩ := own_cells ho5 (by omega)
  have hNd : Sl encNd 3 W5 (some ⟨g, 0, none⟩) 2 (rvR kb kc).nd := ⟨rfl, .inr ⟨g, 0, rfl, fun i j hi hj => by
    have := gc (i * 3 + j) (by simp [rvR] at hi; omega)
    rw [show 0 + i * 3 + j = i * 3 + j by omega, this]
    have hi' : i < 2 := hi
    match i, hi', j, hj with
    | 0, _, 0, _ => rfl
    | 0, _, 1, _ => rfl
    | 0, _, 2, _ => rfl
    | 1, _, 0, _ => rfl
    | 1, _, 1, _ => rfl
    | 1, _, 2, _ => rfl, hgl⟩⟩
  have HN := Lib.hid hNd
  have HW5 := Lib.hid hw5
  have HBA5 := Lib.hid hBA5
  clear hNd hw5 hBA5 gc gf q5 q5' ho5 s0 s1 hD3 hD4 q4'
  rw [rounds_succ]
  have a0 : ∀ w', Keep [] W5 w' → w'.cell? ⟨D, 0, none⟩ = some (.string ⟨#[97]⟩) := fun _ k => k.known (HBA5.out.cell 0) (by simp)
  have a1 : ∀ w', Keep [] W5 w' → w'.cell? ⟨D, 1, none⟩ = some (.string ⟨#[120]⟩) := fun _ k => k.known (HBA5.out.cell 1) (by simp)
  have a2 : ∀ w', Keep [] W5 w' → w'.cell? ⟨D, 2, none⟩ = some (.string ⟨#[121]⟩) := fun _ k => k.known (HBA5.out.cell 2) (by simp)
  have a3 : ∀ w', Keep [] W5 w' → w'.cell? ⟨D, 3, none⟩ = some (.int .i64 5) := fun _ k => k.known (HBA5.out.cell 3) (by simp)
  have a4 : ∀ w', Keep [] W5 w' → w'.cell? ⟨D, 4, none⟩ = some (.slice (some ⟨kb, 0, none⟩) 2 kc) := fun _ k => k.known (HBA5.out.cell 4) (by simp)
  go_wp2_with fail
  have bR := Blk.new W5 #[.string ⟨#[97]⟩, .string ⟨#[120]⟩, .string ⟨#[121]⟩, .int .i64 5, .slice (some ⟨kb, 0, none⟩) 2 kc] 71
  have kR : Keep [] W5 (W5.alloc (.cells #[.string ⟨#[97]⟩, .string ⟨#[120]⟩, .string ⟨#[121]⟩, .int .i64 5, .slice (some ⟨kb, 0, none⟩) 2 kc] 71)) := (Keep.refl _ _).alloc _
  generalize W5.alloc (.cells #[.string ⟨#[97]⟩, .string ⟨#[120]⟩, .string ⟨#[121]⟩, .int .i64 5, .slice (some ⟨kb, 0, none⟩) 2 kc] 71) = W6 at *
  generalize W5.heap.size = R at *
  have hAt : RoadsAt W6 (some ⟨g, 0, none⟩) 2 (some ⟨R, 0, none⟩) 1 none 0 (rvR kb kc) :=
    ⟨HN.out.keep0 kR, ⟨rfl, .inr ⟨R, 0, rfl, fun i j hi hj => by
      have hi' : i < 1 := hi
      obtain rfl : i = 0 := by omega
      rw [show 0 + 0 * 5 + j = j by omega, bR.cell]
      match j, hj with
      | 0, _ => rfl
      | 1, _ => rfl
      | 2, _ => rfl
      | 3, _ => rfl
      | 4, _ => rfl, bR.lt⟩⟩, ⟨rfl, .inl rfl⟩, fun i hi => by
      obtain rfl : i = 0 := by omega
      exact ⟨⟨rfl, .inr ⟨kb, 0, rfl, HR.out.keep (S := []) (HW5.out.tr kR) hb (by simp), Nat.lt_of_lt_of_le hb (HW5.out.tr kR).size⟩⟩, by show 2 ≤ 1000000; omega⟩⟩
  have hSz : (rvR kb kc).Sized := ⟨fun i => by
      match i with
      | 0 => show 1 ≤ _; omega
      | 1 => show 1 ≤ _; omega
      | i + 2 => show 0 ≤ _; omega, fun i => by
      match i with
      | 0 => show 1 ≤ _; omega
      | i + 1 => show 0 ≤ _; omega⟩
  have hcr := checkRoads_any (some ⟨g, 0, none⟩) 2 cg (some ⟨R, 0, none⟩) 1 1 none 0 0 (rvR kb kc) W6 hAt hSz (by omega) (by omega) (by omega)
  rw [rvR_ok] at hcr
  have HCR := Lib.hid hcr
  clear hcr hAt hSz bR a0 a1 a2 a3 a4
  refine HCR.out.mono ?_
  rintro e W7 ⟨rfl, k7⟩
  have k57 := kR.tr k7
  have hT := time_rdy D kb kc W7 ((HBA5.out.keep k57 (by simp)).cell 4) (HR.out.keep (S := []) (HW5.out.tr k57) hb (by simp)) (Nat.lt_of_lt_of_le hb (HW5.out.tr k57).size)
  have HT := Lib.hid hT
  have HK := Lib.hid (HW5.out.tr k57)
  clear hT kR k7 k57
  go_wp2_with (first | (go_at_call 46; refine (moment_any _ _).mono ?_; rintro e w' ⟨rfl, rfl⟩) | (go_at_call 47; refine (HT.out).mono ?_; rintro e w' ⟨rfl, k8⟩))
  go_ret2
  exact ⟨rfl, HK.out.tr k8⟩
end Go.Proofs.YtonoknliloilfaaGreatDoor

/- The contract of road.CheckRoads. -/
import Derived.Test.YtonoknliloilfaaGreatDoorRd3
namespace Go.Proofs.YtonoknliloilfaaGreatDoor
open Go.RowKit

theorem decS (a b : ByteArray) (h : cmpS a b ≤ 0) : (Op.bytesLess a.toList b.toList || a.toList == b.toList) = true := by rw [leq_cmpS]; exact decide_eq_true h
theorem decS' (a b : ByteArray) (h : ¬ cmpS a b ≤ 0) : (Op.bytesLess a.toList b.toList || a.toList == b.toList) = false := by rw [leq_cmpS]; exact decide_eq_false h
theorem eqS (a b : ByteArray) (h : a = b) : (a.toList == b.toList) = true := by rw [eq_cmpS]; exact decide_eq_true h
theorem eqS' (a b : ByteArray) (h : ¬ a = b) : (a.toList == b.toList) = false := by rw [eq_cmpS]; exact decide_eq_false h
theorem bne_t {a : Int} (h : a ≠ 0) : (a != 0) = true := by simpa using h
theorem bne_f {a : Int} (h : a = 0) : (a != 0) = false := by simpa using h

set_option maxHeartbeats 8000000 in
set_option maxRecDepth 100000 in
theorem checkRoads_any (pn : Option Addr) (nn nc : Nat) (pa : Option Addr) (na ac : Nat) (pb : Option Addr) (nb bc : Nat) (v : RV) (w : World) (h : RoadsAt w pn nn pa na pb nb v) (hs : v.Sized)
    (hm1 : nn ≤ 1000000) (hm2 : na ≤ 1000000) (hm3 : nb ≤ 1000000) :
    Calls Tryz.prog 45 #[.agg #[.slice pn nn nc, .slice pa na ac, .slice pb nb bc]] w fun e w' => e = .returned (.int .i64 (roadsErr v)) ∧ Keep [] w w' := by
  have H := Lib.hid h
  have HS := Lib.hid hs
  have hln : Hid (v.nd.length = nn) := h.1.1
  have hla : Hid (v.ac.length = na) := h.2.1.1
  have hlb : Hid (v.bn.length = nb) := h.2.2.1.1
  clear h hs
  have hnf : ∀ W, Keep [] w W → Calls Tryz.prog 72 #[.slice pn nn nc] W fun e w' => e = .returned (.int .i64 (ndsErr v.nd)) ∧ Keep [] W w' := fun W kp => nodesFault_sl pn nn nc v.nd W (H.out.1.keep0 kp) hm1 HS.out.1
  go_enter Tryz.func45, Tryz.ntmps45
  go_wp2_with fail
  have kp0 : Keep [] w (w.alloc (.cells #[.slice pn nn nc, .slice pa na ac, .slice pb nb bc] 105)) := (Keep.refl _ _).alloc _
  have b1 := Blk.new w #[.slice pn nn nc, .slice pa na ac, .slice pb nb bc] 105
  generalize w.alloc (.cells #[.slice pn nn nc, .slice pa na ac, .slice pb nb bc] 105) = W0 at *
  generalize w.heap.size = B at *
  have r0 : ∀ w', Keep [] W0 w' → w'.cell? ⟨B, 0, none⟩ = some (.slice pn nn nc) := fun _ k => k.known (b1.cell 0) (by simp)
  have r1 : ∀ w', Keep [] W0 w' → w'.cell? ⟨B, 1, none⟩ = some (.slice pa na ac) := fun _ k => k.known (b1.cell 1) (by simp)
  have r2 : ∀ w', Keep [] W0 w' → w'.cell? ⟨B, 2, none⟩ = some (.slice pb nb bc) := fun _ k => k.known (b1.cell 2) (by simp)
  have kup : ∀ w', Keep [] W0 w' → Keep [] w w' := fun _ k => kp0.tr k
  clear b1
  refine (hnf _ kp0).mono ?_
  rintro e w' ⟨rfl, kp1⟩
  clear hnf
  by_cases hnz : ndsErr v.nd ≠ 0
  · have HF : Hid (roadsErr v = ndsErr v.nd) := by show _ = _; rw [roadsErr, if_pos hnz]
    have hz := bne_t hnz
    go_wp2_with fail
    go_ret
    exact ⟨ret_int HF.out.symm, kup _ (by repeat (first | with_reducible assumption | with_reducible apply Keep.drew | with_reducible apply Keep.drewN | with_reducible apply Keep.alloc | with_reducible exact Keep.refl _ _))⟩
  have hnz : ndsErr v.nd = 0 := by simpa using hnz
  have hz := bne_f hnz
  have HN := Lib.hid hnz
  by_cases hbig : 2000 < na
  · have HF : Hid (roadsErr v = 2) := by show _ = _; rw [roadsErr, if_neg (by simpa using hnz), if_pos (by rw [hla.out]; exact hbig)]
    go_wp2_with fail
    go_ret
    exact ⟨ret_int HF.out.symm, kup _ (by repeat (first | with_reducible assumption | with_reducible apply Keep.drew | with_reducible apply Keep.drewN | with_reducible apply Keep.alloc | with_reducible exact Keep.refl _ _))⟩
  have HR : Hid (roadsErr v = if firstErr (acErr v) v.ac.length ≠ 0 then firstErr (acErr v) v.ac.length else if 1000 < v.bn.length then 2 else firstErr (bnErr v) v.bn.length) := by
    show _ = _; rw [roadsErr, if_neg (by simpa using hnz), if_neg (by rw [hla.out]; exact hbig)]
  have hnode : ∀ W key, Keep [] W0 W → Calls Tryz.prog 74 #[.pointer (some ⟨B, 0, none⟩), .string key] W fun e w' => e = .returned (.int .i64 (nodeOf v key)) ∧ Keep [] W w' := fun W key kp => by
    have h := node_sl B nn nc pn v.nd key W (H.out.1.keep0 (kup _ kp)) hm1 (r0 _ kp) (by have := rise_of_nds HN.out; rw [hln.out] at this; exact this)
    rw [← hln.out] at h; exact h
  have HNODE := Lib.hid hnode
  clear hnz hnode
  go_wp2_with fail
  go_loopw [24] (fun i wr => ∃ k : Nat, k ≤ na ∧ i = .int .i64 k ∧ Keep [] W0 wr ∧ Hid (∀ j, j < k → acErr v j = 0)) (fun i wr => na - (intOf i).toNat)
  case atStart => exact ⟨0, Nat.zero_le _, rfl, kp1, fun j hj => by omega⟩
  case round =>
    obtain ⟨k, hk, rfl, kp, hzz⟩ := hrel
    by_cases hlt : k < na
    · obtain ⟨b, off, hpa, row, hb⟩ := (H.out.2.1.keep0 (kup _ kp)).2.resolve_left (by omega)
      subst hpa
      obtain ⟨t, ht⟩ : ∃ t, v.ac.getD k default = t := ⟨_, rfl⟩
      have c0 : wr.cell? ⟨b, off + k * 5, none⟩ = some (.string t.key) := row.known 0 (by rw [hla.out]; omega) (by omega) (by rw [ht]; rfl) wr (Keep.refl _ _)
      have c1 : wr.cell? ⟨b, off + k * 5 + 1, none⟩ = some (.string t.frm) := row.known 1 (by rw [hla.out]; omega) (by omega) (by rw [ht]; rfl) wr (Keep.refl _ _)
      have c2 : wr.cell? ⟨b, off + k * 5 + 2, none⟩ = some (.string t.to) := row.known 2 (by rw [hla.out]; omega) (by omega) (by rw [ht]; rfl) wr (Keep.refl _ _)
      have c3 : wr.cell? ⟨b, off + k * 5 + 3, none⟩ = some (.int .i64 t.long) := row.known 3 (by rw [hla.out]; omega) (by omega) (by rw [ht]; rfl) wr (Keep.refl _ _)
      have c4 : wr.cell? ⟨b, off + k * 5 + 4, none⟩ = some (.slice t.kp t.kn t.kc) := row.known 4 (by rw [hla.out]; omega) (by omega) (by rw [ht]; rfl) wr (Keep.refl _ _)
      have HF : Hid (acErr v k ≠ 0 → roadsErr v = acErr v k) := fun he => by
        have := firstErr_at (n := v.ac.length) hzz.out (by rw [hla.out]; exact hlt) he
        rw [HR.out, this, if_pos he]
      have hnext : Hid (acErr v k = 0 → ∀ j, j < k + 1 → acErr v j = 0) := fun he j hj => by
        by_cases e : j = k
        · rw [e]; exact he
        · exact hzz.out j (by omega)
      have HE : Hid (acErr v k = if keyB t.key = false then 5 else if 0 < k ∧ cmpS (acKey v.ac k) (acKey v.ac (k - 1)) ≤ 0 then 7 else if nodeOf v t.frm < 0 ∨ nodeOf v t.to < 0 then 8 else if t.frm = t.to then 6 else if outB t.long 1 1000000 = true then 1 else knsErr (v.ks k)) := by
        show _ = _; rw [acErr, ht]
      have hsk : t.key.size ≤ 9223372036854775807 := by rw [← ht]; exact HS.out.2 k
      have hkn : ∀ W, Keep [] W0 W → Calls Tryz.prog 75 #[.slice t.kp t.kn t.kc] W fun e w' => e = .returned (.int .i64 (knsErr (v.ks k))) ∧ Keep [] W w' := fun W kp => by
        have h := (H.out.2.2.2 k hlt); rw [ht] at h
        exact knotsFault_sl t.kp t.kn t.kc (v.ks k) W (h.1.keep0 (kup _ kp)) h.2
      have HKN := Lib.hid hkn
      have hdd : Hid (∀ u, v.ac.getD (k - 1) default = u → 0 < k → ∀ w', Keep [] wr w' → w'.cell? ⟨b, off + (k - 1) * 5, none⟩ = some (.string u.key)) := fun u hu h0 => row.known 0 (by rw [hla.out]; omega) (by omega) (by rw [hu]; rfl)
      have hka : Hid (acKey v.ac k = t.key) := by show _ = _; rw [acKey, ht]
      clear row hkn ht
      go_wp2_with fail
      have kp2 : Keep [] W0 (wr.alloc (.cells #[.string t.key, .string t.frm, .string t.to, .int .i64 t.long, .slice t.kp t.kn t.kc] 71)) := kp.alloc _
      have kp3 : Keep [] wr (wr.alloc (.cells #[.string t.key, .string t.frm, .string t.to, .int .i64 t.long, .slice t.kp t.kn t.kc] 71)) := (Keep.refl _ _).alloc _
      have b2 := Blk.new wr #[.string t.key, .string t.frm, .string t.to, .int .i64 t.long, .slice t.kp t.kn t.kc] 71
      generalize wr.alloc (.cells #[.string t.key, .string t.frm, .string t.to, .int .i64 t.long, .slice t.kp t.kn t.kc] 71) = W1 at *
      generalize wr.heap.size = B1 at *
      have s0 : ∀ w', Keep [] W1 w' → w'.cell? ⟨B1, 0, none⟩ = some (.string t.key) := fun _ k => k.known (b2.cell 0) (by simp)
      have s1 : ∀ w', Keep [] W1 w' → w'.cell? ⟨B1, 1, none⟩ = some (.string t.frm) := fun _ k => k.known (b2.cell 1) (by simp)
      have s2 : ∀ w', Keep [] W1 w' → w'.cell? ⟨B1, 2, none⟩ = some (.string t.to) := fun _ k => k.known (b2.cell 2) (by simp)
      have s3 : ∀ w', Keep [] W1 w' → w'.cell? ⟨B1, 3, none⟩ = some (.int .i64 t.long) := fun _ k => k.known (b2.cell 3) (by simp)
      have s4 : ∀ w', Keep [] W1 w' → w'.cell? ⟨B1, 4, none⟩ = some (.slice t.kp t.kn t.kc) := fun _ k => k.known (b2.cell 4) (by simp)
      have q1 : ∀ w', Keep [] W1 w' → w'.cell? ⟨B, 1, none⟩ = some (.slice (some ⟨b, off, none⟩) na ac) := fun _ k => r1 _ (kp2.tr k)
      have kup2 : ∀ w', Keep [] W1 w' → Keep [] w w' := fun _ k => kup _ (kp2.tr k)
      have kup3 : ∀ w', Keep [] W1 w' → Keep [] W0 w' := fun _ k => kp2.tr k
      have hnode : ∀ W key, Keep [] W1 W → Calls Tryz.prog 74 #[.pointer (some ⟨B, 0, none⟩), .string key] W fun e w' => e = .returned (.int .i64 (nodeOf v key)) ∧ Keep [] W1 w' := fun W key k => (HNODE.out W key (kp2.tr k)).mono fun _ _ h => ⟨h.1, k.tr h.2⟩
      have hkn : ∀ W, Keep [] W1 W → Calls Tryz.prog 75 #[.slice t.kp t.kn t.kc] W fun e w' => e = .returned (.int .i64 (knsErr (v.ks k))) ∧ Keep [] W1 w' := fun W k => (HKN.out W (kp2.tr k)).mono fun _ _ h => ⟨h.1, k.tr h.2⟩
      clear b2 c0 c1 c2 c3 c4 r0 r1 r2 kup kp0
      by_cases hkey : keyB t.key = true
      · have hsplit : (k = 0 ∧ k ≤ 0 ∧ decide ((0 : Int) < (k : Int)) = false ∧ decide (0 < k) = false) ∨
            (∃ u, v.ac.getD (k - 1) default = u ∧ decide ((0 : Int) < (k : Int)) = true ∧ decide (0 < k) = true ∧ 1 ≤ k ∧ IntKind.i64.wrap ((k : Int) - 1) = ((k - 1 : Nat) : Int) ∧ k - 1 < na ∧ (∀ w', Keep [] W1 w' → w'.cell? ⟨b, off + (k - 1) * 5, none⟩ = some (.string u.key))) := by
          by_cases hk0 : k = 0
          · exact Or.inl ⟨hk0, by omega, by simp; omega, by simp; omega⟩
          · exact Or.inr ⟨_, rfl, by simp; omega, by simp; omega, by omega, by rw [IntWalk.i64_in _ (by omega)]; omega, by omega, fun w' kw => hdd.out _ rfl (by omega) w' (kp3.tr kw)⟩
        by_cases hord : 0 < k ∧ cmpS (acKey v.ac k) (acKey v.ac (k - 1)) ≤ 0
        · rcases hsplit with ⟨e, _⟩ | ⟨u, hu, hk2, hk3, hk4, hk5, hk6, d0⟩
          · omega
          · have hE : Hid (acErr v k = 7) := by show _ = _; rw [HE.out, if_neg (by simp [hkey]), if_pos hord]
            have hq := decS t.key u.key (by have := hord.2; rw [hka.out] at this; unfold acKey at this; rw [hu] at this; exact this)
            clear hord hu
            go_wp2_with (go_at_call 73; refine (key_any _ _ hsk).mono ?_; rintro e w' ⟨rfl, rfl⟩)
            go_quiet (fail)
            go_wp2_with fail
            go_ret
            exact ⟨ret_int (by rw [HF.out (by rw [hE.out]; decide), hE.out]), kup2 _ (by repeat (first | with_reducible assumption | with_reducible apply Keep.drew | with_reducible apply Keep.drewN | with_reducible apply Keep.alloc | with_reducible exact Keep.refl _ _))⟩
        · have hq : Hid (∀ u, v.ac.getD (k - 1) default = u → 1 ≤ k → (Op.bytesLess t.key.toList u.key.toList || t.key.toList == u.key.toList) = false) := fun u hu h1 =>
            decS' t.key u.key (fun h => hord ⟨h1, by rw [hka.out]; unfold acKey; rw [hu]; exact h⟩)
          have HE2 : Hid (acErr v k = if nodeOf v t.frm < 0 ∨ nodeOf v t.to < 0 then 8 else if t.frm = t.to then 6 else if outB t.long 1 1000000 = true then 1 else knsErr (v.ks k)) := by
            show _ = _; rw [HE.out, if_neg (by simp [hkey]), if_neg hord]
          clear hord
          have hsp : (k ≤ 0 ∧ decide ((0 : Int) < (k : Int)) = false ∧ decide (0 < k) = false) ∨
              (∃ u : Ac, decide ((0 : Int) < (k : Int)) = true ∧ decide (0 < k) = true ∧ 1 ≤ k ∧ IntKind.i64.wrap ((k : Int) - 1) = ((k - 1 : Nat) : Int) ∧ k - 1 < na ∧ (Op.bytesLess t.key.toList u.key.toList || t.key.toList == u.key.toList) = false ∧ (∀ w', Keep [] W1 w' → w'.cell? ⟨b, off + (k - 1) * 5, none⟩ = some (.string u.key))) := by
            rcases hsplit with ⟨e, h1, h2, h3⟩ | ⟨u, hu, hk2, hk3, hk4, hk5, hk6, d0⟩
            · exact Or.inl ⟨h1, h2, h3⟩
            · exact Or.inr ⟨u, hk2, hk3, hk4, hk5, hk6, hq.out u hu hk4, d0⟩
          clear hsplit hq hdd hka HE HKN HNODE H HS HN
          -- BEG
          by_cases hn1 : nodeOf v t.frm < 0
          · have hE : Hid (acErr v k = 8) := by show _ = _; rw [HE2.out, if_pos (Or.inl hn1)]
            rcases hsp with ⟨hk1, hk2, hk3⟩ | ⟨u, hk2, hk3, hk4, hk5, hk6, hleq, d0⟩
            all_goals go_wp2_with (go_at_call 73; refine (key_any _ _ hsk).mono ?_; rintro e w' ⟨rfl, rfl⟩)
            all_goals go_quiet (fail)
            all_goals go_wp2_with (go_at_call 74; refine (hnode _ _ (by repeat (first | with_reducible assumption | with_reducible apply Keep.drew | with_reducible apply Keep.drewN | with_reducible apply Keep.alloc | with_reducible exact Keep.refl _ _))).mono ?_; rintro e w' ⟨rfl, hk⟩)
            all_goals go_ret
            all_goals exact ⟨ret_int (by rw [HF.out (by rw [hE.out]; decide), hE.out]), kup2 _ (by repeat (first | with_reducible assumption | with_reducible apply Keep.drew | with_reducible apply Keep.drewN | with_reducible apply Keep.alloc | with_reducible exact Keep.refl _ _))⟩
          · have hn1' : 0 ≤ nodeOf v t.frm := by omega
            by_cases hn2 : nodeOf v t.to < 0
            · have hE : Hid (acErr v k = 8) := by show _ = _; rw [HE2.out, if_pos (Or.inr hn2)]
              rcases hsp with ⟨hk1, hk2, hk3⟩ | ⟨u, hk2, hk3, hk4, hk5, hk6, hleq, d0⟩
              all_goals go_wp2_with (go_at_call 73; refine (key_any _ _ hsk).mono ?_; rintro e w' ⟨rfl, rfl⟩)
              all_goals go_quiet (fail)
              all_goals go_wp2_with (go_at_call 74; refine (hnode _ _ (by repeat (first | with_reducible assumption | with_reducible apply Keep.drew | with_reducible apply Keep.drewN | with_reducible apply Keep.alloc | with_reducible exact Keep.refl _ _))).mono ?_; rintro e w' ⟨rfl, hk⟩)
              all_goals go_ret
              all_goals exact ⟨ret_int (by rw [HF.out (by rw [hE.out]; decide), hE.out]), kup2 _ (by repeat (first | with_reducible assumption | with_reducible apply Keep.drew | with_reducible apply Keep.drewN | with_reducible apply Keep.alloc | with_reducible exact Keep.refl _ _))⟩
            · have hn2' : 0 ≤ nodeOf v t.to := by omega
              have HE3 : Hid (acErr v k = if t.frm = t.to then 6 else if outB t.long 1 1000000 = true then 1 else knsErr (v.ks k)) := by
                show _ = _; rw [HE2.out, if_neg (by omega)]
              by_cases heq : t.frm = t.to
              · have hE : Hid (acErr v k = 6) := by show _ = _; rw [HE3.out, if_pos heq]
                have hes := eqS t.frm t.to heq
                clear heq
                rcases hsp with ⟨hk1, hk2, hk3⟩ | ⟨u, hk2, hk3, hk4, hk5, hk6, hleq, d0⟩
                all_goals go_wp2_with (go_at_call 73; refine (key_any _ _ hsk).mono ?_; rintro e w' ⟨rfl, rfl⟩)
                all_goals go_quiet (fail)
                all_goals go_wp2_with (go_at_call 74; refine (hnode _ _ (by repeat (first | with_reducible assumption | with_reducible apply Keep.drew | with_reducible apply Keep.drewN | with_reducible apply Keep.alloc | with_reducible exact Keep.refl _ _))).mono ?_; rintro e w' ⟨rfl, hk⟩)
                all_goals go_ret
                all_goals exact ⟨ret_int (by rw [HF.out (by rw [hE.out]; decide), hE.out]), kup2 _ (by repeat (first | with_reducible assumption | with_reducible apply Keep.drew | with_reducible apply Keep.drewN | with_reducible apply Keep.alloc | with_reducible exact Keep.refl _ _))⟩
              · have hes := eqS' t.frm t.to heq
                by_cases hout : outB t.long 1 1000000 = true
                · have hE : Hid (acErr v k = 1) := by show _ = _; rw [HE3.out, if_neg heq, if_pos hout]
                  clear heq
                  rcases hsp with ⟨hk1, hk2, hk3⟩ | ⟨u, hk2, hk3, hk4, hk5, hk6, hleq, d0⟩
                  all_goals go_wp2_with (go_at_call 73; refine (key_any _ _ hsk).mono ?_; rintro e w' ⟨rfl, rfl⟩)
                  all_goals go_quiet (fail)
                  all_goals go_wp2_with (first | (go_at_call 74; refine (hnode _ _ (by repeat (first | with_reducible assumption | with_reducible apply Keep.drew | with_reducible apply Keep.drewN | with_reducible apply Keep.alloc | with_reducible exact Keep.refl _ _))).mono ?_; rintro e w' ⟨rfl, hk⟩) | (go_at_call 31; refine (out_any _ _ _ _).mono ?_; rintro e w' ⟨rfl, rfl⟩))
                  all_goals go_ret
                  all_goals exact ⟨ret_int (by rw [HF.out (by rw [hE.out]; decide), hE.out]), kup2 _ (by repeat (first | with_reducible assumption | with_reducible apply Keep.drew | with_reducible apply Keep.drewN | with_reducible apply Keep.alloc | with_reducible exact Keep.refl _ _))⟩
                · have hout : outB t.long 1 1000000 = false := by simpa using hout
                  have hE : Hid (acErr v k = knsErr (v.ks k)) := by show _ = _; rw [HE3.out, if_neg heq, if_neg (by rw [hout]; decide)]
                  clear heq
                  by_cases hkz : knsErr (v.ks k) = 0
                  · have hkb := bne_f hkz
                    have hE0 : Hid (acErr v k = 0) := by show _ = _; rw [hE.out, hkz]
                    clear hkz
                    rcases hsp with ⟨hk1, hk2, hk3⟩ | ⟨u, hk2, hk3, hk4, hk5, hk6, hleq, d0⟩
                    all_goals go_wp2_with (go_at_call 73; refine (key_any _ _ hsk).mono ?_; rintro e w' ⟨rfl, rfl⟩)
                    all_goals go_quiet (fail)
                    all_goals go_wp2_with (first | (go_at_call 74; refine (hnode _ _ (by repeat (first | with_reducible assumption | with_reducible apply Keep.drew | with_reducible apply Keep.drewN | with_reducible apply Keep.alloc | with_reducible exact Keep.refl _ _))).mono ?_; rintro e w' ⟨rfl, hk⟩) | (go_at_call 31; refine (out_any _ _ _ _).mono ?_; rintro e w' ⟨rfl, rfl⟩) | (go_at_call 75; refine (hkn _ (by repeat (first | with_reducible assumption | with_reducible apply Keep.drew | with_reducible apply Keep.drewN | with_reducible apply Keep.alloc | with_reducible exact Keep.refl _ _))).mono ?_; rintro e w' ⟨rfl, hk⟩))
                    all_goals (refine ⟨?_, by (simp [intOf]; omega)⟩; first | exact ⟨k + 1, by omega, by go_num, kup3 _ (by repeat (first | with_reducible assumption | with_reducible apply Keep.drew | with_reducible apply Keep.drewN | with_reducible apply Keep.alloc | with_reducible exact Keep.refl _ _)), hnext.out hE0.out⟩ | exact ⟨rfl, ⟨k + 1, by omega, by go_num, kup3 _ (by repeat (first | with_reducible assumption | with_reducible apply Keep.drew | with_reducible apply Keep.drewN | with_reducible apply Keep.alloc | with_reducible exact Keep.refl _ _)), hnext.out hE0.out⟩⟩ | ((repeat apply Exists.intro); refine ⟨?_, rfl⟩; exact ⟨k + 1, by omega, by go_num, kup3 _ (by repeat (first | with_reducible assumption | with_reducible apply Keep.drew | with_reducible apply Keep.drewN | with_reducible apply Keep.alloc | with_reducible exact Keep.refl _ _)), hnext.out hE0.out⟩) | (refine ⟨rfl, ?_⟩; (repeat apply Exists.intro); refine ⟨?_, rfl⟩; exact ⟨k + 1, by omega, by go_num, kup3 _ (by repeat (first | with_reducible assumption | with_reducible apply Keep.drew | with_reducible apply Keep.drewN | with_reducible apply Keep.alloc | with_reducible exact Keep.refl _ _)), hnext.out hE0.out⟩))
                  · have hkb := bne_t hkz
                    have hE1 : Hid (acErr v k ≠ 0) := by show _ ≠ _; rw [hE.out]; exact hkz
                    rcases hsp with ⟨hk1, hk2, hk3⟩ | ⟨u, hk2, hk3, hk4, hk5, hk6, hleq, d0⟩
                    all_goals go_wp2_with (go_at_call 73; refine (key_any _ _ hsk).mono ?_; rintro e w' ⟨rfl, rfl⟩)
                    all_goals go_quiet (fail)
                    all_goals go_wp2_with (first | (go_at_call 74; refine (hnode _ _ (by repeat (first | with_reducible assumption | with_reducible apply Keep.drew | with_reducible apply Keep.drewN | with_reducible apply Keep.alloc | with_reducible exact Keep.refl _ _))).mono ?_; rintro e w' ⟨rfl, hk⟩) | (go_at_call 31; refine (out_any _ _ _ _).mono ?_; rintro e w' ⟨rfl, rfl⟩) | (go_at_call 75; refine (hkn _ (by repeat (first | with_reducible assumption | with_reducible apply Keep.drew | with_reducible apply Keep.drewN | with_reducible apply Keep.alloc | with_reducible exact Keep.refl _ _))).mono ?_; rintro e w' ⟨rfl, hk⟩))
                    all_goals go_ret
                    all_goals exact ⟨ret_int (by rw [HF.out hE1.out, hE.out]), kup2 _ (by repeat (first | with_reducible assumption | with_reducible apply Keep.drew | with_reducible apply Keep.drewN | with_reducible apply Keep.alloc | with_reducible exact Keep.refl _ _))⟩
          -- END
      · have hkey : keyB t.key = false := by simpa using hkey
        have hE : Hid (acErr v k = 5) := by show _ = _; rw [HE.out, if_pos hkey]
        go_wp2_with (go_at_call 73; refine (key_any _ _ hsk).mono ?_; rintro e w' ⟨rfl, rfl⟩)
        go_ret
        exact ⟨ret_int (by rw [HF.out (by rw [hE.out]; decide), hE.out]), kup2 _ (by repeat (first | with_reducible assumption | with_reducible apply Keep.drew | with_reducible apply Keep.drewN | with_reducible apply Keep.alloc | with_reducible exact Keep.refl _ _))⟩
    · have hac0 : Hid (firstErr (acErr v) v.ac.length = 0) := firstErr_zero fun j hj => hzz.out j (by have := hla.out; omega)
      have hrise : Hid (Rise (acKey v.ac) na) := rise_of_acs fun j hj => hzz.out j (by omega)
      have HR2 : Hid (roadsErr v = if 1000 < v.bn.length then 2 else firstErr (bnErr v) v.bn.length) := by show _ = _; rw [HR.out, if_neg (by rw [hac0.out]; simp)]
      clear hzz HR hac0
      by_cases hbig2 : 1000 < nb
      · have hE : Hid (roadsErr v = 2) := by show _ = _; rw [HR2.out, if_pos (by rw [hlb.out]; exact hbig2)]
        go_wp2_with fail
        go_ret
        exact ⟨ret_int hE.out.symm, kup _ kp⟩
      have HR3 : Hid (roadsErr v = firstErr (bnErr v) v.bn.length) := by show _ = _; rw [HR2.out, if_neg (by rw [hlb.out]; exact hbig2)]
      have harc : ∀ W key, Keep [] W0 W → Calls Tryz.prog 76 #[.pointer (some ⟨B, 0, none⟩), .string key] W fun e w' => e = .returned (.int .i64 (arcOf v key)) ∧ Keep [] W w' := fun W key kp => by
        have h := arc_sl B na ac pa v.ac key W (H.out.2.1.keep0 (kup _ kp)) hm2 (r1 _ kp) hrise.out
        have e : arcOf v key = atF (acKey v.ac) key na := by unfold arcOf; rw [hla.out]
        rw [e]; exact h
      have HARC := Lib.hid harc
      clear harc HR2 HNODE hrise
      go_wp2_with fail
      go_loopw [84] (fun i wr => ∃ k : Nat, k ≤ nb ∧ i = .int .i64 k ∧ Keep [] W0 wr ∧ Hid (∀ j, j < k → bnErr v j = 0)) (fun i wr => nb - (intOf i).toNat)
      case atStart => exact ⟨0, Nat.zero_le _, rfl, kp, fun j hj => by omega⟩
      case round =>
        clear kp
        obtain ⟨k, hk, rfl, kp, hzz⟩ := hrel
        by_cases hlt : k < nb
        · obtain ⟨b, off, hpb, row, hb⟩ := (H.out.2.2.1.keep0 (kup _ kp)).2.resolve_left (by omega)
          subst hpb
          obtain ⟨t, ht⟩ : ∃ t, v.bn.getD k default = t := ⟨_, rfl⟩
          have c0 : wr.cell? ⟨b, off + k * 2, none⟩ = some (.string t.frm) := row.known 0 (by rw [hlb.out]; omega) (by omega) (by rw [ht]; rfl) wr (Keep.refl _ _)
          have c1 : wr.cell? ⟨b, off + k * 2 + 1, none⟩ = some (.string t.to) := row.known 1 (by rw [hlb.out]; omega) (by omega) (by rw [ht]; rfl) wr (Keep.refl _ _)
          have HF : Hid (bnErr v k ≠ 0 → roadsErr v = bnErr v k) := fun he => by
            have := firstErr_at (n := v.bn.length) hzz.out (by rw [hlb.out]; exact hlt) he
            rw [HR3.out, this]
          have hnext : Hid (bnErr v k = 0 → ∀ j, j < k + 1 → bnErr v j = 0) := fun he j hj => by
            by_cases e : j = k
            · rw [e]; exact he
            · exact hzz.out j (by omega)
          have HE : Hid (bnErr v k = if arcOf v t.frm < 0 ∨ arcOf v t.to < 0 then 8 else if (v.ac.getD (arcOf v t.frm).toNat default).to ≠ (v.ac.getD (arcOf v t.to).toNat default).frm then 3 else if 0 < k ∧ byBanF t (v.bn.getD (k - 1) default) ≤ 0 then 7 else 0) := by
            show _ = _; rw [bnErr, ht]
          have hdd : Hid (0 < k → ∀ u, v.bn.getD (k - 1) default = u → ∀ w', Keep [] wr w' → w'.cell? ⟨b, off + (k - 1) * 2, none⟩ = some (.string u.frm) ∧ w'.cell? ⟨b, off + (k - 1) * 2 + 1, none⟩ = some (.string u.to)) := fun h0 u hu w' kw =>
            ⟨row.known 0 (by rw [hlb.out]; omega) (by omega) (by rw [hu]; rfl) w' kw, row.known 1 (by rw [hlb.out]; omega) (by omega) (by rw [hu]; rfl) w' kw⟩
          clear row ht
          go_wp2_with fail
          have kp2 : Keep [] W0 (wr.alloc (.cells #[.string t.frm, .string t.to] 143)) := kp.alloc _
          have kp3 : Keep [] wr (wr.alloc (.cells #[.string t.frm, .string t.to] 143)) := (Keep.refl _ _).alloc _
          have b2 := Blk.new wr #[.string t.frm, .string t.to] 143
          generalize wr.alloc (.cells #[.string t.frm, .string t.to] 143) = W1 at *
          generalize wr.heap.size = B1 at *
          have s0 : ∀ w', Keep [] W1 w' → w'.cell? ⟨B1, 0, none⟩ = some (.string t.frm) := fun _ k => k.known (b2.cell 0) (by simp)
          have s1 : ∀ w', Keep [] W1 w' → w'.cell? ⟨B1, 1, none⟩ = some (.string t.to) := fun _ k => k.known (b2.cell 1) (by simp)
          have q1 : ∀ w', Keep [] W1 w' → w'.cell? ⟨B, 1, none⟩ = some (.slice pa na ac) := fun _ k => r1 _ (kp2.tr k)
          have q2 : ∀ w', Keep [] W1 w' → w'.cell? ⟨B, 2, none⟩ = some (.slice (some ⟨b, off, none⟩) nb bc) := fun _ k => r2 _ (kp2.tr k)
          have kup2 : ∀ w', Keep [] W1 w' → Keep [] w w' := fun _ k => kup _ (kp2.tr k)
          have kup3 : ∀ w', Keep [] W1 w' → Keep [] W0 w' := fun _ k => kp2.tr k
          obtain ⟨a1, ha1⟩ : ∃ a, arcOf v t.frm = a := ⟨_, rfl⟩
          obtain ⟨a2, ha2⟩ : ∃ a, arcOf v t.to = a := ⟨_, rfl⟩
          have l1 : a1 < na ∧ a2 < na := by have e1 := (atF_in (acKey v.ac) t.frm v.ac.length).2; have e2 := (atF_in (acKey v.ac) t.to v.ac.length).2; have := hla.out; unfold arcOf at ha1 ha2; rw [ha1] at e1; rw [ha2] at e2; omega
          have harc : ∀ W key, Keep [] W1 W → Calls Tryz.prog 76 #[.pointer (some ⟨B, 0, none⟩), .string key] W fun e w' => e = .returned (.int .i64 (arcOf v key)) ∧ Keep [] W1 w' := fun W key k => (HARC.out W key (kp2.tr k)).mono fun _ _ h => ⟨h.1, k.tr h.2⟩
          rw [ha1, ha2] at HE
          have HA1 := Lib.hid ha1
          have HA2 := Lib.hid ha2
          clear b2 c0 c1 r0 r1 r2 ha1 ha2
          go_region_held3 (fun w' => Keep [] W1 w') (first | exact (Keep.refl _ _).drew | exact Keep.tr (by assumption) (by assumption) | exact Keep.alloc (by assumption) _ | assumption | exact Keep.drew (Keep.drewN (by assumption) _) | exact Keep.drew (by assumption)) (first | (go_at_call 76; refine (harc _ _ (by assumption)).mono ?_; rintro e w' ⟨rfl, hk⟩))
          rename_i a3 w3 kp4
          have HARCS := Lib.hid harc
          clear harc
          rw [HA1.out, HA2.out]
          by_cases hn1 : a1 < 0
          · have hE : Hid (bnErr v k = 8) := by show _ = _; rw [HE.out, if_pos (Or.inl hn1)]
            go_wp2_with fail
            go_ret
            exact ⟨ret_int (by rw [HF.out (by rw [hE.out]; decide), hE.out]), kup2 _ (by assumption)⟩
          · by_cases hn2 : a2 < 0
            · have hE : Hid (bnErr v k = 8) := by show _ = _; rw [HE.out, if_pos (Or.inr hn2)]
              go_wp2_with fail
              go_ret
              exact ⟨ret_int (by rw [HF.out (by rw [hE.out]; decide), hE.out]), kup2 _ (by assumption)⟩
            · obtain ⟨n1, rfl⟩ : ∃ n1 : Nat, a1 = n1 := ⟨a1.toNat, by omega⟩
              obtain ⟨n2, rfl⟩ : ∃ n2 : Nat, a2 = n2 := ⟨a2.toNat, by omega⟩
              have l2 : n1 < na := by omega
              have l3 : n2 < na := by omega
              obtain ⟨ba, offa, hpa, arow, _⟩ := (H.out.2.1.keep0 (kup2 _ (Keep.refl _ _))).2.resolve_left (by omega)
              subst hpa
              obtain ⟨u1, hu1⟩ : ∃ t, v.ac.getD n1 default = t := ⟨_, rfl⟩
              obtain ⟨u2, hu2⟩ : ∃ t, v.ac.getD n2 default = t := ⟨_, rfl⟩
              have g1 : ∀ w', Keep [] W1 w' → w'.cell? ⟨ba, offa + n1 * 5 + 2, none⟩ = some (.string u1.to) := arow.known 2 (by rw [hla.out]; omega) (by omega) (by rw [hu1]; rfl)
              have g2 : ∀ w', Keep [] W1 w' → w'.cell? ⟨ba, offa + n2 * 5 + 1, none⟩ = some (.string u2.frm) := arow.known 1 (by rw [hla.out]; omega) (by omega) (by rw [hu2]; rfl)
              have HE2 : Hid (bnErr v k = if u1.to ≠ u2.frm then 3 else if 0 < k ∧ byBanF t (v.bn.getD (k - 1) default) ≤ 0 then 7 else 0) := by
                show _ = _; rw [HE.out, if_neg (by omega), Int.toNat_natCast, Int.toNat_natCast, hu1, hu2]
              clear arow hu1 hu2 HE
              by_cases heq : u1.to = u2.frm
              · have hes := eqS _ _ heq
                have HE3 : Hid (bnErr v k = if 0 < k ∧ byBanF t (v.bn.getD (k - 1) default) ≤ 0 then 7 else 0) := by show _ = _; rw [HE2.out, if_neg (by simpa using heq)]
                clear heq
                by_cases hk0 : k = 0
                · have hE : Hid (bnErr v k = 0) := by show _ = _; rw [HE3.out, if_neg (by omega)]
                  have hk1 : k ≤ 0 := by omega
                  have hk2 : decide ((0 : Int) < (k : Int)) = false := by simp; omega
                  have hk3 : decide (0 < k) = false := by simp; omega
                  clear hk0
                  go_wp2_with fail
                  go_quiet (fail)
                  go_wp2_with fail
                  go_quiet (fail)
                  go_wp2_with fail
                  refine ⟨?_, ?measure⟩
                  case measure => simp [intOf]; omega
                  first | exact ⟨k + 1, by omega, by go_num, kup3 _ (by repeat (first | with_reducible assumption | with_reducible apply Keep.drew | with_reducible apply Keep.drewN | with_reducible apply Keep.alloc | with_reducible exact Keep.refl _ _)), hnext.out hE.out⟩ | ((repeat apply Exists.intro); refine ⟨?_, rfl⟩; exact ⟨k + 1, by omega, by go_num, kup3 _ (by repeat (first | with_reducible assumption | with_reducible apply Keep.drew | with_reducible apply Keep.drewN | with_reducible apply Keep.alloc | with_reducible exact Keep.refl _ _)), hnext.out hE.out⟩)
                · obtain ⟨u, hu⟩ : ∃ u, v.bn.getD (k - 1) default = u := ⟨_, rfl⟩
                  have d0 : ∀ w', Keep [] W1 w' → w'.cell? ⟨b, off + (k - 1) * 2, none⟩ = some (.string u.frm) := fun w' kw => (hdd.out (by omega) u hu w' (kp3.tr kw)).1
                  have d1 : ∀ w', Keep [] W1 w' → w'.cell? ⟨b, off + (k - 1) * 2 + 1, none⟩ = some (.string u.to) := fun w' kw => (hdd.out (by omega) u hu w' (kp3.tr kw)).2
                  have hk2 : decide ((0 : Int) < (k : Int)) = true := by simp; omega
                  have hk3 : decide (0 < k) = true := by simp; omega
                  have hk4 : 1 ≤ k := by omega
                  have hk5 : IntKind.i64.wrap ((k : Int) - 1) = ((k - 1 : Nat) : Int) := by rw [IntWalk.i64_in _ (by omega)]; omega
                  have hk6 : k - 1 < nb := by omega
                  have HE4 : Hid (bnErr v k = if orL [cmpS t.frm u.frm, cmpS t.to u.to] ≤ 0 then 7 else 0) := by
                    show _ = if byBanF t u ≤ 0 then 7 else 0; rw [HE3.out, hu]
                    by_cases h : byBanF t u ≤ 0
                    · rw [if_pos ⟨hk4, h⟩, if_pos h]
                    · rw [if_neg (fun e => h e.2), if_neg h]
                  clear hk0 hu
                  go_wp2_with fail
                  go_quiet (fail)
                  go_wp2_with fail
                  go_region_held3 (fun w' => Keep [] W1 w') (first | exact (Keep.refl _ _).drew | exact Keep.tr (by assumption) (by assumption) | exact Keep.alloc (by assumption) _ | assumption | exact Keep.drew (Keep.drewN (by assumption) _) | exact Keep.drew (by assumption)) (first | (go_at_call 77; refine (byBan_any _ _ _ _ _).mono ?_; rintro e w' ⟨rfl, hk⟩))
                  generalize orL [cmpS t.frm u.frm, cmpS t.to u.to] = z at *
                  by_cases hz : z ≤ 0
                  · have hE : Hid (bnErr v k = 7) := by show _ = _; rw [HE4.out, if_pos hz]
                    go_wp2_with fail
                    go_ret
                    exact ⟨ret_int (by rw [HF.out (by rw [hE.out]; decide), hE.out]), kup2 _ (by assumption)⟩
                  · have hE : Hid (bnErr v k = 0) := by show _ = _; rw [HE4.out, if_neg hz]
                    go_wp2_with fail
                    refine ⟨?_, ?measure⟩
                    case measure => simp [intOf]; omega
                    first | exact ⟨k + 1, by omega, by go_num, kup3 _ (by assumption), hnext.out hE.out⟩ | ((repeat apply Exists.intro); refine ⟨?_, rfl⟩; exact ⟨k + 1, by omega, by go_num, kup3 _ (by assumption), hnext.out hE.out⟩)
              · have hes := eqS' _ _ heq
                have hE : Hid (bnErr v k = 3) := by show _ = _; rw [HE2.out, if_pos heq]
                clear heq
                go_wp2_with fail
                go_quiet (fail)
                go_wp2_with fail
                go_ret
                exact ⟨ret_int (by rw [HF.out (by rw [hE.out]; decide), hE.out]), kup2 _ (by repeat (first | with_reducible assumption | with_reducible apply Keep.drew | with_reducible apply Keep.drewN | with_reducible apply Keep.alloc | with_reducible exact Keep.refl _ _))⟩
        · go_wp2_with fail
          go_ret
          exact ⟨ret_int (by rw [HR3.out]; exact (firstErr_zero fun j hj => hzz.out j (by have := hlb.out; omega)).symm), kup _ kp⟩
end Go.Proofs.YtonoknliloilfaaGreatDoor

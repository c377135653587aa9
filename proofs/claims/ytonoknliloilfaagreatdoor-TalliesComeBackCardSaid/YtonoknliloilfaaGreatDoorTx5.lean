/- Contract: demand.Text. -/
import Derived.Test.YtonoknliloilfaaGreatDoorTx4
import Derived.Test.YtonoknliloilfaaGreatDoorTal
import Derived.Test.YtonoknliloilfaaGreatDoorBld
import Derived.Test.YtonoknliloilfaaGreatDoorStr
import Derived.Lib.ItoaLen
namespace Go.Proofs.YtonoknliloilfaaGreatDoor
open Go.RowKit

def talLine (t : Tal) : List UInt8 := Lib.itoa t.x ++ [32] ++ Lib.itoa t.y ++ [32] ++ Lib.itoa t.h ++ [32] ++ Lib.itoa t.m ++ [10]
def talText (l : List Tal) : List UInt8 := l.flatMap talLine
theorem keep_below {w wr w' : World} (k : Keep [] w wr) (h : Below w.heap.size wr w') : Keep [] w w' := ⟨h.os.trans k.os, h.tape.trans k.tape, h.output.trans k.output, Nat.le_trans k.size h.size, fun i hi hn => (h.block i hi).trans (k.block i hi hn)⟩
theorem str_append (a b : List UInt8) : str a ++ str b = str (a ++ b) := by
  apply ba_ext
  rw [str_data, ByteArray.data_append, Array.toList_append]; rfl
theorem cat_str (a b : List UInt8) (h : a.length + b.length ≤ 1000000) (w : World) : (Op.stringOp .add (str a) (str b)).run Tryz.prog w = .ok (.string (str (a ++ b))) w := by
  rw [run_string_add_sum _ _ _ (by rw [str_size, str_size]; omega), str_append]
theorem talText_snoc (l : List Tal) (t : Tal) : talText (l ++ [t]) = talText l ++ talLine t := by simp [talText]
theorem tal_in {l : List Tal} (h : checkTal l = 0) {j : Nat} (hj : j < l.length) : talBad (l.getD j default) = false := by
  unfold checkTal at h
  split at h
  · omega
  · split at h
    · rename_i h0
      have := firstErr_eq_zero.1 h0 j hj
      unfold talErr at this
      cases hb : talBad (l.getD j default)
      · rfl
      · rw [hb] at this; simp at this
    · rename_i h0; exact absurd h h0
theorem talBad_in {t : Tal} (h : talBad t = false) : -10000 ≤ t.x ∧ t.x ≤ 10000 ∧ -10000 ≤ t.y ∧ t.y ≤ 10000 ∧ 0 ≤ t.h ∧ t.h ≤ 167 ∧ 1 ≤ t.m ∧ t.m ≤ 1000000000 := by
  simp only [talBad, isPtB, outB, Bool.or_eq_false_iff, Bool.not_eq_false', Bool.and_eq_true, Bool.not_eq_true', decide_eq_false_iff_not] at h
  omega
set_option maxHeartbeats 4000000 in
theorem text_any (b off n cap : Nat) (l : List Tal) (w : World) (hE : Env w) (hn : Hid (l.length = n)) (hm : n ≤ 100000) (hc : Row encTal 4 w b off l) (hb : b < w.heap.size) (hok : checkTal l = 0) (hlen : (talText l).length ≤ 200000) :
    Calls Tryz.prog 5 #[.slice (some ⟨b, off, none⟩) n cap] w fun e w' => e = .returned (.tuple #[.string (str (talText l)), .int .i64 0]) ∧ Keep [] w w' := by
  have hck := checkTallies_any b off n cap l w hn (by omega) hc hb
  rw [hok] at hck
  have HCK := Lib.hid hck
  have HE := Lib.hid hE
  have HC := Lib.hid hc
  have HOK := Lib.hid (And.intro hok hlen)
  clear hck hE hc hok hlen
  go_enter Tryz.func5, Tryz.ntmps5
  go_wp2_with (go_at_call 12; refine (HCK.out).mono ?_; rintro e w' ⟨rfl, hk1⟩)
  obtain ⟨B, hB⟩ : ∃ B, B = w'.heap.size := ⟨_, rfl⟩
  have hbu := Bld.new (B := w.heap.size) w' hk1.size
  have kw : Keep [] w (w'.alloc (.cells #[.pointer none, .slice none 0 0] 47)) := hk1.alloc _
  generalize w'.alloc (.cells #[.pointer none, .slice none 0 0] 47) = W0 at *
  rw [← hB] at hbu ⊢
  have HB := Lib.hid hB
  have HBU := Lib.hid hbu
  have HKW := Lib.hid kw
  clear hB hbu kw hk1
  go_loopw [15] (fun i wr => ∃ j : Nat, j ≤ n ∧ i = .int .i64 j ∧ Hid (Bld w.heap.size wr B (talText (l.take j)) ∧ Keep [] w wr)) (fun i _ => n - (intOf i).toNat)
  case atStart => exact ⟨0, Nat.zero_le _, rfl, HBU.out, HKW.out⟩
  case round =>
    obtain ⟨j, hj, rfl, hi⟩ := hrel
    by_cases hlt : j < n
    · obtain ⟨t, ht, c0, c1, c2, c3⟩ := tal_cells (HC.out.keep hi.out.2 hb (by simp)) (k := j) (by rw [hn.out]; exact hlt)
      have hj' : j < l.length := by rw [hn.out]; exact hlt
      have hin := tal_in HOK.out.1 hj'
      have htk := take_snoc' l j default hj'
      rw [ht] at hin htk
      obtain ⟨i1, i2, i3, i4, i5, i6, i7, i8⟩ := talBad_in hin
      have hsn : Hid (talText (l.take (j + 1)) = talText (l.take j) ++ talLine t) := by show _ = _; rw [htk, talText_snoc]
      have hll : Hid ((talText (l.take j)).length + (talLine t).length ≤ 140737488355328) := by
        have h1 : talText l = talText (l.take (j + 1)) ++ talText (l.drop (j + 1)) := by unfold talText; rw [← List.flatMap_append, List.take_append_drop]
        have h2 := congrArg List.length h1
        have h3 := congrArg List.length hsn.out
        have h4 := HOK.out.2
        simp at h2 h3
        show _ ≤ _
        omega
      have hjI : (j : Int) < n := by omega
      have HTT := Lib.hid ht
      clear ht hin htk hj'
      go_wp2_with fail
      have bT := Blk.new wr #[.int .i64 t.x, .int .i64 t.y, .int .i64 t.h, .int .i64 t.m] 37
      have kT : Keep [] wr (wr.alloc (.cells #[.int .i64 t.x, .int .i64 t.y, .int .i64 t.h, .int .i64 t.m] 37)) := (Keep.refl _ _).alloc _
      generalize wr.alloc (.cells #[.int .i64 t.x, .int .i64 t.y, .int .i64 t.h, .int .i64 t.m] 37) = W1 at *
      have hTB : B < wr.heap.size := by obtain ⟨_, p, v, _, hbk, _⟩ := hi.out.1; exact hbk.lt
      generalize wr.heap.size = T at *
      have t0 : ∀ w', Hid (Blk w' T #[.int .i64 t.x, .int .i64 t.y, .int .i64 t.h, .int .i64 t.m] 37) → w'.cell? ⟨T, 0, none⟩ = some (.int .i64 t.x) := fun _ h => h.out.cell 0
      have t1 : ∀ w', Hid (Blk w' T #[.int .i64 t.x, .int .i64 t.y, .int .i64 t.h, .int .i64 t.m] 37) → w'.cell? ⟨T, 1, none⟩ = some (.int .i64 t.y) := fun _ h => h.out.cell 1
      have t2 : ∀ w', Hid (Blk w' T #[.int .i64 t.x, .int .i64 t.y, .int .i64 t.h, .int .i64 t.m] 37) → w'.cell? ⟨T, 2, none⟩ = some (.int .i64 t.h) := fun _ h => h.out.cell 2
      have t3 : ∀ w', Hid (Blk w' T #[.int .i64 t.x, .int .i64 t.y, .int .i64 t.h, .int .i64 t.m] 37) → w'.cell? ⟨T, 3, none⟩ = some (.int .i64 t.m) := fun _ h => h.out.cell 3
      have BT := Lib.hid bT
      have hit : Hid (∀ W n, Keep [] W1 W → -9223372036854775808 ≤ n → n ≤ 9223372036854775807 → Calls Tryz.prog 14 #[.int .i64 n] W fun e w' => e = .returned (.string (str (Lib.itoa n))) ∧ Keep [] W1 w') := fun W n hW h1 h2 =>
        (itoa_any n W (HE.out.keep0 ((hi.out.2.tr kT).tr hW)) h1 h2).mono fun _ _ h => ⟨h.1, hW.tr h.2⟩
      have hws : Hid (∀ W s, Keep [] W1 W → s = str (talLine t) → Calls Tryz.prog 13 #[.pointer (some ⟨B, 0, none⟩), .string s] W fun e w' => e = .returned (.tuple #[.int .i64 (talLine t).length, .nilIface]) ∧ Hid (Blk w' T #[.int .i64 t.x, .int .i64 t.y, .int .i64 t.h, .int .i64 t.m] 37) ∧ Hid (Bld w.heap.size w' B (talText (l.take j) ++ talLine t) ∧ Keep [] w w')) := fun W s hW hs => by
        subst hs
        have hbl := (hi.out.1.keep kT (by simp)).keep hW (by simp)
        have hkw := (hi.out.2.tr kT).tr hW
        refine (writeB_any w.heap.size B _ (talLine t) W hbl hkw.size hll.out).mono ?_
        rintro e w' ⟨rfl, h1, h2⟩
        exact ⟨rfl, h2.blk (BT.out.keep hW (by simp)) (by omega) (by decide), h1, h2.old hkw (Nat.le_refl _) hbl.1⟩
      have l1 := Lib.itoa_length_le t.x (by omega) (by omega)
      have l2 := Lib.itoa_length_le t.y (by omega) (by omega)
      have l3 := Lib.itoa_length_le t.h (by omega) (by omega)
      have l4 := Lib.itoa_length_le t.m (by omega) (by omega)
      obtain ⟨p1, e1⟩ : ∃ p, p = Lib.itoa t.x ++ [32] := ⟨_, rfl⟩
      have z1 := congrArg List.length e1
      simp only [List.length_append, List.length_cons, List.length_nil] at z1
      have g1 : ∀ w, (Op.stringOp .add (str (Lib.itoa t.x)) ⟨#[32]⟩).run Tryz.prog w = .ok (.string (str p1)) w := by intro w; rw [e1]; exact cat_str (Lib.itoa t.x) [32] (by first | omega | (simp; omega)) w
      obtain ⟨p2, e2⟩ : ∃ p, p = p1 ++ Lib.itoa t.y := ⟨_, rfl⟩
      have z2 := congrArg List.length e2
      simp only [List.length_append] at z2
      have g2 : ∀ w, (Op.stringOp .add (str (p1)) (str (Lib.itoa t.y))).run Tryz.prog w = .ok (.string (str p2)) w := by intro w; rw [e2]; exact cat_str (p1) (Lib.itoa t.y) (by first | omega | (simp; omega)) w
      obtain ⟨p3, e3⟩ : ∃ p, p = p2 ++ [32] := ⟨_, rfl⟩
      have z3 := congrArg List.length e3
      simp only [List.length_append, List.length_cons, List.length_nil] at z3
      have g3 : ∀ w, (Op.stringOp .add (str (p2)) ⟨#[32]⟩).run Tryz.prog w = .ok (.string (str p3)) w := by intro w; rw [e3]; exact cat_str (p2) [32] (by first | omega | (simp; omega)) w
      obtain ⟨p4, e4⟩ : ∃ p, p = p3 ++ Lib.itoa t.h := ⟨_, rfl⟩
      have z4 := congrArg List.length e4
      simp only [List.length_append] at z4
      have g4 : ∀ w, (Op.stringOp .add (str (p3)) (str (Lib.itoa t.h))).run Tryz.prog w = .ok (.string (str p4)) w := by intro w; rw [e4]; exact cat_str (p3) (Lib.itoa t.h) (by first | omega | (simp; omega)) w
      obtain ⟨p5, e5⟩ : ∃ p, p = p4 ++ [32] := ⟨_, rfl⟩
      have z5 := congrArg List.length e5
      simp only [List.length_append, List.length_cons, List.length_nil] at z5
      have g5 : ∀ w, (Op.stringOp .add (str (p4)) ⟨#[32]⟩).run Tryz.prog w = .ok (.string (str p5)) w := by intro w; rw [e5]; exact cat_str (p4) [32] (by first | omega | (simp; omega)) w
      obtain ⟨p6, e6⟩ : ∃ p, p = p5 ++ Lib.itoa t.m := ⟨_, rfl⟩
      have z6 := congrArg List.length e6
      simp only [List.length_append] at z6
      have g6 : ∀ w, (Op.stringOp .add (str (p5)) (str (Lib.itoa t.m))).run Tryz.prog w = .ok (.string (str p6)) w := by intro w; rw [e6]; exact cat_str (p5) (Lib.itoa t.m) (by first | omega | (simp; omega)) w
      obtain ⟨p7, e7⟩ : ∃ p, p = p6 ++ [10] := ⟨_, rfl⟩
      have z7 := congrArg List.length e7
      simp only [List.length_append, List.length_cons, List.length_nil] at z7
      have g7 : ∀ w, (Op.stringOp .add (str (p6)) ⟨#[10]⟩).run Tryz.prog w = .ok (.string (str p7)) w := by intro w; rw [e7]; exact cat_str (p6) [10] (by first | omega | (simp; omega)) w
      have E7 : Hid (p7 = talLine t) := by show p7 = _; rw [e7, e6, e5, e4, e3, e2, e1]; rfl
      clear e1 e2 e3 e4 e5 e6 e7 z1 z2 z3 z4 z5 z6 z7
      clear l1 l2 l3 l4
      have k0 : Keep [] W1 W1.drew := (Keep.refl _ _).drew
      clear bT kT c0 c1 c2 c3
      go_region_held3 (fun w' => Hid (Blk w' T #[.int .i64 t.x, .int .i64 t.y, .int .i64 t.h, .int .i64 t.m] 37)) (first | assumption | exact BT.out.keep (by assumption) (by simp)) (first | (go_at_call 14; refine (hit.out _ _ (by assumption) (by omega) (by omega)).mono ?_; rintro e w' ⟨rfl, hk⟩) | (go_at_call 13; refine (hws.out _ _ (by assumption) (congrArg str E7.out)).mono ?_; rintro e w' ⟨rfl, hS, hBK⟩))
      go_wp2_with fail
      (refine ⟨?_, by (simp [intOf]; omega)⟩; first | exact ⟨j + 1, by omega, by go_num, by show _; rw [hsn.out]; exact hBK.out⟩ | exact ⟨rfl, ⟨j + 1, by omega, by go_num, by show _; rw [hsn.out]; exact hBK.out⟩⟩ | ((repeat apply Exists.intro); refine ⟨?_, rfl⟩; exact ⟨j + 1, by omega, by go_num, by show _; rw [hsn.out]; exact hBK.out⟩) | (refine ⟨rfl, ?_⟩; (repeat apply Exists.intro); refine ⟨?_, rfl⟩; exact ⟨j + 1, by omega, by go_num, by show _; rw [hsn.out]; exact hBK.out⟩))
    · obtain rfl : j = n := by omega
      have hi2 := hi.out
      rw [← hn.out, List.take_length] at hi2
      have HI := Lib.hid hi2
      have hlL : ((Lib.byteCells (talText l)).length : Int) ≤ 200000 := by rw [Lib.byteCells_length]; have := HOK.out.2; omega
      clear hi2
      go_wp2_with (first | (go_at_call 15; refine (((Tryz.Builder_Len _ _ _ _ HI.out.1.toIs).mono fun _ _ h => And.intro h.1 h.2.symm)).mono ?_; rintro e w' ⟨rfl, rfl⟩) | (go_at_call 16; refine (Tryz.Builder_String_any _ _ _ _ HI.out.1.toIs HI.out.2.size).mono ?_; rintro e w' ⟨rfl, hbe⟩))
      go_ret2
      exact ⟨rfl, keep_below HI.out.2 hbe⟩
end Go.Proofs.YtonoknliloilfaaGreatDoor

/- Slices that can be nil; byBan; the values of roads. -/
import Derived.Test.YtonoknliloilfaaGreatDoorRd2
namespace Go.Proofs.YtonoknliloilfaaGreatDoor
open Go.RowKit

def byBanF (a b : Bn) : Int := orL [cmpS a.frm b.frm, cmpS a.to b.to]
set_option maxHeartbeats 1000000 in
theorem byBan_any (x y x' y' : ByteArray) (w : World) : Calls Tryz.prog 77 #[.agg #[.string x, .string y], .agg #[.string x', .string y']] w
    fun e w' => e = .returned (.int .i64 (orL [cmpS x x', cmpS y y'])) ∧ Keep [] w w' := by
  go_enter Tryz.func77, Tryz.ntmps77
  go_wp2
  go_region_held3 (fun w' => w'.cell? ⟨w.heap.size, 0, none⟩ = some (.string x) ∧ w'.cell? ⟨w.heap.size, 1, none⟩ = some (.string y) ∧ w'.cell? ⟨w.heap.size + 1, 0, none⟩ = some (.string x') ∧ w'.cell? ⟨w.heap.size + 1, 1, none⟩ = some (.string y')) (go_simp) (first | (go_at_call 53; refine (compareS_any _ _ _).mono ?_; rintro e w' ⟨rfl, rfl⟩) | (go_at_call 56; refine (orI2d _ _ _ _ _ _ (by simp)).mono ?_; rintro e w' ⟨rfl, rfl⟩))
  all_goals go_wp2
  all_goals go_ret
  all_goals exact ⟨rfl, (by repeat (first | with_reducible assumption | with_reducible apply Keep.drew | with_reducible apply Keep.drewN | with_reducible apply Keep.alloc | with_reducible exact Keep.refl _ _))⟩

/-- a slice, perhaps a nil one, and what lies in it -/
def Sl {α : Type} [Inhabited α] (enc : α → List Value) (k : Nat) (w : World) (p : Option Addr) (n : Nat) (l : List α) : Prop :=
  l.length = n ∧ (n = 0 ∨ ∃ b off, p = some ⟨b, off, none⟩ ∧ Row enc k w b off l ∧ b < w.heap.size)
theorem Sl.keep {α : Type} [Inhabited α] {enc : α → List Value} {k : Nat} {w w' : World} {p : Option Addr} {n : Nat} {l : List α} (h : Sl enc k w p n l) {S : List Nat} (kp : Keep S w w') (hS : ∀ a, p = some a → a.block ∉ S) : Sl enc k w' p n l := by
  obtain ⟨h1, h2⟩ := h
  refine ⟨h1, h2.imp id ?_⟩
  rintro ⟨b, off, rfl, h3, h4⟩
  exact ⟨b, off, rfl, h3.keep kp h4 (hS _ rfl), Nat.lt_of_lt_of_le h4 kp.size⟩
theorem Sl.keep0 {α : Type} [Inhabited α] {enc : α → List Value} {k : Nat} {w w' : World} {p : Option Addr} {n : Nat} {l : List α} (h : Sl enc k w p n l) (kp : Keep [] w w') : Sl enc k w' p n l := h.keep kp (by simp)

set_option maxHeartbeats 1000000 in
theorem nodesFault_nil (p : Option Addr) (cap : Nat) (w : World) :
    Calls Tryz.prog 72 #[.slice p 0 cap] w fun e w' => e = .returned (.int .i64 0) ∧ Keep [] w w' := by
  go_enter Tryz.func72, Tryz.ntmps72
  go_wp2_with fail
  refine wp_loop_rounds 1 ?_
  rw [rounds_succ]
  go_wp2_with fail
  go_ret
  exact ⟨rfl, (by repeat (first | with_reducible assumption | with_reducible apply Keep.drew | with_reducible apply Keep.drewN | with_reducible apply Keep.alloc | with_reducible exact Keep.refl _ _))⟩
theorem nodesFault_sl (p : Option Addr) (n cap : Nat) (l : List Nd) (w : World) (h : Sl encNd 3 w p n l) (hm : n ≤ 1000000) (hs : ∀ i, (l.getD i default).key.size ≤ 9223372036854775807) :
    Calls Tryz.prog 72 #[.slice p n cap] w fun e w' => e = .returned (.int .i64 (ndsErr l)) ∧ Keep [] w w' := by
  obtain ⟨h1, h2⟩ := h
  rcases h2 with rfl | ⟨b, off, rfl, h3, h4⟩
  · have : l = [] := List.eq_nil_of_length_eq_zero h1
    subst this
    exact nodesFault_nil p cap w
  · exact nodesFault_any b off n cap l w h1 hm hs h3 h4
theorem knotsFault_sl (p : Option Addr) (n cap : Nat) (l : List Knt) (w : World) (h : Sl encKnt 2 w p n l) (hm : n ≤ 1000000) :
    Calls Tryz.prog 75 #[.slice p n cap] w fun e w' => e = .returned (.int .i64 (knsErr l)) ∧ Keep [] w w' := by
  obtain ⟨h1, h2⟩ := h
  by_cases hn : n = 0
  · subst hn
    have : l = [] := List.eq_nil_of_length_eq_zero h1
    subst this
    exact knotsFault_nil p cap w
  · rcases h2 with h2 | ⟨b, off, rfl, h3, h4⟩
    · exact absurd h2 hn
    · exact knotsFault_any b off n cap l w h1 hm (by omega) h3 h4

set_option maxHeartbeats 1000000 in
theorem node_nil (br cap : Nat) (p : Option Addr) (key : ByteArray) (w : World) (h0 : w.cell? ⟨br, 0, none⟩ = some (.slice p 0 cap)) :
    Calls Tryz.prog 74 #[.pointer (some ⟨br, 0, none⟩), .string key] w fun e w' => e = .returned (.int .i64 (-1)) ∧ Keep [] w w' := by
  go_enter Tryz.func74, Tryz.ntmps74
  go_wp2_with (go_at_call 118; refine (bsNode_nil _ _ _ _ _ _).mono ?_; rintro e w' ⟨rfl, rfl⟩)
  go_ret
  exact ⟨rfl, (by repeat (first | with_reducible assumption | with_reducible apply Keep.drew | with_reducible apply Keep.drewN | with_reducible apply Keep.alloc | with_reducible exact Keep.refl _ _))⟩
set_option maxHeartbeats 1000000 in
theorem arc_nil (br cap : Nat) (p : Option Addr) (key : ByteArray) (w : World) (h0 : w.cell? ⟨br, 1, none⟩ = some (.slice p 0 cap)) :
    Calls Tryz.prog 76 #[.pointer (some ⟨br, 0, none⟩), .string key] w fun e w' => e = .returned (.int .i64 (-1)) ∧ Keep [] w w' := by
  go_enter Tryz.func76, Tryz.ntmps76
  go_wp2_with (go_at_call 120; refine (bsArc_nil _ _ _ _ _ _).mono ?_; rintro e w' ⟨rfl, rfl⟩)
  go_ret
  exact ⟨rfl, (by repeat (first | with_reducible assumption | with_reducible apply Keep.drew | with_reducible apply Keep.drewN | with_reducible apply Keep.alloc | with_reducible exact Keep.refl _ _))⟩
theorem node_sl (br n cap : Nat) (p : Option Addr) (l : List Nd) (key : ByteArray) (w : World) (h : Sl encNd 3 w p n l) (hm : n ≤ 1000000)
    (h0 : w.cell? ⟨br, 0, none⟩ = some (.slice p n cap)) (hr : Rise (ndKey l) n) :
    Calls Tryz.prog 74 #[.pointer (some ⟨br, 0, none⟩), .string key] w fun e w' => e = .returned (.int .i64 (atF (ndKey l) key n)) ∧ Keep [] w w' := by
  obtain ⟨h1, h2⟩ := h
  rcases h2 with rfl | ⟨b, off, rfl, h3, h4⟩
  · exact node_nil br cap p key w h0
  · exact node_any br b off n cap l key w h1 hm h3 h4 h0 hr
theorem arc_sl (br n cap : Nat) (p : Option Addr) (l : List Ac) (key : ByteArray) (w : World) (h : Sl encAc 5 w p n l) (hm : n ≤ 1000000)
    (h0 : w.cell? ⟨br, 1, none⟩ = some (.slice p n cap)) (hr : Rise (acKey l) n) :
    Calls Tryz.prog 76 #[.pointer (some ⟨br, 0, none⟩), .string key] w fun e w' => e = .returned (.int .i64 (atF (acKey l) key n)) ∧ Keep [] w w' := by
  obtain ⟨h1, h2⟩ := h
  rcases h2 with rfl | ⟨b, off, rfl, h3, h4⟩
  · exact arc_nil br cap p key w h0
  · exact arc_any br b off n cap l key w h1 hm h3 h4 h0 hr

/-- roads: the arcs as they lie, and the knots of each -/
structure RV where
  nd : List Nd
  ac : List Ac
  ks : Nat → List Knt
  bn : List Bn
/-- the keys of roads are no longer than the machine can say -/
def RV.Sized (v : RV) : Prop := (∀ i, (v.nd.getD i default).key.size ≤ 9223372036854775807) ∧ (∀ i, (v.ac.getD i default).key.size ≤ 9223372036854775807)
def nodeOf (v : RV) (k : ByteArray) : Int := atF (ndKey v.nd) k v.nd.length
def arcOf (v : RV) (k : ByteArray) : Int := atF (acKey v.ac) k v.ac.length
def acErr (v : RV) (i : Nat) : Int :=
  if keyB (v.ac.getD i default).key = false then 5 else if 0 < i ∧ cmpS (acKey v.ac i) (acKey v.ac (i - 1)) ≤ 0 then 7 else
  if nodeOf v (v.ac.getD i default).frm < 0 ∨ nodeOf v (v.ac.getD i default).to < 0 then 8 else if (v.ac.getD i default).frm = (v.ac.getD i default).to then 6 else
  if outB (v.ac.getD i default).long 1 1000000 = true then 1 else knsErr (v.ks i)
def bnErr (v : RV) (i : Nat) : Int :=
  if arcOf v (v.bn.getD i default).frm < 0 ∨ arcOf v (v.bn.getD i default).to < 0 then 8 else
  if (v.ac.getD (arcOf v (v.bn.getD i default).frm).toNat default).to ≠ (v.ac.getD (arcOf v (v.bn.getD i default).to).toNat default).frm then 3 else
  if 0 < i ∧ byBanF (v.bn.getD i default) (v.bn.getD (i - 1) default) ≤ 0 then 7 else 0
def roadsErr (v : RV) : Int :=
  if ndsErr v.nd ≠ 0 then ndsErr v.nd else if 2000 < v.ac.length then 2 else if firstErr (acErr v) v.ac.length ≠ 0 then firstErr (acErr v) v.ac.length else
  if 1000 < v.bn.length then 2 else firstErr (bnErr v) v.bn.length
/-- roads in memory: three slices, and the slice of knots of each arc -/
def RoadsAt (w : World) (pn : Option Addr) (nn : Nat) (pa : Option Addr) (na : Nat) (pb : Option Addr) (nb : Nat) (v : RV) : Prop :=
  Sl encNd 3 w pn nn v.nd ∧ Sl encAc 5 w pa na v.ac ∧ Sl encBn 2 w pb nb v.bn ∧ ∀ i, i < na → Sl encKnt 2 w (v.ac.getD i default).kp (v.ac.getD i default).kn (v.ks i) ∧ (v.ac.getD i default).kn ≤ 1000000
theorem RoadsAt.keep0 {w w' : World} {pn : Option Addr} {nn : Nat} {pa : Option Addr} {na : Nat} {pb : Option Addr} {nb : Nat} {v : RV} (h : RoadsAt w pn nn pa na pb nb v) (kp : Keep [] w w') : RoadsAt w' pn nn pa na pb nb v :=
  ⟨h.1.keep0 kp, h.2.1.keep0 kp, h.2.2.1.keep0 kp, fun i hi => ⟨(h.2.2.2 i hi).1.keep0 kp, (h.2.2.2 i hi).2⟩⟩
theorem rise_of_nds {l : List Nd} (h : ndsErr l = 0) : Rise (ndKey l) l.length := fun i hi => by
  unfold ndsErr at h
  split at h
  · omega
  · have := firstErr_eq_zero.1 h (i + 1) hi
    unfold ndErr at this
    split at this
    · omega
    · split at this
      · omega
      · rename_i h1 h2
        have h3 : ¬ cmpS (ndKey l (i + 1)) (ndKey l (i + 1 - 1)) ≤ 0 := fun h => h2 ⟨by omega, h⟩
        rw [show i + 1 - 1 = i by omega] at h3
        rw [cmpS_neg (ndKey l (i + 1)) (ndKey l i)]; omega
theorem rise_of_acs {v : RV} {n : Nat} (h : ∀ j, j < n → acErr v j = 0) : Rise (acKey v.ac) n := fun i hi => by
  have := h (i + 1) hi
  unfold acErr at this
  split at this
  · omega
  · split at this
    · omega
    · rename_i h1 h2
      have h3 : ¬ cmpS (acKey v.ac (i + 1)) (acKey v.ac (i + 1 - 1)) ≤ 0 := fun h => h2 ⟨by omega, h⟩
      rw [show i + 1 - 1 = i by omega] at h3
      rw [cmpS_neg (acKey v.ac (i + 1)) (acKey v.ac i)]; omega
end Go.Proofs.YtonoknliloilfaaGreatDoor

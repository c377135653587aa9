/- Contracts of the stream of numbers from which inputs are drawn: Below, Next, Flip, Pick, Range. Next's number is a function of the list, of how many were drawn before, and of its bound. -/
import Derived.Test.YtonoknliloilfaaGreatDoorCmp
namespace Go.Proofs.YtonoknliloilfaaGreatDoor
open Go.RowKit

theorem emod_of_tmod (x n : Int) (hn : 0 < n) : x % n = if x.tmod n < 0 then x.tmod n + n else x.tmod n := by
  have hm := Int.tmod_lt_of_pos x hn
  have hm2 : -n < x.tmod n := Int.lt_tmod_of_pos x (by omega)
  have h1 : x % n = (x.tmod n) % n := by
    have h := Int.mul_tdiv_add_tmod x n
    have : (n * x.tdiv n + x.tmod n) % n = x.tmod n % n := by rw [Int.add_comm, Int.add_mul_emod_self_left]
    rw [h] at this; exact this
  split
  · rw [h1, ← Int.add_emod_right (x.tmod n) n, Int.emod_eq_of_lt (by omega) (by omega)]
  · rw [h1, Int.emod_eq_of_lt (by omega) (by omega)]

def belowF (x n : Int) : Int := if n < 1 then 0 else x % n
theorem belowF_in (x n : Int) (h : 1 ≤ n) : 0 ≤ belowF x n ∧ belowF x n < n := by
  unfold belowF; rw [if_neg (by omega)]; exact ⟨Int.emod_nonneg _ (by omega), Int.emod_lt_of_pos _ (by omega)⟩

set_option maxHeartbeats 400000 in
theorem below_any (x n : Int) (w : World) (hn2 : n ≤ 9223372036854775807) :
    Calls Tryz.prog 55 #[.int .i64 x, .int .i64 n] w fun e w' => e = .returned (.int .i64 (belowF x n)) ∧ w = w' := by
  by_cases h1 : n < 1
  · go_enter Tryz.func55, Tryz.ntmps55
    go_wp2
    go_ret
    exact ⟨ret_int (by simp [belowF, h1]), rfl⟩
  · have hm := Int.tmod_lt_of_pos x (show 0 < n by omega)
    have hm2 : -n < x.tmod n := Int.lt_tmod_of_pos x (by omega)
    have he : belowF x n = if x.tmod n < 0 then x.tmod n + n else x.tmod n := by
      simp [belowF, h1, emod_of_tmod x n (by omega)]
    have HE := Lib.hid he; clear he
    go_enter Tryz.func55, Tryz.ntmps55
    go_wp2
    all_goals go_ret
    · exact ⟨ret_int (by rw [HE.out, if_pos (by assumption)]), rfl⟩
    · exact ⟨ret_int (by rw [HE.out, if_neg (by omega)]), rfl⟩

/-- the next number of a stream from which 'at_' numbers were drawn -/
def nextF (L : List Int) (at_ : Nat) (n : Int) : Int :=
  if L.length = 0 then belowF (((at_ : Int) + 1) * 7919) n
  else belowF (belowF (L.getD (at_ % L.length) 0) 1073741824 + (at_ / L.length : Nat) * (7919 + (at_ % L.length : Nat))) n
theorem nextF_in (L : List Int) (at_ : Nat) (n : Int) (h : 1 ≤ n) : 0 ≤ nextF L at_ n ∧ nextF L at_ n < n := by
  unfold nextF; split <;> exact belowF_in _ _ h

/-- block bs is a stream over the list L that lies at 'pl', from which 'at_' numbers were drawn -/
structure Stm (w : World) (bs : Nat) (pl : Option Addr) (len cap : Nat) (L : List Int) (at_ : Nat) : Prop where
  blk : Blk w bs #[.slice pl len cap, .int .i64 at_] 25
  lenL : L.length = len
  small : len ≤ 9223372036854775807
  el : ∀ i, i < len → ∃ p, pl = some p ∧ p.block ≠ bs ∧ p.block < w.heap.size ∧ w.cell? (p.add i) = some (.int .i64 (L.getD i 0))
  plb : ∀ p, pl = some p → p.block < bs
theorem add_block (p : Addr) (i : Nat) : (p.add i).block = p.block := by simp [Addr.add]; split <;> rfl
theorem Stm.keep {S : List Nat} {w w' : World} {bs : Nat} {pl : Option Addr} {len cap : Nat} {L : List Int} {at_ : Nat} (h : Stm w bs pl len cap L at_) (k : Keep S w w') (hb : bs ∉ S) (hp : ∀ p, pl = some p → p.block ∉ S) : Stm w' bs pl len cap L at_ :=
  ⟨h.blk.keep k hb, h.lenL, h.small, fun i hi => by
    obtain ⟨p, rfl, h1, h2, h3⟩ := h.el i hi
    exact ⟨p, rfl, h1, Nat.lt_of_lt_of_le h2 k.size, k.known h3 (by rw [add_block]; exact hp _ rfl)⟩, h.plb⟩
theorem Stm.keepHi {S : List Nat} {w w' : World} {bs : Nat} {pl : Option Addr} {len cap : Nat} {L : List Int} {at_ : Nat} (h : Stm w bs pl len cap L at_) (k : Keep S w w') (hb : ∀ s ∈ S, bs < s) : Stm w' bs pl len cap L at_ :=
  h.keep k (fun hm => Nat.lt_irrefl _ (hb _ hm)) (fun p hp hm => by have h1 := h.plb p hp; have h2 := hb _ hm; omega)
theorem Stm.alloc {w : World} {bs : Nat} {pl : Option Addr} {len cap : Nat} {L : List Int} {at_ : Nat} (h : Stm w bs pl len cap L at_) (o : Obj) : Stm (w.alloc o) bs pl len cap L at_ := h.keepHi ((Keep.refl [] w).alloc o) (by simp)
theorem Stm.step {w : World} {bs : Nat} {pl : Option Addr} {len cap : Nat} {L : List Int} {at_ : Nat} (h : Stm w bs pl len cap L at_) (n : Nat) : Stm ((w.setCell ⟨bs, 1, none⟩ (.int .i64 ((at_ : Int) + 1))).drewN n) bs pl len cap L (at_ + 1) :=
  ⟨by have := (h.blk.set 1 (.int .i64 ((at_ : Int) + 1))).drewN n; simpa using this, h.lenL, h.small, fun i hi => by
    obtain ⟨p, rfl, h1, h2, h3⟩ := h.el i hi
    refine ⟨p, rfl, h1, by simpa using h2, ?_⟩
    rw [← h3]; exact World.cell?_setCell_other _ _ _ _ (fun e => h1 (by rw [← add_block p i, ← e])), h.plb⟩

set_option maxHeartbeats 400000 in
theorem next_nil (bs : Nat) (pl : Option Addr) (cap : Nat) (at_ : Nat) (n : Int) (w : World)
   (h0 : w.cell? ⟨bs, 0, none⟩ = some (.slice pl 0 cap)) (h1 : w.cell? ⟨bs, 1, none⟩ = some (.int .i64 at_)) (hf : w.frozen? ⟨bs, 1, none⟩ = false)
   (hat : at_ < 1000000) (hn2 : n ≤ 4294967296) :
    Calls Tryz.prog 29 #[.pointer (some ⟨bs, 0, none⟩), .int .i64 n] w fun e w' => e = .returned (.int .i64 (belowF (((at_ : Int) + 1) * 7919) n)) ∧ ∃ k, w' = (w.setCell ⟨bs, 1, none⟩ (.int .i64 ((at_ : Int) + 1))).drewN k := by
  go_enter Tryz.func29, Tryz.ntmps29
  go_wp2_with (go_at_call 55; refine (below_any _ _ _ (by omega)).mono ?_; rintro e w' ⟨rfl, rfl⟩)
  go_ret
  exact ⟨rfl, 0, rfl⟩

set_option maxHeartbeats 800000 in
theorem next_pos (bs : Nat) (pl : Addr) (len cap : Nat) (at_ : Nat) (x n : Int) (w : World)
   (h0 : w.cell? ⟨bs, 0, none⟩ = some (.slice (some pl) len cap)) (h1 : w.cell? ⟨bs, 1, none⟩ = some (.int .i64 at_)) (hf : w.frozen? ⟨bs, 1, none⟩ = false)
   (hb : pl.block ≠ bs) (hpos : 0 < len) (hb0 : ((len : Int) == 0) = false)
   (hc : w.cell? (pl.add (at_ % len)) = some (.int .i64 x)) (hat : at_ < 1000000) (hn2 : n ≤ 4294967296) (hlen : len ≤ 9223372036854775807) :
    Calls Tryz.prog 29 #[.pointer (some ⟨bs, 0, none⟩), .int .i64 n] w fun e w' => e = .returned (.int .i64 (belowF (belowF x 1073741824 + (at_ / len : Nat) * (7919 + (at_ % len : Nat))) n)) ∧ ∃ k, w' = (w.setCell ⟨bs, 1, none⟩ (.int .i64 ((at_ : Int) + 1))).drewN k := by
  have g2 : at_ / len ≤ at_ := Nat.div_le_self _ _
  have e2 : wrap64 ((at_ : Int) / (len : Int)) = ((at_ / len : Nat) : Int) := by
    have h : (at_ : Int) / (len : Int) = ((at_ / len : Nat) : Int) := by simp
    rw [h]; generalize at_ / len = r at *
    rw [IntWalk.wrap64_in _ ⟨by omega, by omega⟩]
  have E2 := Lib.hid e2; clear e2
  go_enter Tryz.func29, Tryz.ntmps29
  go_wp2_with fail
  go_quiet (fail)
  go_wp2_with fail
  go_quiet (fail)
  have e1 : ((at_ : Int) % (len : Int)) = ((at_ % len : Nat) : Int) := by simp
  have e2 := E2.out
  have g1 := Nat.mod_lt at_ hpos
  have g3 : at_ % len ≤ at_ := Nat.mod_le _ _
  have hc' : ∀ v, (w.setCell ⟨bs, 1, none⟩ v).cell? (pl.add (at_ % len)) = some (.int .i64 x) := fun v => by
    rw [World.cell?_setCell_other]; exact hc
    intro h; apply hb; rw [← add_block pl (at_ % len), ← h]
  clear hc E2
  rw [e1, e2]; clear e1 e2
  generalize hi : at_ % len = i at *
  generalize hr : at_ / len = r at *
  have HI := Lib.hid hi
  have HR := Lib.hid hr
  clear hi hr
  go_wp2_with fail
  refine (below_any _ _ _ (by omega)).mono ?_
  rintro e w' ⟨rfl, rfl⟩
  have hb1 := belowF_in x 1073741824 (by omega)
  have hm1 : (r : Int) * (7919 + (i : Int)) ≤ 1000000 * 1007919 := Int.mul_le_mul (by omega) (by omega) (by omega) (by omega)
  have hm0 : 0 ≤ (r : Int) * (7919 + (i : Int)) := Int.mul_nonneg (by omega) (by omega)
  generalize hy : belowF x 1073741824 = y at *
  have HY := Lib.hid hy; clear hy
  go_wp2_with fail
  refine (below_any _ _ _ (by omega)).mono ?_
  rintro e w' ⟨rfl, rfl⟩
  go_wp2_with fail
  go_ret
  exact ⟨ret_int (by rw [HY.out, HI.out, HR.out]), _, rfl⟩

theorem next_any (bs : Nat) (pl : Option Addr) (len cap : Nat) (L : List Int) (at_ : Nat) (n : Int) (w : World) (h : Stm w bs pl len cap L at_) (hat : at_ < 1000000) (hn2 : n ≤ 4294967296) :
    Calls Tryz.prog 29 #[.pointer (some ⟨bs, 0, none⟩), .int .i64 n] w fun e w' => e = .returned (.int .i64 (nextF L at_ n)) ∧ Stm w' bs pl len cap L (at_ + 1) ∧ Keep [bs] w w' := by
  have c0 : w.cell? ⟨bs, 0, none⟩ = some (.slice pl len cap) := by rw [h.blk.cell]; rfl
  have c1 : w.cell? ⟨bs, 1, none⟩ = some (.int .i64 at_) := by rw [h.blk.cell]; rfl
  by_cases hz : len = 0
  · have hl : L.length = 0 := h.lenL.trans hz
    subst hz
    refine (next_nil bs pl cap at_ n w c0 c1 (h.blk.frozen 1) hat hn2).mono ?_
    rintro e w' ⟨rfl, k, rfl⟩
    exact ⟨ret_int (by unfold nextF; rw [if_pos hl]), h.step k, ((Keep.refl _ _).setCell (.inl (by simp)) _).drewN _⟩
  · have hp : 0 < len := by omega
    obtain ⟨p, hpl, hpb, _, hc⟩ := h.el (at_ % len) (Nat.mod_lt _ hp)
    subst hpl
    refine (next_pos bs p len cap at_ _ n w c0 c1 (h.blk.frozen 1) hpb hp (by simpa using hz) hc hat hn2 h.small).mono ?_
    rintro e w' ⟨rfl, k, rfl⟩
    exact ⟨ret_int (by unfold nextF; rw [h.lenL, if_neg hz]), h.step k, ((Keep.refl _ _).setCell (.inl (by simp)) _).drewN _⟩

def flipF (L : List Int) (at_ : Nat) (n : Int) : Bool := nextF L at_ n == 0
set_option maxHeartbeats 400000 in
theorem flip_any (bs : Nat) (pl : Option Addr) (len cap : Nat) (L : List Int) (at_ : Nat) (n : Int) (w : World) (h : Stm w bs pl len cap L at_) (hat : at_ < 1000000) (hn2 : n ≤ 4294967296) :
    Calls Tryz.prog 10 #[.pointer (some ⟨bs, 0, none⟩), .int .i64 n] w fun e w' => e = .returned (.bool (flipF L at_ n)) ∧ Stm w' bs pl len cap L (at_ + 1) ∧ Keep [bs] w w' := by
  go_enter Tryz.func10, Tryz.ntmps10
  go_wp2_with (go_at_call 29; refine (next_any _ _ _ _ _ _ _ _ h hat hn2).mono ?_; rintro e w' ⟨rfl, h1, h2⟩)
  go_ret
  exact ⟨ret_bool (by simp [flipF]), h1, h2⟩

theorem getD_map_int (xs : List Int) (i : Nat) (h : i < xs.length) : (xs.map (Value.int .i64))[i]? = some (.int .i64 (xs.getD i 0)) := by
  simp [h, List.getD]

/-- the slice (⟨b, 0⟩, n) holds the numbers xs -/
def Ints (w : World) (b : Nat) (xs : List Int) : Prop := ∀ i, i < xs.length → w.cell? ⟨b, i, none⟩ = some (.int .i64 (xs.getD i 0))
theorem Ints.keep {S : List Nat} {w w' : World} {b : Nat} {xs : List Int} (h : Ints w b xs) (k : Keep S w w') (hn : b ∉ S) : Ints w' b xs := fun i hi => k.known (h i hi) hn
theorem Ints.ofBlk {w : World} {b : Nat} {cs : Array Value} {T : TypeId} (h : Blk w b cs T) (xs : List Int) (hc : cs = (xs.map (Value.int .i64)).toArray) : Ints w b xs := fun i hi => by
  rw [h.cell, hc]; simpa using getD_map_int xs i hi

def pickF (L : List Int) (at_ : Nat) (xs : List Int) : Int := xs.getD (nextF L at_ xs.length).toNat 0
set_option maxHeartbeats 400000 in
theorem pick_any (bs : Nat) (pl : Option Addr) (len cap : Nat) (L : List Int) (at_ : Nat) (b n m : Nat) (xs : List Int) (w : World) (h : Stm w bs pl len cap L at_) (hat : at_ < 1000000)
    (hx : Ints w b xs) (hb : b ≠ bs) (hn : xs.length = n) (h1 : 1 ≤ n) (h2 : n ≤ 4294967296) :
    Calls Tryz.prog 11 #[.pointer (some ⟨bs, 0, none⟩), .slice (some ⟨b, 0, none⟩) n m] w fun e w' => e = .returned (.int .i64 (pickF L at_ xs)) ∧ Stm w' bs pl len cap L (at_ + 1) ∧ Keep [bs] w w' := by
  have hr := nextF_in L at_ n (by omega)
  have hN := next_any bs pl len cap L at_ n w h hat (by omega)
  obtain ⟨r, hr'⟩ := Int.eq_ofNat_of_zero_le hr.1
  rw [hr'] at hr hN
  have hc := hx r (by omega)
  have HP : Hid (pickF L at_ xs = xs.getD r 0) := by unfold pickF; rw [hn, hr']; rfl
  have hlt : r < n := by omega
  have HN := Lib.hid hN
  clear hN hr' hr hx
  have HL := Lib.hid hn; clear hn
  have kc : ∀ w', Keep [bs] w w' → w'.cell? ⟨b, r, none⟩ = some (.int .i64 (xs.getD r 0)) := fun _ k => k.known hc (by simpa using hb)
  clear hc
  generalize xs.getD r 0 = v at *
  go_enter Tryz.func11, Tryz.ntmps11
  go_wp2_with (go_at_call 29; refine (HN.out).mono ?_; rintro e w' ⟨rfl, s1, k1⟩)
  go_ret
  exact ⟨ret_int HP.out.symm, s1, k1⟩

end Go.Proofs.YtonoknliloilfaaGreatDoor

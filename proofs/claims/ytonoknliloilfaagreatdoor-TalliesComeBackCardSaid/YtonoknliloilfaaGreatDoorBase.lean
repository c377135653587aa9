/- Plain words for worlds: 'Keep S w w'' says that w' is w but for the blocks of the list S and for new blocks; with the small laws that carry facts on cells along. -/
import Derived.WalkKit
import Derived.Lib.Hide
import Derived.Deep.QuietTactic
import Derived.BigQuiet
import Derived.Deep.RegionHeld3
namespace Go.Proofs.YtonoknliloilfaaGreatDoor
open Go.RowKit

theorem ret_int {k : IntKind} {a b : Int} (h : a = b) : Ending.returned (.int k a) = .returned (.int k b) := by rw [h]
theorem ret_bool {a b : Bool} (h : a = b) : Ending.returned (.bool a) = .returned (.bool b) := by rw [h]

/-- w' is w but for the blocks in S, and for new blocks. -/
structure Keep (S : List Nat) (w w' : World) : Prop where
  os : w'.os = w.os
  tape : w'.tape = w.tape
  output : w'.output = w.output
  size : w.heap.size ≤ w'.heap.size
  block : ∀ k, k < w.heap.size → k ∉ S → w'.heap[k]? = w.heap[k]?

namespace Keep
theorem refl (S : List Nat) (w : World) : Keep S w w := ⟨rfl, rfl, rfl, Nat.le_refl _, fun _ _ _ => rfl⟩
theorem trans {S S' : List Nat} {a b c : World} (h : Keep S a b) (k : Keep S' b c) (hs : ∀ i ∈ S', i < a.heap.size → i ∈ S) : Keep S a c :=
  ⟨k.os.trans h.os, k.tape.trans h.tape, k.output.trans h.output, Nat.le_trans h.size k.size,
   fun i hi hn => (k.block i (Nat.lt_of_lt_of_le hi h.size) (fun hm => hn (hs i hm hi))).trans (h.block i hi hn)⟩
theorem tr {S : List Nat} {a b c : World} (h : Keep S a b) (k : Keep S b c) : Keep S a c := h.trans k (fun _ hi _ => hi)
theorem tr0 {S : List Nat} {a b c : World} (h : Keep S a b) (k : Keep [] b c) : Keep S a c := h.trans k (fun _ hi => by cases hi)
theorem mono {S S' : List Nat} {a b : World} (h : Keep S a b) (hs : ∀ i ∈ S, i ∈ S') : Keep S' a b := ⟨h.os, h.tape, h.output, h.size, fun i hi hn => h.block i hi (fun hm => hn (hs i hm))⟩
theorem alloc {S : List Nat} {a w : World} (h : Keep S a w) (o : Obj) : Keep S a (w.alloc o) :=
  h.tr0 ⟨rfl, rfl, rfl, by simp, fun k hk _ => Below.heap_alloc _ _ _ hk⟩
theorem drewN {S : List Nat} {a w : World} (h : Keep S a w) (n : Nat) : Keep S a (w.drewN n) := ⟨h.os, h.tape, h.output, h.size, h.block⟩
theorem drew {S : List Nat} {a w : World} (h : Keep S a w) : Keep S a w.drew := ⟨h.os, h.tape, h.output, h.size, h.block⟩
theorem setCell {S : List Nat} {a w : World} (h : Keep S a w) {p : Addr} (hp : p.block ∈ S ∨ a.heap.size ≤ p.block) (u : Value) : Keep S a (w.setCell p u) :=
  h.trans (S' := [p.block]) ⟨rfl, rfl, rfl, by simp [World.setCell], fun k _ hk => Below.heap_setCell _ _ _ _ (by simpa using hk)⟩
    (fun i hi hlt => by simp at hi; subst hi; rcases hp with hp | hp; exact hp; omega)
theorem ofBelow {w w' : World} (h : Below w.heap.size w w') : Keep [] w w' := ⟨h.os, h.tape, h.output, h.size, fun k hk _ => h.block k hk⟩
theorem toBelow {w w' : World} (h : Keep [] w w') : Below w.heap.size w w' := ⟨h.os, h.tape, h.output, h.size, fun k hk => h.block k hk (by simp)⟩
theorem cell {S : List Nat} {w w' : World} (h : Keep S w w') {a : Addr} (hb : a.block < w.heap.size) (hn : a.block ∉ S) : w'.cell? a = w.cell? a := World.cell?_of_block (h.block _ hb hn)
theorem frozen {S : List Nat} {w w' : World} (h : Keep S w w') {a : Addr} (hb : a.block < w.heap.size) (hn : a.block ∉ S) : w'.frozen? a = w.frozen? a := World.frozen?_of_block (h.block _ hb hn)
theorem grown {S : List Nat} {a w w' : World} {row : Option Nat} (h : Keep S a w) (hg : w.grownBy w' row) (hr : ∀ k, row = some k → k ∈ S ∨ a.heap.size ≤ k) : Keep S a w' :=
  h.trans (S' := row.toList) ⟨hg.os, hg.tape, hg.output, hg.size, fun k hk hn => hg.block k hk (fun e => hn (by subst e; simp))⟩
    (fun i hi hlt => by
      cases row with
      | none => cases hi
      | some r => simp at hi; subst hi; rcases hr _ rfl with h | h; exact h; omega)
theorem known {S : List Nat} {w w' : World} (h : Keep S w w') {a : Addr} {v : Value} (hv : w.cell? a = some v) (hn : a.block ∉ S) : w'.cell? a = some v := by
  rw [h.cell (block_lt_of_cell hv) hn]; exact hv
end Keep
/-- w' is w on the blocks below B but for those in S -/
structure KeepB (B : Nat) (S : List Nat) (w w' : World) : Prop where
  os : w'.os = w.os
  tape : w'.tape = w.tape
  output : w'.output = w.output
  size : w.heap.size ≤ w'.heap.size
  block : ∀ k, k < B → k ∉ S → w'.heap[k]? = w.heap[k]?
theorem KeepB.refl (B : Nat) (S : List Nat) (w : World) : KeepB B S w w := ⟨rfl, rfl, rfl, Nat.le_refl _, fun _ _ _ => rfl⟩
theorem KeepB.tr {B : Nat} {S S' : List Nat} {a b c : World} (h : KeepB B S a b) (k : Keep S' b c) (hB : B ≤ a.heap.size) (hs : ∀ i ∈ S', i < B → i ∈ S) : KeepB B S a c :=
  ⟨k.os.trans h.os, k.tape.trans h.tape, k.output.trans h.output, Nat.le_trans h.size k.size,
   fun i hi hn => (k.block i (Nat.lt_of_lt_of_le hi (Nat.le_trans hB h.size)) (fun hm => hn (hs i hm hi))).trans (h.block i hi hn)⟩
theorem KeepB.toKeep {S : List Nat} {a b : World} (h : KeepB a.heap.size S a b) : Keep S a b := ⟨h.os, h.tape, h.output, h.size, h.block⟩
theorem Keep.toB {S : List Nat} {a b : World} (h : Keep S a b) {B : Nat} (hB : B ≤ a.heap.size) : KeepB B S a b := ⟨h.os, h.tape, h.output, h.size, fun k hk => h.block k (Nat.lt_of_lt_of_le hk hB)⟩
@[go_sem] theorem keep_alloc {S : List Nat} {a w : World} {o : Obj} (h : Keep S a w) : Keep S a (w.alloc o) := h.alloc o
@[go_sem] theorem keep_drew {S : List Nat} {a w : World} (h : Keep S a w) : Keep S a w.drew := h.drew
@[go_sem] theorem keep_drewN {S : List Nat} {a w : World} {n : Nat} (h : Keep S a w) : Keep S a (w.drewN n) := h.drewN n
@[go_sem] theorem keep_self {S : List Nat} {a : World} : Keep S a a := Keep.refl S a

/-- block b holds these cells, none of them frozen -/
def Blk (w : World) (b : Nat) (cs : Array Value) (T : TypeId) : Prop := w.heap[b]? = some (.cells cs T (0, 0))
namespace Blk
theorem lt {w : World} {b : Nat} {cs : Array Value} {T : TypeId} (h : Blk w b cs T) : b < w.heap.size := by
  rcases Nat.lt_or_ge b w.heap.size with h' | h'
  · exact h'
  · unfold Blk at h; rw [Array.getElem?_eq_none h'] at h; cases h
theorem cell {w : World} {b : Nat} {cs : Array Value} {T : TypeId} (h : Blk w b cs T) (i : Nat) : w.cell? ⟨b, i, none⟩ = cs[i]? := by
  unfold Blk at h; simp [World.cell?, h]
theorem frozen {w : World} {b : Nat} {cs : Array Value} {T : TypeId} (h : Blk w b cs T) (i : Nat) : w.frozen? ⟨b, i, none⟩ = false := by
  unfold Blk at h; simp [World.frozen?, h]
theorem keep {S : List Nat} {w w' : World} {b : Nat} {cs : Array Value} {T : TypeId} (h : Blk w b cs T) (k : Keep S w w') (hn : b ∉ S) : Blk w' b cs T := by
  unfold Blk at *; rw [k.block b (lt h) hn]; exact h
theorem set {w : World} {b : Nat} {cs : Array Value} {T : TypeId} (h : Blk w b cs T) (i : Nat) (v : Value) : Blk (w.setCell ⟨b, i, none⟩ v) b (cs.setIfInBounds i v) T := by
  unfold Blk at *; simp only [World.setCell, Array.getElem?_modify, h]; simp
theorem set_other {w : World} {b : Nat} {cs : Array Value} {T : TypeId} (h : Blk w b cs T) {a : Addr} (hn : b ≠ a.block) (v : Value) : Blk (w.setCell a v) b cs T := by
  unfold Blk at *; rw [Below.heap_setCell _ _ _ _ hn]; exact h
theorem new (w : World) (cs : Array Value) (T : TypeId) : Blk (w.alloc (.cells cs T)) w.heap.size cs T := by
  unfold Blk; show (w.heap.push _)[w.heap.size]? = _; simp
theorem alloc {w : World} {b : Nat} {cs : Array Value} {T : TypeId} (h : Blk w b cs T) (o : Obj) : Blk (w.alloc o) b cs T := by
  have := h.lt; unfold Blk at *; rw [Below.heap_alloc _ _ _ this]; exact h
theorem drewN {w : World} {b : Nat} {cs : Array Value} {T : TypeId} (h : Blk w b cs T) (n : Nat) : Blk (w.drewN n) b cs T := h
end Blk

/-- the elements of l lie one after the other from ⟨b, off⟩ on, k cells each -/
def Row {α : Type} [Inhabited α] (enc : α → List Value) (k : Nat) (w : World) (b off : Nat) (l : List α) : Prop :=
  ∀ i j, i < l.length → j < k → w.cell? ⟨b, off + i * k + j, none⟩ = (enc (l.getD i default))[j]?
theorem Row.keep {α : Type} [Inhabited α] {enc : α → List Value} {k : Nat} {S : List Nat} {w w' : World} {b off : Nat} {l : List α} (h : Row enc k w b off l) (kp : Keep S w w') (hb : b < w.heap.size) (hn : b ∉ S) : Row enc k w' b off l :=
  fun i j hi hj => by rw [← h i j hi hj]; exact kp.cell hb hn

/-- the first number other than 0 among f 0 .. f (n - 1), or 0 -/
def firstErr (f : Nat → Int) : Nat → Int
  | 0 => 0
  | n + 1 => if firstErr f n = 0 then f n else firstErr f n
theorem firstErr_zero {f : Nat → Int} {n : Nat} (h : ∀ j, j < n → f j = 0) : firstErr f n = 0 := by
  induction n with
  | zero => rfl
  | succ n ih => rw [firstErr, if_pos (ih fun j hj => h j (by omega))]; exact h n (by omega)
theorem firstErr_at {f : Nat → Int} {n k : Nat} (h : ∀ j, j < k → f j = 0) (hk : k < n) (he : f k ≠ 0) : firstErr f n = f k := by
  induction n with
  | zero => omega
  | succ n ih =>
    rw [firstErr]
    by_cases hkn : k = n
    · subst hkn; rw [if_pos (firstErr_zero h)]
    · rw [if_neg (by rw [ih (by omega)]; exact he), ih (by omega)]
theorem firstErr_eq_zero {f : Nat → Int} {n : Nat} : firstErr f n = 0 ↔ ∀ j, j < n → f j = 0 := by
  refine ⟨?_, firstErr_zero⟩
  induction n with
  | zero => intro _ j hj; omega
  | succ n ih =>
    rw [firstErr]; split
    · rename_i h0; intro h j hj
      by_cases e : j = n
      · subst e; exact h
      · exact ih h0 j (by omega)
    · rename_i h0; intro h; exact absurd h h0
end Go.Proofs.YtonoknliloilfaaGreatDoor

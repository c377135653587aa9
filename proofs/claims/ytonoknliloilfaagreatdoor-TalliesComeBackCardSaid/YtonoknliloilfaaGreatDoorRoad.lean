/- The values of roads; what slices.BinarySearchFunc answers. Printed by gen_bs.py. -/
import Derived.Test.YtonoknliloilfaaGreatDoorKey
import Derived.Shelf.Abstract
namespace Go.Proofs.YtonoknliloilfaaGreatDoor
open Go.RowKit

theorem Row.known {α : Type} [Inhabited α] {enc : α → List Value} {k : Nat} {w : World} {b off : Nat} {l : List α} (h : Row enc k w b off l) {i : Nat} (j : Nat) {v : Value} (hi : i < l.length) (hj : j < k) (hv : (enc (l.getD i default))[j]? = some v) :
    ∀ w', Keep [] w w' → w'.cell? ⟨b, off + i * k + j, none⟩ = some v := fun _ kp => kp.known ((h i j hi hj).trans hv) (by simp)

/-- the element of a slice that a comparison finds: what slices.BinarySearchFunc answers -/
def Found (c : Nat → Int) (n i : Nat) : Prop := i ≤ n ∧ (∀ t, t < i → c t < 0) ∧ (∀ t, i ≤ t → t < n → 0 ≤ c t)

structure Nd where
  key : ByteArray
  x : Int
  y : Int
  deriving DecidableEq
instance : Inhabited Nd := ⟨⟨⟨#[]⟩, 0, 0⟩⟩
def encNd (t : Nd) : List Value := [.string t.key, .int .i64 t.x, .int .i64 t.y]
structure Knt where
  a : Int
  t : Int
  deriving DecidableEq
instance : Inhabited Knt := ⟨⟨0, 0⟩⟩
def encKnt (t : Knt) : List Value := [.int .i64 t.a, .int .i64 t.t]
/-- an arc as it lies in memory -/
structure Ac where
  key : ByteArray
  frm : ByteArray
  to : ByteArray
  long : Int
  kp : Option Addr
  kn : Nat
  kc : Nat
instance : Inhabited Ac := ⟨⟨⟨#[]⟩, ⟨#[]⟩, ⟨#[]⟩, 0, none, 0, 0⟩⟩
def encAc (t : Ac) : List Value := [.string t.key, .string t.frm, .string t.to, .int .i64 t.long, .slice t.kp t.kn t.kc]
structure Bn where
  frm : ByteArray
  to : ByteArray
  deriving DecidableEq
instance : Inhabited Bn := ⟨⟨⟨#[]⟩, ⟨#[]⟩⟩⟩
def encBn (t : Bn) : List Value := [.string t.frm, .string t.to]
end Go.Proofs.YtonoknliloilfaaGreatDoor

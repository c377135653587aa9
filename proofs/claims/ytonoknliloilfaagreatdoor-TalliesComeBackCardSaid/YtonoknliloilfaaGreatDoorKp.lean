/- 'Keep' behind several new blocks: what a walk's simp shows within its depth. Conditions: none. -/
import Derived.Test.YtonoknliloilfaaGreatDoorRd1
import Derived.Deep.DeepCutAuto
import Derived.Deep.RegionWith
namespace Go.Proofs.YtonoknliloilfaaGreatDoor
open Go.RowKit
@[go_sem] theorem keep_drew_iff {S : List Nat} {a w : World} : Keep S a w.drew ↔ Keep S a w := ⟨fun h => ⟨h.os, h.tape, h.output, h.size, h.block⟩, fun h => h.drew⟩
@[go_sem] theorem keep_drewN_iff {S : List Nat} {a w : World} {n : Nat} : Keep S a (w.drewN n) ↔ Keep S a w := ⟨fun h => ⟨h.os, h.tape, h.output, h.size, h.block⟩, fun h => h.drewN n⟩
@[go_sem] theorem keep_alloc2 {S : List Nat} {a w : World} {o p : Obj} (h : Keep S a w) : Keep S a ((w.alloc o).alloc p) := (h.alloc o).alloc p
@[go_sem] theorem keep_alloc3 {S : List Nat} {a w : World} {o p q : Obj} (h : Keep S a w) : Keep S a (((w.alloc o).alloc p).alloc q) := ((h.alloc o).alloc p).alloc q
@[go_sem] theorem keep_alloc4 {S : List Nat} {a w : World} {o p q r : Obj} (h : Keep S a w) : Keep S a ((((w.alloc o).alloc p).alloc q).alloc r) := (((h.alloc o).alloc p).alloc q).alloc r
end Go.Proofs.YtonoknliloilfaaGreatDoor

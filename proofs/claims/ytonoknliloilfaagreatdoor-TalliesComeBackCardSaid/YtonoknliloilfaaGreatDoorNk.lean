/- Keys of maps that are structs: 'live.name', a source with a number. -/
import Derived.Test.YtonoknliloilfaaGreatDoorRdyF
namespace Go.Proofs.YtonoknliloilfaaGreatDoor
open Go.RowKit

def encName (p : ByteArray × Int) : Value := .agg #[.string p.1, .int .i64 p.2]
theorem eqName (x x' : ByteArray) (y y' : Int) (w : World) : (Op.equalIn 10000 162 (.agg #[.string x, .int .i64 y]) (.agg #[.string x', .int .i64 y'])).run Tryz.prog w = .ok (decide (x = x') && decide (y = y')) w := by
  have u3 := Tryz.underlying3
  have a3 := Tryz.isAgg3
  have z3 := Tryz.sizeOf3
  have u9 := Tryz.underlying9
  have a9 := Tryz.isAgg9
  have z9 := Tryz.sizeOf9
  have hS : Tryz.prog.underlying 162 = some (.struct (Tryz.prog.fieldsOf 162)) := by kernel_rfl
  have hp : Tryz.prog.stoodInHeld 162 = false := by kernel_rfl
  rw [show (10000 : Nat) = 9999 + 1 from rfl, run_equalIn_agg w 9999 162 _ _ hS hp]
  simp only [Program.fieldsOf, Tryz.underlying162]
  go_simp
  have hx : x.toList = x'.toList ↔ x = x' := ⟨fun h => by rw [ba_toList, ba_toList] at h; exact ba_ext h, fun h => by rw [h]⟩
  by_cases h1 : x = x' <;> by_cases h2 : y = y' <;> simp [hx, h1, h2]
theorem checkName (em : Bool) (w : World) (k : ByteArray × Int) : (Instr.checkKey em 10000 162 (encName k)).run Tryz.prog w = .ok () w := by
  kernel_rfl
theorem kName : MapKey Tryz.prog 162 encName :=
  mapKey_asking checkName (fun k => by
      show (Instr.sameBits 10000 (.agg #[.string k.1, .int .i64 k.2]) (.agg #[.string k.1, .int .i64 k.2])) = true
      rw [show (10000 : Nat) = 9998 + 1 + 1 from rfl]
      simp [Instr.sameBits, ba_beq])
    (fun a b => ⟨_, Tryz.underlying162, rfl⟩) (fun w a b => by
      show (Op.equalIn 10000 162 (.agg #[.string a.1, .int .i64 a.2]) (.agg #[.string b.1, .int .i64 b.2])).run Tryz.prog w = _
      rw [eqName]
      congr 1
      obtain ⟨a1, a2⟩ := a; obtain ⟨b1, b2⟩ := b
      by_cases h1 : a1 = b1 <;> by_cases h2 : a2 = b2 <;> simp [h1, h2])
end Go.Proofs.YtonoknliloilfaaGreatDoor

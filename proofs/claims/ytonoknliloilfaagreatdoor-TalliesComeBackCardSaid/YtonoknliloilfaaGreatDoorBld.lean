/- (*strings.Builder).WriteString with its whole frame: the builder's block, and rows of bytes. -/
import Derived.Test.YtonoknliloilfaaGreatDoorTx1
import Derived.Lib.AppendStr
namespace Go.Proofs.YtonoknliloilfaaGreatDoor
open Go.RowKit

/-- block b is a builder that holds these bytes -/
def Bld (B : Nat) (w : World) (b : Nat) (l : List UInt8) : Prop := B ≤ b ∧ ∃ p v, (p = Value.pointer none ∨ p = .pointer (some ⟨b, 0, none⟩)) ∧ Blk w b #[p, v] 47 ∧ w.ownsRow B 5 1 v l.length (Lib.byteCells l)
/-- w' is w but for the block b, rows of bytes, and new blocks -/
def KeepU (B b : Nat) (w w' : World) : Prop := ∃ S, Keep S w w' ∧ ∀ k ∈ S, k = b ∨ B ≤ k ∧ ∃ cs fr, w.heap[k]? = some (.cells cs 5 fr)
theorem KeepU.blk {B b : Nat} {w w' : World} (h : KeepU B b w w') {k : Nat} {cs : Array Value} {T : TypeId} (hb : Blk w k cs T) (hk : k ≠ b) (hT : T ≠ 5) : Blk w' k cs T := by
  obtain ⟨S, hS, hs⟩ := h
  refine hb.keep hS fun hm => ?_
  rcases hs k hm with e | ⟨_, cs', fr, e⟩
  · exact hk e
  · unfold Blk at hb; rw [hb] at e; simp at e; exact hT e.2.1
theorem KeepU.size {B b : Nat} {w w' : World} (h : KeepU B b w w') : w.heap.size ≤ w'.heap.size := by obtain ⟨S, hS, _⟩ := h; exact hS.size
theorem infoU8 : (Tryz.prog.info? 5).map (fun i => (i.zero, i.size, i.bytes)) = some (some (.int .u8 0), 1, 1) := by kernel_rfl

theorem own_slice {w : World} {base : Nat} {e : TypeId} {size : Nat} {v : Value} {n : Nat} {xs : List Value} (h : w.ownsRow base e size v n xs) : ∃ ao n' cap, v = .slice ao n' cap := by
  rcases h.2 with ⟨rfl, _⟩ | ⟨g, cap, cur, rfl, _⟩
  · exact ⟨_, _, _, rfl⟩
  · exact ⟨_, _, _, rfl⟩
set_option maxHeartbeats 4000000 in
set_option maxRecDepth 100000 in
theorem writeB_core (B b : Nat) (l : List UInt8) (s : List UInt8) (v : Value) (w0 w : World) (hcc : Calls Tryz.prog 34 #[.pointer (some ⟨b, 0, none⟩)] w0 fun e w' => e = .returned (.tuple #[]) ∧ w = w') (hb : Blk w b #[.pointer (some ⟨b, 0, none⟩), v] 47) (ho : w.ownsRow B 5 1 v l.length (Lib.byteCells l)) (hB : B ≤ b) (hBw : B ≤ w.heap.size) (hlen : l.length + s.length ≤ 140737488355328) :
    Calls Tryz.prog 13 #[.pointer (some ⟨b, 0, none⟩), .string (str s)] w0 fun e w' => e = .returned (.tuple #[.int .i64 s.length, .nilIface]) ∧ Bld B w' b (l ++ s) ∧ KeepU B b w w' := by
  obtain ⟨i0, hi, hz0, hz1, hz2⟩ := info_parts infoU8
  have HC := Lib.hid hcc
  have c1 : w.cell? ⟨b, 1, none⟩ = some v := hb.cell 1
  have HB := Lib.hid hb
  have HO := Lib.hid ho
  clear hb ho hcc
  go_enter Tryz.func13, Tryz.ntmps13
  go_wp2_with fail
  refine HC.out.mono ?_
  rintro e w' ⟨rfl, rfl⟩
  have hsz := str_size s
  have HS := Lib.hid hsz
  have h63 : l.length + (str s).size ≤ maxLen := by unfold maxLen; omega
  have hby : l.length + (str s).size ≤ 140737488355328 := by omega
  have f1 : ∀ w', Blk w' b #[.pointer (some ⟨b, 0, none⟩), v] 47 → w'.cell? ⟨b, 1, none⟩ = some v ∧ w'.frozen? ⟨b, 1, none⟩ = false := fun w' h => ⟨h.cell 1, h.frozen 1⟩
  have F1 := Lib.hid f1
  clear hsz f1
  go_wp2_with (at_builtin; refine Lib.wpList_append_own_string _ rfl _ _ 45 9 rfl B 5 i0 Tryz.underlying45 Tryz.underlying9 hi hz0 hz1 hz2 v l.length (Lib.byteCells l) rfl HO.out (str s) rfl h63 hby hBw ?_; intro v2 w2 ho2 hg2 hn2; clear hn2; obtain ⟨ao, n', cp, rfl⟩ := own_slice ho2; have kg := (Keep.refl v.ownBlock.toList w).grown hg2 (fun k hk => .inl (by simp [hk])); have hb2 := HB.out.keep kg (own_apart HO.out HB.out (by decide)); obtain ⟨d1, e1⟩ := F1.out w2 hb2; have HB2 := Lib.hid hb2; have HO2 := Lib.hid ho2; have KG := Lib.hid kg; clear kg hb2 ho2 hg2)
  go_ret2
  have kS : Keep [b] w2 (w2.setCell ⟨b, 1, none⟩ (.slice ao n' cp)) := (Keep.refl _ _).setCell (.inl (by simp)) _
  refine ⟨by rw [HS.out]; rfl, ⟨hB, _, _, .inr rfl, HB2.out.set 1 _, ?_⟩, v.ownBlock.toList ++ [b], (KG.out.mono (by simp; exact fun i hi => .inl hi)).tr (kS.mono (by simp)), ?_⟩
  · have := own_keepN HO2.out kS (fun s hs hm => by simp at hs; subst hs; exact own_apart HO2.out HB2.out (by decide) hm)
    rw [HS.out] at this
    simpa [Lib.byteCells_append, str_data, Lib.strCells_eq] using this
  · intro k hk
    simp only [List.mem_append, List.mem_singleton] at hk
    rcases hk with hk | hk
    · refine .inr ?_
      rcases HO.out.2 with ⟨e, _⟩ | ⟨g, cap, cur, e, hg, hh, _⟩
      · rw [e] at hk; simp [Value.ownBlock] at hk
      · rw [e] at hk; simp [Value.ownBlock] at hk; subst hk; exact ⟨hg, _, _, hh⟩
    · exact .inl hk
theorem writeB_any (B b : Nat) (l : List UInt8) (s : List UInt8) (w : World) (hb : Bld B w b l) (hBw : B ≤ w.heap.size) (hlen : l.length + s.length ≤ 140737488355328) :
    Calls Tryz.prog 13 #[.pointer (some ⟨b, 0, none⟩), .string (str s)] w fun e w' => e = .returned (.tuple #[.int .i64 s.length, .nilIface]) ∧ Bld B w' b (l ++ s) ∧ KeepU B b w w' := by
  obtain ⟨hB, p, v, hp, hbk, ho⟩ := hb
  rcases hp with rfl | rfl
  · have kS : Keep [b] w (w.setCell ⟨b, 0, none⟩ (.pointer (some ⟨b, 0, none⟩))) := (Keep.refl _ _).setCell (.inl (by simp)) _
    have hsh : w.shape? b = some (47, 2) := by unfold Blk at hbk; simp [World.shape?, hbk]
    refine (writeB_core B b l s v w _ ((copyCheck_fresh b w (hbk.cell 0) hsh (hbk.frozen 0)).mono fun _ _ h => And.intro h.1 h.2.symm) (hbk.set 0 _) (own_keepN ho kS (fun s hs hm => by simp at hs; subst hs; exact own_apart ho hbk (by decide) hm)) hB (by simpa [World.setCell] using hBw) hlen).mono ?_
    rintro e w' ⟨he, h1, S, hS, hs⟩
    refine ⟨he, h1, b :: S, (kS.mono (by simp)).trans hS (fun i hi _ => by simp [hi]), fun k hk => ?_⟩
    rcases List.mem_cons.1 hk with rfl | hk
    · exact .inl rfl
    · rcases hs k hk with e | ⟨e0, cs, fr, e⟩
      · exact .inl e
      · by_cases hkb : k = b
        · exact .inl hkb
        · refine .inr ⟨e0, cs, fr, ?_⟩; rw [← e]; exact (Below.heap_setCell _ _ _ _ hkb).symm
  · exact writeB_core B b l s v w w ((copyCheck_used b w (hbk.cell 0)).mono fun _ _ h => And.intro h.1 h.2.symm) hbk ho hB hBw hlen
theorem Bld.toIs {B : Nat} {w : World} {b : Nat} {l : List UInt8} (h : Bld B w b l) : Lib.IsBuilder 47 5 B b (Lib.byteCells l) w := by
  obtain ⟨hB, p, v, hp, hbk, ho⟩ := h
  have hne : v.ownBlock ≠ some b := fun e => own_apart ho hbk (by decide) (by rw [e]; simp)
  rcases hp with rfl | rfl
  · exact .inl ⟨hB, v, hbk, by rw [Lib.byteCells_length]; exact ho, hne⟩
  · exact .inr ⟨hB, v, hbk, by rw [Lib.byteCells_length]; exact ho, hne⟩
theorem Bld.keep {B : Nat} {w w' : World} {b : Nat} {l : List UInt8} (h : Bld B w b l) {S : List Nat} (k : Keep S w w') (hS : ∀ s ∈ S, s < B) : Bld B w' b l := by
  obtain ⟨hB, p, v, hp, hbk, ho⟩ := h
  exact ⟨hB, p, v, hp, hbk.keep k (fun hm => by have := hS _ hm; omega), own_keep ho k hS⟩
theorem Bld.new {B : Nat} (w : World) (h : B ≤ w.heap.size) : Bld B (w.alloc (.cells #[.pointer none, .slice none 0 0] 47)) w.heap.size [] :=
  ⟨h, _, _, .inl rfl, Blk.new w _ _, World.ownsRow_nil _ _ _ _⟩
/-- what was there before B is as it was -/
theorem KeepU.old {B b : Nat} {w w' w0 : World} (h : KeepU B b w w') (h0 : Keep [] w0 w) (hB : w0.heap.size ≤ B) (hb : B ≤ b) : Keep [] w0 w' := by
  obtain ⟨S, hS, hs⟩ := h
  refine h0.trans hS fun i hi hlt => ?_
  rcases hs i hi with e | ⟨e, _⟩ <;> omega
end Go.Proofs.YtonoknliloilfaaGreatDoor

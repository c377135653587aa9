/- Slices that a call has made itself and appends to, one element after the other. -/
import Derived.Test.YtonoknliloilfaaGreatDoorBase
namespace Go.Proofs.YtonoknliloilfaaGreatDoor
open Go.RowKit

/-- t is a slice type whose elements, of type e, have 'size' cells and 'bytes' bytes -/
structure ElemOf (P : Program) (t e : TypeId) (size bytes : Nat) : Prop where
  ht : P.underlying t = some (.slice e)
  info : ∃ i z, P.info? e = some i ∧ i.zero = some z ∧ i.size = size ∧ i.bytes = bytes ∧ z.cells.size = size
  pos : 0 < size
theorem ElemOf.mk' {P : Program} {t e : TypeId} {size bytes : Nat} (ht : P.underlying t = some (.slice e)) (pos : 0 < size)
    (hk : ((P.info? e).bind fun i => i.zero.map fun z => (i.size, i.bytes, z.cells.size)) = some (size, bytes, size)) : ElemOf P t e size bytes := by
  refine ⟨ht, ?_, pos⟩
  cases hi : P.info? e with
  | none => simp [hi] at hk
  | some i =>
    cases hz : i.zero with
    | none => simp [hi, hz] at hk
    | some z => simp [hi, hz] at hk; exact ⟨i, z, rfl, hz, hk.1, hk.2.1, hk.2.2⟩

theorem own_keep {S : List Nat} {w w' : World} {base : Nat} {e : TypeId} {size : Nat} {v : Value} {n : Nat} {xs : List Value} (h : w.ownsRow base e size v n xs) (k : Keep S w w') (hS : ∀ s ∈ S, s < base) : w'.ownsRow base e size v n xs := by
  obtain ⟨h1, h2⟩ := h
  refine ⟨h1, ?_⟩
  rcases h2 with h2 | ⟨g, cap, cur, hv, hg, hh, r⟩
  · exact .inl h2
  · refine .inr ⟨g, cap, cur, hv, hg, ?_, r⟩
    rw [k.block g ?_ (fun hm => by have := hS g hm; omega)]; exact hh
    rcases Nat.lt_or_ge g w.heap.size with h' | h'
    · exact h'
    · rw [Array.getElem?_eq_none h'] at hh; cases hh
theorem own_mono {w : World} {base base' : Nat} {e : TypeId} {size : Nat} {v : Value} {n : Nat} {xs : List Value} (h : w.ownsRow base e size v n xs) (hb : base' ≤ base) : w.ownsRow base' e size v n xs := by
  obtain ⟨h1, h2⟩ := h
  refine ⟨h1, ?_⟩
  rcases h2 with h2 | ⟨g, cap, cur, hv, hg, r⟩
  · exact .inl h2
  · exact .inr ⟨g, cap, cur, hv, Nat.le_trans hb hg, r⟩

theorem own_block {w : World} {base : Nat} {e : TypeId} {size : Nat} {v : Value} {n : Nat} {xs : List Value} (h : w.ownsRow base e size v n xs) : ∀ s ∈ v.ownBlock.toList, base ≤ s := by
  intro s hs
  rcases h.2 with ⟨rfl, _⟩ | ⟨g, cap, cur, rfl, hg, _⟩
  · simp [Value.ownBlock] at hs
  · simp [Value.ownBlock] at hs; omega
/-- a block of another element type is not the row's -/
theorem own_apart {w : World} {base : Nat} {e : TypeId} {size : Nat} {v : Value} {n : Nat} {xs : List Value} (h : w.ownsRow base e size v n xs) {b : Nat} {cs : Array Value} {T : TypeId} (hb : Blk w b cs T) (hT : T ≠ e) : b ∉ v.ownBlock.toList := by
  rcases h.2 with ⟨rfl, _⟩ | ⟨g, cap, cur, rfl, hg, hh, _⟩
  · simp [Value.ownBlock]
  · simp [Value.ownBlock]; intro e; subst e; unfold Blk at hb; rw [hb] at hh; simp at hh; exact hT hh.2
theorem own_keepN {S : List Nat} {w w' : World} {base : Nat} {e : TypeId} {size : Nat} {v : Value} {n : Nat} {xs : List Value} (h : w.ownsRow base e size v n xs) (k : Keep S w w') (hS : ∀ s ∈ S, s ∉ v.ownBlock.toList) : w'.ownsRow base e size v n xs := by
  obtain ⟨h1, h2⟩ := h
  refine ⟨h1, ?_⟩
  rcases h2 with h2 | ⟨g, cap, cur, rfl, hg, hh, r⟩
  · exact .inl h2
  · refine .inr ⟨g, cap, cur, rfl, hg, ?_, r⟩
    rw [k.block g ?_ (fun hm => hS g hm (by simp [Value.ownBlock]))]; exact hh
    rcases Nat.lt_or_ge g w.heap.size with h' | h'
    · exact h'
    · rw [Array.getElem?_eq_none h'] at hh; cases hh
/-- two rows of unlike element types lie in unlike blocks -/
theorem own_own {w : World} {base base' : Nat} {e e' : TypeId} {size size' : Nat} {v v' : Value} {n n' : Nat} {xs xs' : List Value} (h : w.ownsRow base e size v n xs) (h' : w.ownsRow base' e' size' v' n' xs') (he : e ≠ e') : ∀ s ∈ v'.ownBlock.toList, s ∉ v.ownBlock.toList := by
  intro s hs hm
  rcases h.2 with ⟨rfl, _⟩ | ⟨g, cap, cur, rfl, hg, hh, _⟩
  · simp [Value.ownBlock] at hm
  · rcases h'.2 with ⟨rfl, _⟩ | ⟨g', cap', cur', rfl, hg', hh', _⟩
    · simp [Value.ownBlock] at hs
    · simp [Value.ownBlock] at hm hs; subst hm; subst hs; rw [hh] at hh'; simp at hh'; exact he hh'.2
/-- the cells of a row that is not empty -/
theorem own_cells {w : World} {base : Nat} {e : TypeId} {size : Nat} {v : Value} {n : Nat} {xs : List Value} (h : w.ownsRow base e size v n xs) (hn : 0 < n) :
    ∃ g cap, v = .slice (some ⟨g, 0, none⟩) n cap ∧ base ≤ g ∧ g < w.heap.size ∧ n ≤ cap ∧ (∀ j, j < n * size → w.cell? ⟨g, j, none⟩ = xs[j]?) ∧ (∀ j, w.frozen? ⟨g, j, none⟩ = false) := by
  obtain ⟨h1, h2⟩ := h
  rcases h2 with ⟨_, rfl⟩ | ⟨g, cap, cur, rfl, hg, hh, hnc, hm, hs, hx⟩
  · omega
  · refine ⟨g, cap, rfl, hg, ?_, hnc, fun j hj => ?_, fun j => by simp [World.frozen?, hh]⟩
    · rcases Nat.lt_or_ge g w.heap.size with h' | h'
      · exact h'
      · rw [Array.getElem?_eq_none h'] at hh; cases hh
    · simp only [World.cell?, hh]
      rw [← hx, List.getElem?_take]
      simp [hj]
section
variable {P : Program}
theorem run_append1 {t e ty : TypeId} {size bytes : Nat} (E : ElemOf P t e size bytes) {base : Nat} {v : Value} {n : Nat} {xs : List Value} {w0 : World} (hown : w0.ownsRow base e size v n xs)
    (news : List Value) (hl : news.length = size) (h1 : ∀ u ∈ news, u.oneCell' = true) (hn : n + 1 ≤ maxLen) (hby : (n + 1) * bytes ≤ 140737488355328) (hb : base ≤ w0.heap.size) :
    ∃ v' w', (Builtin.append_ #[t, t] ty #[v, .slice (some ⟨w0.heap.size, 0, none⟩) 1 1]).run P (w0.alloc (.cells news.toArray e)) = .ok v' w' ∧ w'.ownsRow base e size v' (n + 1) (xs ++ news) ∧ Keep v.ownBlock.toList w0 w' := by
  obtain ⟨i, z, hi, hz, hs, hbt, hzs⟩ := E.info
  obtain ⟨v', w', hrun, hown', hg, _⟩ := run_append_own (w0.alloc (.cells news.toArray e)) base t ty e i z size bytes E.ht hi hz hs hbt hzs E.pos v n xs (hown.alloc _) ⟨w0.heap.size, 0, none⟩ 1 1 news (by simpa using hl)
    (fun j u hj => by
      have := (Blk.new w0 news.toArray e).cell j
      rw [show ((⟨w0.heap.size, 0, none⟩ : Addr).add j) = ⟨w0.heap.size, j, none⟩ by simp [Addr.add]; intro h; simp [h]]
      rw [this]; simpa using hj) h1 hn hby (by simp; omega)
  refine ⟨v', w', hrun, hown', ?_⟩
  refine ((Keep.refl _ w0).alloc (.cells news.toArray e)).grown hg (fun k hk => .inl (by simp [hk]))
theorem wpList_append1 {ops : Array Oper} {rest : List Oper} {o : Oper} {a : Act} {Q : Exit → Act → World → Prop} {t e : TypeId} {size bytes : Nat} {base : Nat} {v : Value} {n : Nat} {xs : List Value} {w0 : World} {news : List Value}
    (hgd : o.guard = none) (s x : Operand) (ho : o.op = .call { callee := .builtin .append, args := #[s, x], argTypes := #[t, t] }) (E : ElemOf P t e size bytes) (hs : a.eval s = v) (hx : a.eval x = .slice (some ⟨w0.heap.size, 0, none⟩) 1 1)
    (hown : w0.ownsRow base e size v n xs) (hl : news.length = size) (h1 : ∀ u ∈ news, u.oneCell' = true) (hn : n + 1 ≤ maxLen) (hby : (n + 1) * bytes ≤ 140737488355328) (hb : base ≤ w0.heap.size)
    (hK : ∀ v' w', w'.ownsRow base e size v' (n + 1) (xs ++ news) → Keep v.ownBlock.toList w0 w' → wpList P ops Q rest (a.put o.dst v') w') : wpList P ops Q (o :: rest) a (w0.alloc (.cells news.toArray e)) := by
  obtain ⟨v', w', hrun, hown', hk⟩ := run_append1 (ty := o.type) E hown news hl h1 hn hby hb
  refine wpList_plain hgd fun K' hK' => ?_
  unfold Oper.wp execOp
  simp only [ho, resolve, invoke, builtin, Sem.run_bind, Sem.run_pure, Result.andThen_ok, List.map_toArray, List.map_cons, List.map_nil, hs, hx, hrun]
  exact hK' _ _ (hK v' w' hown' hk)
end
end Go.Proofs.YtonoknliloilfaaGreatDoor

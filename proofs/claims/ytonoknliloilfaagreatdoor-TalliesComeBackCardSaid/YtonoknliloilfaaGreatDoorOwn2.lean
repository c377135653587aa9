/- Appending inside a region that draws its order; the block of a row. -/
import Derived.Test.YtonoknliloilfaaGreatDoorOwn
namespace Go.Proofs.YtonoknliloilfaaGreatDoor
open Go.RowKit

section
variable {P : Program}
theorem step_append1 {ops : Array Oper} {o : Oper} {a : Act} {w : World} {K : Act → World → Prop} {Q : Exit → Act → World → Prop} {X : Prop} {t e : TypeId} {size bytes : Nat} {base : Nat} {v : Value} {n : Nat} {xs news : List Value}
    (hg : o.guard = none) (s x : Operand) (ho : o.op = .call { callee := .builtin .append, args := #[s, x], argTypes := #[t, t] }) (E : ElemOf P t e size bytes) (hs : a.eval s = v) (A : Nat) (hx : a.eval x = .slice (some ⟨A, 0, none⟩) 1 1)
    (hA : Blk w A news.toArray e) (hown : w.ownsRow base e size v n xs) (hl : news.length = size) (h1 : ∀ u ∈ news, u.oneCell' = true) (hn : n + 1 ≤ maxLen) (hby : (n + 1) * bytes ≤ 140737488355328) (hb : base ≤ w.heap.size)
    (hK : ∀ v' w', w'.ownsRow base e size v' (n + 1) (xs ++ news) → Keep v.ownBlock.toList w w' → K (a.put o.dst v') w') :
    if Region.wanted o (yielded ops a.tmps) = true then Oper.wp P o a w K Q else X := by
  have hw : Region.wanted o (yielded ops a.tmps) = true := by simp [Region.wanted, hg]
  rw [if_pos hw]
  obtain ⟨i, z, hi, hz, hsz, hbt, hzs⟩ := E.info
  obtain ⟨v', w', hrun, hown', hgr, _⟩ := run_append_own (P := P) w base t o.type e i z size bytes E.ht hi hz hsz hbt hzs E.pos v n xs hown ⟨A, 0, none⟩ 1 1 news (by simpa using hl)
    (fun j u hj => by
      have := hA.cell j
      rw [show ((⟨A, 0, none⟩ : Addr).add j) = ⟨A, j, none⟩ by simp [Addr.add]; intro h; simp [h]]
      rw [this]; simpa using hj) h1 hn hby hb
  unfold Oper.wp execOp
  simp only [ho, resolve, invoke, builtin, Sem.run_bind, Sem.run_pure, Result.andThen_ok, List.map_toArray, List.map_cons, List.map_nil, hs, hx, hrun]
  exact (hK v' w' hown' ((Keep.refl _ w).grown hgr (fun k hk => .inl (by simp [hk]))))
end
/-- the block of a row that is not empty -/
theorem own_blk {w : World} {base : Nat} {e : TypeId} {size : Nat} {v : Value} {n : Nat} {xs : List Value} (h : w.ownsRow base e size v n xs) (hn : 0 < n) :
    ∃ g cap cur, v = .slice (some ⟨g, 0, none⟩) n cap ∧ base ≤ g ∧ Blk w g cur e ∧ n ≤ cap ∧ (∀ j, j < n * size → cur[j]? = xs[j]?) := by
  obtain ⟨h1, h2⟩ := h
  rcases h2 with ⟨_, rfl⟩ | ⟨g, cap, cur, rfl, hg, hh, hnc, hm, hs, hx⟩
  · omega
  · refine ⟨g, cap, cur, rfl, hg, hh, hnc, fun j hj => ?_⟩
    rw [← hx, List.getElem?_take]; simp [hj]
end Go.Proofs.YtonoknliloilfaaGreatDoor

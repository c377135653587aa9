/- Maps that lie in a block: what they hold as a list of pairs; lookup, store, deletion and the range over one, whatever the type of the keys. -/
import Derived.Test.YtonoknliloilfaaGreatDoorBase
import Derived.Maps.OwnOps
namespace Go.Proofs.YtonoknliloilfaaGreatDoor
open Go.RowKit

def ixOf {κ : Type} [DecidableEq κ] (k : κ) : List κ → Nat → Option Nat
  | [], _ => none
  | a :: l, i => if k = a then some i else ixOf k l (i + 1)
def mget {κ ν : Type} [DecidableEq κ] (k : κ) : List (κ × ν) → Option ν
  | [] => none
  | p :: l => if k = p.1 then some p.2 else mget k l
def mput {κ ν : Type} [DecidableEq κ] (k : κ) (v : ν) : List (κ × ν) → List (κ × ν)
  | [] => [(k, v)]
  | p :: l => if k = p.1 then (p.1, v) :: l else p :: mput k v l
def mdel {κ ν : Type} [DecidableEq κ] (k : κ) : List (κ × ν) → List (κ × ν)
  | [] => []
  | p :: l => if k = p.1 then l else p :: mdel k l

theorem ixOf_shift {κ : Type} [DecidableEq κ] (k : κ) (l : List κ) : ∀ i, ixOf k l i = (ixOf k l 0).map (· + i) := by
  induction l with
  | nil => intro i; rfl
  | cons a l ih =>
    intro i; simp only [ixOf]; split
    · simp
    · rw [ih (i + 1), ih (0 + 1)]
      cases ixOf k l 0 with
      | none => rfl
      | some j => simp; omega
theorem ixOf_mget {κ ν : Type} [DecidableEq κ] (k : κ) (m : List (κ × ν)) : mget k m = (ixOf k (m.map (·.1)) 0).bind fun i => (m[i]?).map (·.2) := by
  induction m with
  | nil => rfl
  | cons p l ih =>
    simp only [mget, List.map_cons, ixOf]; split
    · simp
    · rw [ih, ixOf_shift k _ (0 + 1)]; cases ixOf k (l.map (·.1)) 0 <;> simp
theorem ixOf_lt {κ : Type} [DecidableEq κ] {k : κ} {l : List κ} {i : Nat} (h : ixOf k l 0 = some i) : l[i]? = some k := by
  induction l generalizing i with
  | nil => simp [ixOf] at h
  | cons a l ih =>
    simp only [ixOf] at h; split at h
    · rename_i e; simp at h; subst h; simp [e]
    · rw [ixOf_shift] at h
      cases hj : ixOf k l 0 with
      | none => simp [hj] at h
      | some j => simp [hj] at h; subst h; simpa using ih hj
theorem ixOf_none {κ : Type} [DecidableEq κ] {k : κ} {l : List κ} (h : ixOf k l 0 = none) : k ∉ l := by
  induction l with
  | nil => simp
  | cons a l ih =>
    simp only [ixOf] at h; split at h
    · simp at h
    · rename_i hne
      rw [ixOf_shift] at h
      have : ixOf k l 0 = none := by cases hj : ixOf k l 0 <;> simp [hj] at h ⊢
      simp [hne, ih this]
theorem mput_none {κ ν : Type} [DecidableEq κ] {k : κ} {v : ν} {m : List (κ × ν)} (h : ixOf k (m.map (·.1)) 0 = none) : mput k v m = m ++ [(k, v)] := by
  have := ixOf_none h; clear h
  induction m with
  | nil => rfl
  | cons p l ih => simp at this; simp [mput, this.1, ih (by simpa using this.2)]
theorem mput_some {κ ν : Type} [DecidableEq κ] {k : κ} {v : ν} {m : List (κ × ν)} {i : Nat} (h : ixOf k (m.map (·.1)) 0 = some i) : mput k v m = m.set i (k, v) := by
  induction m generalizing i with
  | nil => simp [ixOf] at h
  | cons p l ih =>
    simp only [List.map_cons, ixOf] at h; simp only [mput]; split at h
    · rename_i e; simp at h; subst h; simp [e]
    · rename_i e
      rw [ixOf_shift] at h
      cases hj : ixOf k (l.map (·.1)) 0 with
      | none => simp [hj] at h
      | some j => simp [hj] at h; subst h; rw [if_neg e, ih hj]; simp
theorem keys_mput {κ ν : Type} [DecidableEq κ] (k : κ) (v : ν) (m : List (κ × ν)) : (mput k v m).map (·.1) = if k ∈ m.map (·.1) then m.map (·.1) else m.map (·.1) ++ [k] := by
  induction m with
  | nil => simp [mput]
  | cons p l ih =>
    simp only [mput]; split
    · rename_i e; simp [e]
    · rename_i e; simp only [List.map_cons, ih, List.mem_cons, e, false_or]; split <;> simp
theorem mget_mput {κ ν : Type} [DecidableEq κ] (k k' : κ) (v : ν) (m : List (κ × ν)) : mget k' (mput k v m) = if k' = k then some v else mget k' m := by
  induction m with
  | nil => simp [mput, mget]
  | cons p l ih =>
    simp only [mput]; split
    · rename_i e; subst e; simp only [mget]; split <;> rfl
    · rename_i e; simp only [mget]; split
      · rename_i e2; subst e2; rw [if_neg (fun h => e h.symm)]
      · exact ih

/-- what the model does with a key of this type: it is hashable, and is found by equality -/
structure MapKey (P : Program) (kt : TypeId) {κ : Type} [DecidableEq κ] (encK : κ → Value) : Prop where
  check : ∀ em w k, (Instr.checkKey em 10000 kt (encK k)).run P w = .ok () w
  find : ∀ w k (es : List MapEntry) (ks : List κ), es.map (·.key) = ks.map encK → (Instr.findKey kt (encK k) es).run P w = .ok ((ixOf k ks 0).bind fun i => (es[i]?).map fun e => (i, e.val)) w
  same : ∀ k, Instr.sameBits 10000 (encK k) (encK k) = true

section
variable {P : Program} {kt : TypeId} {κ : Type} [DecidableEq κ] {encK : κ → Value}
theorem findNow_all (kind : TypeDesc) (h : ∀ a b, Instr.sameNow kind (encK a) (encK b) = some (decide (a = b))) (k : κ) : ∀ (es : List MapEntry) (ks : List κ) (i : Nat), es.map (·.key) = ks.map encK →
    Instr.findNow kind (encK k) es i = some ((ixOf k ks 0).bind fun j => (es[j]?).map fun e => (i + j, e.val)) := by
  intro es
  induction es with
  | nil => intro ks i he; cases ks <;> simp at he; simp [Instr.findNow, ixOf]
  | cons e es ih =>
    intro ks i he
    cases ks with
    | nil => simp at he
    | cons a ks =>
      simp at he
      simp only [Instr.findNow, he.1, h, ixOf]
      by_cases hk : k = a
      · simp [hk]
      · simp only [hk, decide_false, if_false]
        rw [ih ks (i + 1) he.2, ixOf_shift k ks (0 + 1)]
        cases ixOf k ks 0 with
        | none => rfl
        | some j => simp only [Option.map_some, Option.bind_some, List.getElem?_cons_succ, Nat.zero_add, show i + 1 + j = i + (j + 1) by omega]
theorem findAsking_all (h : ∀ w a b, (Op.equal kt (encK a) (encK b)).run P w = .ok (decide (a = b)) w) (k : κ) (w : World) : ∀ (es : List MapEntry) (ks : List κ) (i : Nat), es.map (·.key) = ks.map encK →
    (Instr.findAsking kt (encK k) es i).run P w = .ok ((ixOf k ks 0).bind fun j => (es[j]?).map fun e => (i + j, e.val)) w := by
  intro es
  induction es with
  | nil => intro ks i he; cases ks <;> simp at he; simp [Instr.findAsking, ixOf]
  | cons e es ih =>
    intro ks i he
    cases ks with
    | nil => simp at he
    | cons a ks =>
      simp at he
      simp only [Instr.findAsking, he.1, Sem.run_bind, h, Result.andThen_ok, ixOf]
      by_cases hk : k = a
      · simp [hk]
      · simp only [hk, decide_false, Bool.false_eq_true, if_false]
        rw [ih ks (i + 1) he.2, ixOf_shift k ks (0 + 1)]
        cases ixOf k ks 0 with
        | none => rfl
        | some j => simp only [Option.map_some, Option.bind_some, List.getElem?_cons_succ, Nat.zero_add, show i + 1 + j = i + (j + 1) by omega]
theorem mapKey_asking (hc : ∀ em w k, (Instr.checkKey em 10000 kt (encK k)).run P w = .ok () w) (hs : ∀ k, Instr.sameBits 10000 (encK k) (encK k) = true)
    (hn : ∀ a b, ∃ d, P.underlying kt = some d ∧ Instr.sameNow d (encK a) (encK b) = none) (h : ∀ w a b, (Op.equal kt (encK a) (encK b)).run P w = .ok (decide (a = b)) w) : MapKey P kt encK :=
  ⟨hc, fun w k es ks he => by
    cases es with
    | nil =>
      cases ks with
      | nil => obtain ⟨d, hd, _⟩ := hn k k; simp [Instr.findKey, run_underlying hd, Instr.findNow, ixOf]
      | cons a ks => simp at he
    | cons e es =>
      cases ks with
      | nil => simp at he
      | cons a ks =>
        obtain ⟨d, hd, hn⟩ := hn k a
        have he' := he
        simp at he'
        have hno : Instr.findNow d (encK k) (e :: es) 0 = none := by simp [Instr.findNow, he'.1, hn]
        simp only [Instr.findKey, Sem.run_bind, run_underlying hd, Result.andThen_ok, hno]
        rw [findAsking_all h k w (e :: es) (a :: ks) 0 he]; simp, hs⟩
theorem mapKey_now (hc : ∀ em w k, (Instr.checkKey em 10000 kt (encK k)).run P w = .ok () w) (hs : ∀ k, Instr.sameBits 10000 (encK k) (encK k) = true) (d : TypeDesc) (hd : P.underlying kt = some d)
    (h : ∀ a b, Instr.sameNow d (encK a) (encK b) = some (decide (a = b))) : MapKey P kt encK :=
  ⟨hc, fun w k es ks he => by
    simp only [Instr.findKey, Sem.run_bind, run_underlying hd, Result.andThen_ok, findNow_all d h k es ks 0 he]; simp, hs⟩
theorem mapKey_int (q : IntKind) (hd : P.underlying kt = some (.int q)) : MapKey P kt (Value.int q) :=
  mapKey_now (fun em w k => by rw [show (10000 : Nat) = 9999 + 1 from rfl]; generalize 9999 = n; simp only [Instr.checkKey, Sem.run_bind, run_underlying hd, Result.andThen_ok]; rfl) (fun k => by show (q == q && k == k) = true; simp) _ hd (fun a b => by simp [Instr.sameNow]; rfl)
theorem ba_beq (a b : ByteArray) : (a == b) = decide (a = b) := by
  obtain ⟨⟨a⟩⟩ := a
  obtain ⟨⟨b⟩⟩ := b
  show ((⟨a⟩ : Array UInt8) == ⟨b⟩) = _
  rw [Bool.eq_iff_iff]; simp
theorem mapKey_string (hd : P.underlying kt = some .string) : MapKey P kt Value.string :=
  mapKey_now (fun em w k => by rw [show (10000 : Nat) = 9999 + 1 from rfl]; generalize 9999 = n; simp only [Instr.checkKey, Sem.run_bind, run_underlying hd, Result.andThen_ok]; rfl) (fun k => by show (k == k) = true; rw [ba_beq]; simp) _ hd (fun a b => by simp only [Instr.sameNow, ba_beq])
end

/-- block b is a map that holds these pairs, each key once, in the order in which they came -/
def MapIs {κ ν : Type} (encK : κ → Value) (encV : ν → Value) (w : World) (b : Nat) (m : List (κ × ν)) : Prop :=
  ∃ es clock, w.heap[b]? = some (.map es clock) ∧ es.toList.map (·.key) = m.map (fun p => encK p.1) ∧ es.toList.map (·.val) = m.map (fun p => encV p.2) ∧ (m.map (·.1)).Nodup ∧
    (∀ e ∈ es.toList, e.born < clock) ∧ (es.toList.map (·.born)).Nodup

theorem MapIs.lt {κ ν : Type} {encK : κ → Value} {encV : ν → Value} {w : World} {b : Nat} {m : List (κ × ν)} (h : MapIs encK encV w b m) : b < w.heap.size := by
  obtain ⟨es, clock, hb, _⟩ := h
  rcases Nat.lt_or_ge b w.heap.size with h' | h'
  · exact h'
  · rw [Array.getElem?_eq_none h'] at hb; cases hb
theorem MapIs.keep {κ ν : Type} {encK : κ → Value} {encV : ν → Value} {S : List Nat} {w w' : World} {b : Nat} {m : List (κ × ν)} (h : MapIs encK encV w b m) (k : Keep S w w') (hn : b ∉ S) : MapIs encK encV w' b m := by
  have hl := h.lt
  obtain ⟨es, clock, hb, r⟩ := h
  exact ⟨es, clock, by rw [k.block b hl hn]; exact hb, r⟩
theorem MapIs.new {κ ν : Type} {encK : κ → Value} {encV : ν → Value} (w : World) : MapIs encK encV (w.alloc (.map #[] 0)) w.heap.size ([] : List (κ × ν)) :=
  ⟨#[], 0, by show (w.heap.push _)[w.heap.size]? = _; simp, rfl, rfl, List.nodup_nil, by simp, List.nodup_nil⟩

/-- another object in the place of block b -/
def setObjW (w : World) (b : Nat) (o : Obj) : World := { w with heap := w.heap.setIfInBounds b o }
theorem keep_setObj (w : World) (b : Nat) (o : Obj) : Keep [b] w (setObjW w b o) :=
  ⟨rfl, rfl, rfl, by simp [setObjW], fun k _ hk => by simp [setObjW, Array.getElem?_setIfInBounds]; intro e; simp at hk; omega⟩
theorem get_setObj {w : World} {b : Nat} (o : Obj) (h : b < w.heap.size) : (setObjW w b o).heap[b]? = some o := by simp [setObjW, h]
theorem run_getObj_map {P : Program} {w : World} {b : Nat} {es : Array MapEntry} {clock : Nat} (h : w.heap[b]? = some (.map es clock)) : (getObj b).run P w = .ok (.map es clock) w := by
  simp [getObj, Sem.run, h]
theorem run_setObj_map {P : Program} {w : World} {b : Nat} {es es' : Array MapEntry} {clock clock' : Nat} (h : w.heap[b]? = some (.map es clock)) : (setObj b (.map es' clock')).run P w = .ok () (setObjW w b (.map es' clock')) := by
  simp [setObj, Sem.run, h, setObjW]

section
variable {P : Program} {t kt et : TypeId} {κ ν : Type} [DecidableEq κ] {encK : κ → Value} {encV : ν → Value}
theorem MapIs.found {w : World} {m : List (κ × ν)} {es : Array MapEntry} (K : MapKey P kt encK) (h1 : es.toList.map (·.key) = m.map (fun p => encK p.1)) (k : κ) :
    (Instr.findKey kt (encK k) es.toList).run P w = .ok ((ixOf k (m.map (·.1)) 0).bind fun i => (es[i]?).map fun e => (i, e.val)) w := by
  rw [K.find w k es.toList (m.map (·.1)) (by rw [h1]; simp)]; simp
omit [DecidableEq κ] in
theorem val_at {m : List (κ × ν)} {es : Array MapEntry} (h2 : es.toList.map (·.val) = m.map (fun p => encV p.2)) (i : Nat) : (es[i]?).map (·.val) = (m[i]?).map fun p => encV p.2 := by
  have := congrArg (fun l => l[i]?) h2
  simpa using this
theorem MapIs.lookup {w : World} {b : Nat} {m : List (κ × ν)} (h : MapIs encK encV w b m) (K : MapKey P kt encK) (ht : P.underlying t = some (.map kt et)) {z : Value} (hz : ∀ w, (zeroValue et).run P w = .ok z w) (k : κ) :
    (Instr.lookup t (.map (some b)) (encK k) false).run P w = .ok (match mget k m with | some v => encV v | none => z) w := by
  obtain ⟨es, clock, hb, h1, h2, _⟩ := h
  have hf := MapIs.found (w := w) K h1 k
  simp only [Instr.lookup, Sem.run_bind, run_underlying ht, Result.andThen_ok, run_getObj_map hb, Sem.run_pure, K.check, hf]
  have hv := ixOf_mget k m
  cases hi : ixOf k (m.map (·.1)) 0 with
  | none => simp [hi] at hv; simp [hv, hz]
  | some i =>
    simp only [hi, Option.bind_some] at hv
    have := val_at (encV := encV) h2 i
    have hlt := ixOf_lt hi
    cases hm : m[i]? with
    | none => simp [hm] at hlt
    | some p => simp [hm] at hv this; obtain ⟨e, he, hev⟩ := this; simp [hv, he, hev]
theorem MapIs.lookup_ok {w : World} {b : Nat} {m : List (κ × ν)} (h : MapIs encK encV w b m) (K : MapKey P kt encK) (ht : P.underlying t = some (.map kt et)) {z : Value} (hz : ∀ w, (zeroValue et).run P w = .ok z w) (k : κ) :
    (Instr.lookup t (.map (some b)) (encK k) true).run P w = .ok (.tuple #[match mget k m with | some v => encV v | none => z, .bool (mget k m).isSome]) w := by
  obtain ⟨es, clock, hb, h1, h2, _⟩ := h
  have hf := MapIs.found (w := w) K h1 k
  simp only [Instr.lookup, Sem.run_bind, run_underlying ht, Result.andThen_ok, run_getObj_map hb, Sem.run_pure, K.check, hf]
  have hv := ixOf_mget k m
  cases hi : ixOf k (m.map (·.1)) 0 with
  | none => simp [hi] at hv; simp [hv, hz]
  | some i =>
    simp only [hi, Option.bind_some] at hv
    have := val_at (encV := encV) h2 i
    have hlt := ixOf_lt hi
    cases hm : m[i]? with
    | none => simp [hm] at hlt
    | some p => simp [hm] at hv this; obtain ⟨e, he, hev⟩ := this; simp [hv, he, hev]

omit [DecidableEq κ] in
theorem keys_get {m : List (κ × ν)} {es : Array MapEntry} (h1 : es.toList.map (·.key) = m.map (fun p => encK p.1)) (i : Nat) : (es[i]?).map (·.key) = (m[i]?).map fun p => encK p.1 := by
  have := congrArg (fun l => l[i]?) h1
  simpa using this
theorem nodup_put {m : List (κ × ν)} (h : (m.map (·.1)).Nodup) (k : κ) (v : ν) : ((mput k v m).map (·.1)).Nodup := by
  rw [keys_mput]; split
  · exact h
  · rename_i hn
    rw [List.nodup_append]; exact ⟨h, by simp, fun a ha b hb => by simp at hb; subst hb; intro e; subst e; exact hn ha⟩
theorem mem_born_push {es : Array MapEntry} {clock : Nat} (h5 : ∀ e ∈ es.toList, e.born < clock) (key val : Value) : ∀ e ∈ (es.push { key, val, born := clock }).toList, e.born < clock + 1 := by
  intro e he; simp at he; rcases he with he | rfl
  · have := h5 e (by simpa using he); omega
  · simp
theorem nodup_born_push {es : Array MapEntry} {clock : Nat} (h5 : ∀ e ∈ es.toList, e.born < clock) (h6 : (es.toList.map (·.born)).Nodup) (key val : Value) : ((es.push { key, val, born := clock }).toList.map (·.born)).Nodup := by
  rw [Array.toList_push, List.map_append, List.nodup_append]
  refine ⟨h6, by simp, fun a ha b hb => ?_⟩
  simp at hb; subst hb
  rw [List.mem_map] at ha; obtain ⟨e, he, rfl⟩ := ha
  have := h5 e he; omega
theorem modify_map {β : Type} (es : Array MapEntry) (i : Nat) (f : MapEntry → MapEntry) (g : MapEntry → β) : (es.modify i f).toList.map g = (es.toList.map g).modify i (fun x => ((es[i]?).map (fun e => g (f e))).getD x) := by
  apply List.ext_getElem?; intro j
  simp only [Array.toList_modify, List.getElem?_map, List.getElem?_modify]
  by_cases h : i = j
  · subst h; simp; cases es[i]? <;> simp
  · simp [h]
theorem modify_id {β : Type} (l : List β) (i : Nat) (f : β → β) (h : ∀ x, l[i]? = some x → f x = x) : l.modify i f = l := by
  apply List.ext_getElem?; intro j
  simp only [List.getElem?_modify]
  by_cases e : i = j
  · subst e; cases hx : l[i]? with
    | none => simp
    | some x => simp [h x hx]
  · simp [e]
theorem modify_const {β : Type} (l : List β) (i : Nat) (y : β) (f : β → β) (h : ∀ x, l[i]? = some x → f x = y) : l.modify i f = l.set i y := by
  apply List.ext_getElem?; intro j
  simp only [List.getElem?_modify, List.getElem?_set]
  by_cases e : i = j
  · subst e; cases hx : l[i]? with
    | none => simp; have := List.getElem?_eq_none_iff.1 hx; omega
    | some x => have hl := (List.getElem?_eq_some_iff.1 hx).1; simp [h x hx, hl]
  · simp [e]

theorem MapIs.update {w : World} {b : Nat} {m : List (κ × ν)} (h : MapIs encK encV w b m) (K : MapKey P kt encK) (ht : P.underlying t = some (.map kt et)) (k : κ) (v : ν) :
    ∃ w', (Instr.mapUpdate t (.map (some b)) (encK k) (encV v)).run P w = .ok () w' ∧ Keep [b] w w' ∧ w'.heap.size = w.heap.size ∧ MapIs encK encV w' b (mput k v m) := by
  have hlt := h.lt
  obtain ⟨es, clock, hb, h1, h2, h4, h5, h6⟩ := h
  have hf := MapIs.found (w := w) K h1 k
  cases hi : ixOf k (m.map (·.1)) 0 with
  | none =>
    refine ⟨setObjW w b (.map (es.push { key := encK k, val := encV v, born := clock }) (clock + 1)), ?_, keep_setObj _ _ _, by simp [setObjW], es.push { key := encK k, val := encV v, born := clock }, clock + 1, get_setObj _ hlt, ?_, ?_, nodup_put h4 k v, mem_born_push h5 _ _, nodup_born_push h5 h6 _ _⟩
    · simp only [Instr.mapUpdate, Sem.run_bind, run_underlying ht, Result.andThen_ok, run_getObj_map hb, K.check, hf, hi, Option.bind_none, run_setObj_map hb]
    · rw [mput_none hi]; simp [h1]
    · rw [mput_none hi]; simp [h2]
  | some i =>
    have hlk := ixOf_lt hi
    have hmi : ∃ u, m[i]? = some (k, u) := by
      simp only [List.getElem?_map] at hlk
      cases hm : m[i]? with
      | none => simp [hm] at hlk
      | some p => simp [hm] at hlk; exact ⟨p.2, by rw [← hlk]⟩
    obtain ⟨u, hmi⟩ := hmi
    have hk := keys_get (encK := encK) h1 i
    rw [hmi] at hk
    obtain ⟨e, he, hek⟩ := Option.map_eq_some_iff.1 hk
    refine ⟨setObjW w b (.map (es.modify i fun e => { e with key := encK k, val := encV v }) clock), ?_, keep_setObj _ _ _, by simp [setObjW], es.modify i fun e => { e with key := encK k, val := encV v }, clock, get_setObj _ hlt, ?_, ?_, nodup_put h4 k v, ?_, ?_⟩
    · simp only [Instr.mapUpdate, Sem.run_bind, run_underlying ht, Result.andThen_ok, run_getObj_map hb, K.check, hf, hi, Option.bind_some, he, Option.map_some, Option.getD_some, hek, Instr.keyThatStays, K.same, if_true, Sem.run_pure, run_setObj_map hb]
    · rw [modify_map, h1, mput_some hi, List.map_set]; exact modify_const _ _ _ _ (fun x hx => by simp [he])
    · rw [modify_map, h2, mput_some hi, List.map_set]; exact modify_const _ _ _ _ (fun x hx => by simp [he])
    · intro e' he'
      simp only [Array.toList_modify, List.mem_iff_getElem?, List.getElem?_modify] at he'
      obtain ⟨j, hj⟩ := he'
      split at hj
      · obtain ⟨x, hx, rfl⟩ := Option.map_eq_some_iff.1 hj; exact h5 x (List.mem_of_getElem? hx)
      · exact h5 e' (List.mem_of_getElem? (by simpa using hj))
    · rw [modify_map]; rw [modify_id]; exact h6
      intro x hx; simp [he]; simp only [List.getElem?_map] at hx; simp [he] at hx; exact hx

theorem run_asIntOf {P : Program} (q : IntKind) (n : Int) (w : World) : (asIntOf (.int q n)).run P w = .ok (q, n) w := rfl
/-- what lies between 'm[k]' on the left of '+=' and the store: the entry is there -/
theorem MapIs.entry {w : World} {b : Nat} {m : List (κ × ν)} (h : MapIs encK encV w b m) (K : MapKey P kt encK) (ht : P.underlying t = some (.map kt et)) (z : ν) (hz : ∀ w, (zeroValue et).run P w = .ok (encV z) w) (k : κ) :
    ∃ w1 st, (Instr.mapEntry t (.map (some b)) (encK k)).run P w = .ok (.tuple #[encV ((mget k m).getD z), goInt st]) w1 ∧ Keep [b] w w1 ∧ w1.heap.size = w.heap.size ∧
      ∀ w2 v, w2.heap[b]? = w1.heap[b]? → ∃ w3, (Instr.entryStore t (.map (some b)) (goInt st) (encV v)).run P w2 = .ok () w3 ∧ Keep [b] w2 w3 ∧ w3.heap.size = w2.heap.size ∧ MapIs encK encV w3 b (mput k v m) := by
  have hlt := h.lt
  have h0 := h
  obtain ⟨es, clock, hb, h1, h2, h4, h5, h6⟩ := h
  have hf := MapIs.found (w := w) K h1 k
  have hg := ixOf_mget k m
  cases hi : ixOf k (m.map (·.1)) 0 with
  | none =>
    simp [hi] at hg
    refine ⟨setObjW w b (.map (es.push { key := encK k, val := encV z, born := clock }) (clock + 1)), clock, ?_, keep_setObj _ _ _, by simp [setObjW], ?_⟩
    · simp only [Instr.mapEntry, Sem.run_bind, run_underlying ht, Result.andThen_ok, run_getObj_map hb, K.check, hf, hi, Option.bind_none, hz, run_setObj_map hb, hg, Option.getD_none, Sem.run_pure]
    · intro w2 v he
      rw [get_setObj _ hlt] at he
      have hix : (es.push { key := encK k, val := encV z, born := clock }).findIdx? (fun e => (e.born : Int) == (clock : Int)) = some es.size := by
        rw [Array.findIdx?_eq_some_iff_getElem]
        refine ⟨by simp, by simp, fun j hj => ?_⟩
        simp [Array.getElem_push, hj]
        have := h5 es[j] (by simp); omega
      have hlt2 : b < w2.heap.size := by
        rcases Nat.lt_or_ge b w2.heap.size with h' | h'
        · exact h'
        · rw [Array.getElem?_eq_none h'] at he; cases he
      refine ⟨setObjW w2 b (.map (es.push { key := encK k, val := encV v, born := clock }) (clock + 1)), ?_, keep_setObj _ _ _, by simp [setObjW], _, _, get_setObj _ hlt2, ?_, ?_, nodup_put h4 k v, mem_born_push h5 _ _, nodup_born_push h5 h6 _ _⟩
      · simp only [Instr.entryStore, Sem.run_bind, run_getObj_map he, Result.andThen_ok, goInt, asInt, run_asIntOf, Sem.run_pure, hix]
        rw [run_setObj_map he]; congr 2; congr 1
        apply Array.ext_getElem?; intro j
        simp only [Array.getElem?_modify, Array.getElem?_push]
        by_cases hj : j = es.size
        · subst hj; simp
        · simp [hj]; intro h; exact absurd h.symm hj
      · rw [mput_none hi]; simp [h1]
      · rw [mput_none hi]; simp [h2]
  | some i =>
    have hlk := ixOf_lt hi
    have hmi : ∃ u, m[i]? = some (k, u) := by
      simp only [List.getElem?_map] at hlk
      cases hm : m[i]? with
      | none => simp [hm] at hlk
      | some p => simp [hm] at hlk; exact ⟨p.2, by rw [← hlk]⟩
    obtain ⟨u, hmi⟩ := hmi
    have hk := keys_get (encK := encK) h1 i
    rw [hmi] at hk
    obtain ⟨e, he, hek⟩ := Option.map_eq_some_iff.1 hk
    have hv := val_at (encV := encV) h2 i
    rw [hmi, he] at hv
    simp at hv hek
    have hes : es.modify i (fun e => { e with key := encK k }) = es := by
      apply Array.ext_getElem?; intro j
      simp only [Array.getElem?_modify]
      by_cases hj : i = j
      · subst hj; rw [he]; simp [← hek]
      · simp [hj]
    simp only [hi, Option.bind_some, hmi, Option.map_some] at hg
    refine ⟨setObjW w b (.map es clock), e.born, ?_, keep_setObj _ _ _, by simp [setObjW], ?_⟩
    · simp only [Instr.mapEntry, Sem.run_bind, run_underlying ht, Result.andThen_ok, run_getObj_map hb, K.check, hf, hi, Option.bind_some, he, Option.map_some, Option.getD_some, hek, Instr.keyThatStays, K.same, if_true, Sem.run_pure, hes, run_setObj_map hb, hg, hv]
    · intro w2 v he2
      rw [get_setObj _ hlt] at he2
      have hlt2 : b < w2.heap.size := by
        rcases Nat.lt_or_ge b w2.heap.size with h' | h'
        · exact h'
        · rw [Array.getElem?_eq_none h'] at he2; cases he2
      have hisz : i < es.size := by
        rcases Nat.lt_or_ge i es.size with h' | h'
        · exact h'
        · rw [Array.getElem?_eq_none h'] at he; cases he
      have hix : es.findIdx? (fun x => (x.born : Int) == (e.born : Int)) = some i := by
        rw [Array.findIdx?_eq_some_iff_getElem]
        have hei : es[i] = e := by rw [Array.getElem?_eq_getElem hisz] at he; exact Option.some.inj he
        refine ⟨hisz, by simp [hei], fun j hj => ?_⟩
        simp
        intro hbe
        have hne := (List.pairwise_iff_getElem.1 h6) j i (by simpa using Nat.lt_trans hj hisz) (by simpa using hisz) hj
        apply hne
        simp [hei]; exact_mod_cast hbe
      refine ⟨setObjW w2 b (.map (es.modify i fun x => { x with val := encV v }) clock), ?_, keep_setObj _ _ _, by simp [setObjW], _, _, get_setObj _ hlt2, ?_, ?_, nodup_put h4 k v, ?_, ?_⟩
      · simp only [Instr.entryStore, Sem.run_bind, run_getObj_map he2, Result.andThen_ok, goInt, asInt, run_asIntOf, Sem.run_pure, hix]
        rw [run_setObj_map he2]
      · rw [modify_map, h1, mput_some hi, List.map_set, modify_const _ _ (encK k)]
        intro x hx; simp [he, hek]
      · rw [modify_map, h2, mput_some hi, List.map_set]; exact modify_const _ _ _ _ (fun x hx => by simp [he])
      · intro e' he'
        simp only [Array.toList_modify, List.mem_iff_getElem?, List.getElem?_modify] at he'
        obtain ⟨j, hj⟩ := he'
        split at hj
        · obtain ⟨x, hx, rfl⟩ := Option.map_eq_some_iff.1 hj; exact h5 x (List.mem_of_getElem? hx)
        · exact h5 e' (List.mem_of_getElem? (by simpa using hj))
      · rw [modify_map]; rw [modify_id]; exact h6
        intro x hx; simp [he]; simp only [List.getElem?_map] at hx; simp [he] at hx; exact hx

theorem run_mapNext (n : Nat) (hn : 0 < n) (w : World) : ∃ c w1, (choose (.mapNext n)).run P w = .ok c w1 ∧ c < n ∧ (w1 = w ∨ w1 = w.drew) := by
  by_cases h : n ≤ 1
  · exact ⟨0, w, by simp [choose, Sem.run, Question.forced, h], hn, .inl rfl⟩
  · exact ⟨(Question.mapNext n).cut (w.tape w.drawn (.mapNext n)), w.drew, by simp only [choose, Sem.run, Question.forced, h, decide_false, Bool.false_eq_true, if_false]; rfl, by simpa [Question.cut] using Nat.mod_lt _ hn, .inr rfl⟩
theorem filter_ne_at {β γ : Type} [DecidableEq γ] (g : β → γ) : ∀ (F : List β) (c : Nat) (x : β), (F.map g).Nodup → F[c]? = some x → F.filter (fun y => !decide (g y = g x)) = F.take c ++ F.drop (c + 1) := by
  intro F
  induction F with
  | nil => intro c x _ h; simp at h
  | cons y F ih =>
    intro c x hn h
    simp only [List.map_cons, List.nodup_cons] at hn
    cases c with
    | zero =>
      simp at h; subst h
      simp only [List.filter_cons, decide_true, Bool.not_true, Bool.false_eq_true, if_false, List.take_zero, List.drop_succ_cons, List.drop_zero, List.nil_append]
      rw [List.filter_eq_self]; intro z hz; simp; intro e; exact hn.1 (e ▸ List.mem_map_of_mem hz)
    | succ c =>
      simp at h
      have hx : g y ≠ g x := fun e => hn.1 (e ▸ List.mem_map_of_mem (List.mem_of_getElem? h))
      simp only [List.filter_cons, hx, decide_false, Bool.not_false, if_true, List.take_succ_cons, List.drop_succ_cons, List.cons_append, ih c x hn.2 h]
/-! ### a range over a map that is not written meanwhile -/
def leftOf (es : Array MapEntry) (m : List (κ × ν)) (seen : Array Nat) : List (κ × ν) := ((es.toList.zip m).filter fun x => !seen.contains x.1.born).map (·.2)
/-- block 'it' is an iterator over the map in block b, which holds m; 'left' has not come yet -/
def IterAt (encK : κ → Value) (encV : ν → Value) (w : World) (it b : Nat) (m left : List (κ × ν)) : Prop :=
  ∃ es clock seen, w.heap[b]? = some (.map es clock) ∧ w.heap[it]? = some (.mapIter (some b) clock seen clock) ∧ es.toList.map (·.key) = m.map (fun p => encK p.1) ∧ es.toList.map (·.val) = m.map (fun p => encV p.2) ∧
    (∀ e ∈ es.toList, e.born < clock) ∧ (es.toList.map (·.born)).Nodup ∧ left = leftOf es m seen
omit [DecidableEq κ] in
theorem IterAt.keep {S : List Nat} {w w' : World} {it b : Nat} {m left : List (κ × ν)} (h : IterAt encK encV w it b m left) (k : Keep S w w') (hn : b ∉ S) (hi : it ∉ S) : IterAt encK encV w' it b m left := by
  obtain ⟨es, clock, seen, hb, hit, r⟩ := h
  have l1 : b < w.heap.size := by
    rcases Nat.lt_or_ge b w.heap.size with h' | h'
    · exact h'
    · rw [Array.getElem?_eq_none h'] at hb; cases hb
  have l2 : it < w.heap.size := by
    rcases Nat.lt_or_ge it w.heap.size with h' | h'
    · exact h'
    · rw [Array.getElem?_eq_none h'] at hit; cases hit
  exact ⟨es, clock, seen, by rw [k.block b l1 hn]; exact hb, by rw [k.block it l2 hi]; exact hit, r⟩
omit [DecidableEq κ] in
theorem MapIs.range {w : World} {b : Nat} {m : List (κ × ν)} (h : MapIs encK encV w b m) (ht : P.underlying t = some (.map kt et)) :
    ∃ w', (Instr.range t (.map (some b))).run P w = .ok (.pointer (some ⟨w.heap.size, 0, none⟩)) w' ∧ Keep [] w w' ∧ w'.heap.size = w.heap.size + 1 ∧ IterAt encK encV w' w.heap.size b m m := by
  have hlt := h.lt
  obtain ⟨es, clock, hb, h1, h2, h4, h5, h6⟩ := h
  refine ⟨w.alloc (.mapIter (some b) clock #[] clock), ?_, (Keep.refl _ _).alloc _, by simp, es, clock, #[], by rw [Below.heap_alloc _ _ _ hlt]; exact hb, by show (w.heap.push _)[w.heap.size]? = _; simp, h1, h2, h5, h6, ?_⟩
  · simp only [Instr.range, Sem.run_bind, run_underlying ht, run_getObj_map hb, Result.andThen_ok, Sem.run_pure]; rfl
  · have hl : es.toList.length = m.length := by simpa using congrArg List.length h1
    unfold leftOf; rw [List.filter_eq_self.2 (by simp)]; exact (List.map_snd_zip (by omega)).symm
omit [DecidableEq κ] in
theorem zip_at {m : List (κ × ν)} {es : Array MapEntry} (h1 : es.toList.map (·.key) = m.map (fun p => encK p.1)) (h2 : es.toList.map (·.val) = m.map (fun p => encV p.2)) : ∀ x ∈ es.toList.zip m, x.1.key = encK x.2.1 ∧ x.1.val = encV x.2.2 := by
  intro x hx
  rw [List.mem_iff_getElem?] at hx
  obtain ⟨i, hi⟩ := hx
  rw [List.getElem?_zip_eq_some] at hi
  have k1 := keys_get (encK := encK) h1 i
  have k2 := val_at (encV := encV) h2 i
  have e1 : es[i]? = some x.1 := by simpa using hi.1
  rw [e1, hi.2] at k1 k2
  simp at k1 k2
  exact ⟨k1, k2⟩
theorem find_born : ∀ (l : List MapEntry) (x : MapEntry), x ∈ l → (l.map (·.born)).Nodup → l.find? (·.born == x.born) = some x
  | [], _, h, _ => by cases h
  | e :: l, x, h, hn => by
    simp only [List.map_cons, List.nodup_cons] at hn
    rw [List.find?_cons]
    by_cases he : e.born = x.born
    · rcases List.mem_cons.1 h with rfl | h
      · simp
      · exact absurd (List.mem_map.2 ⟨x, h, he.symm⟩) hn.1
    · rcases List.mem_cons.1 h with rfl | h
      · exact absurd rfl he
      · simp only [show (e.born == x.born) = false by simpa using he]; exact find_born l x h hn.2
omit [DecidableEq κ] in
theorem IterAt.next {w : World} {it b : Nat} {m left : List (κ × ν)} {ty : TypeId} (h : IterAt encK encV w it b m left) :
    (left = [] → (Instr.next (.pointer (some ⟨it, 0, none⟩)) false ty).run P w = .ok (.tuple #[.bool false]) w) ∧
    (left ≠ [] → ∃ p l1 l2 w', left = l1 ++ p :: l2 ∧ (Instr.next (.pointer (some ⟨it, 0, none⟩)) false ty).run P w = .ok (.tuple #[.bool true, encK p.1, encV p.2]) w' ∧ Keep [it] w w' ∧ w'.heap.size = w.heap.size ∧ IterAt encK encV w' it b m (l1 ++ l2) ∧
      ∀ w'', Keep [] w' w'' → (Instr.entry (.pointer (some ⟨it, 0, none⟩))).run P w'' = .ok (.tuple #[encK p.1, encV p.2]) w'') := by
  obtain ⟨es, clock, seen, hb, hit, h1, h2, h5, h6, rfl⟩ := h
  have hgi : (getObj it).run P w = .ok (.mapIter (some b) clock seen clock) w := by simp [getObj, Sem.run, hit]
  have hbad : (!seen.isEmpty && !es.isEmpty && es.all (·.born ≥ clock)) = false := by
    rw [Bool.eq_false_iff]; intro hall
    simp only [Bool.and_eq_true, Bool.not_eq_true', Array.isEmpty_eq_false_iff_exists_mem] at hall
    obtain ⟨⟨_, ⟨e, he⟩⟩, ha⟩ := hall
    have h7 := Array.all_eq_true'.1 ha e he
    have h8 := h5 e (by simpa using he)
    simp at h7; omega
  have hold : (es.filter fun e => !seen.contains e.born).filter (·.born < clock) = es.filter fun e => !seen.contains e.born := by
    apply Array.toList_inj.1; simp only [Array.toList_filter]
    rw [List.filter_eq_self]; intro e he; simp at he; simpa using h5 e (by simpa using he.1)
  have hnew : (es.filter fun e => !seen.contains e.born).filter (·.born ≥ clock) = #[] := by
    apply Array.toList_inj.1; simp only [Array.toList_filter]
    rw [List.filter_eq_nil_iff]; intro e he; simp at he; have := h5 e (by simpa using he.1); simp; omega
  have hlen : es.toList.length = m.length := by simpa using congrArg List.length h1
  -- the entries that are left, beside their pairs
  have hz : (es.filter fun e => !seen.contains e.born).toList = ((es.toList.zip m).filter fun x => !seen.contains x.1.born).map (·.1) := by
    simp only [Array.toList_filter]
    generalize es.toList = l at hlen
    clear h1 h2 h5 h6 hb hit hgi hbad hold hnew
    induction l generalizing m with
    | nil => simp
    | cons e l ih =>
      cases m with
      | nil => simp at hlen
      | cons p m => simp at hlen; simp only [List.zip_cons_cons, List.filter_cons]; split <;> simp only [List.map_cons, ih hlen]
  constructor
  · intro hnil
    have hne : (es.filter fun e => !seen.contains e.born) = #[] := by
      apply Array.toList_inj.1; rw [hz]
      have : ((es.toList.zip m).filter fun x => !seen.contains x.1.born) = [] := by unfold leftOf at hnil; exact List.map_eq_nil_iff.1 hnil
      rw [this]; rfl
    simp only [Instr.next, Sem.run_bind, hgi, Result.andThen_ok, run_getObj_map hb, hbad, Bool.false_eq_true, if_false, hne]
    simp [choose, Sem.run, Question.forced]
  · intro hne
    have hF : ((es.toList.zip m).filter fun x => !seen.contains x.1.born) ≠ [] := by intro e; apply hne; unfold leftOf; rw [e]; rfl
    have hnd : (((es.toList.zip m).filter fun x => !seen.contains x.1.born).map fun x => x.1.born).Nodup := by
      have hsub := (List.filter_sublist (p := fun x : MapEntry × κ × ν => !seen.contains x.1.born) (l := es.toList.zip m)).map (fun x => x.1.born)
      refine hsub.nodup ?_
      have : (es.toList.zip m).map (fun x => x.1.born) = es.toList.map (·.born) := by
        rw [show (fun x : MapEntry × κ × ν => x.1.born) = (·.born) ∘ Prod.fst from rfl, ← List.map_map, List.map_fst_zip (by omega)]
      rw [this]; exact h6
    have hall := zip_at (encK := encK) (encV := encV) h1 h2
    generalize hFd : ((es.toList.zip m).filter fun x => !seen.contains x.1.born) = F at *
    have hsz : (es.filter fun e => !seen.contains e.born).size = F.length := by rw [← Array.length_toList, hz]; simp
    have hpos : 0 < F.length := List.length_pos_iff.2 hF
    obtain ⟨c, w1, hch, hc, hw1⟩ := run_mapNext (P := P) F.length hpos w
    have hx : F[c]? = some F[c] := by simp [hc]
    generalize F[c] = x at hx
    have hxm : x ∈ (es.toList.zip m) := by
      have := List.mem_of_getElem? hx
      rw [← hFd] at this; exact (List.mem_filter.1 this).1
    obtain ⟨hxk, hxv⟩ := hall x hxm
    have hit1 : w1.heap[it]? = some (.mapIter (some b) clock seen clock) := by rcases hw1 with rfl | rfl; exact hit; exact hit
    have hb1 : w1.heap[b]? = some (.map es clock) := by rcases hw1 with rfl | rfl; exact hb; exact hb
    have k1 : Keep [it] w w1 := by rcases hw1 with rfl | rfl; exact Keep.refl _ _; exact (Keep.refl _ _).drew
    have hlt1 : it < w1.heap.size := by
      rcases Nat.lt_or_ge it w1.heap.size with h' | h'
      · exact h'
      · rw [Array.getElem?_eq_none h'] at hit1; cases hit1
    have hbi : b ≠ it := by intro e; subst e; rw [hit1] at hb1; cases hb1
    have hcand : (if (es.filter fun e : MapEntry => !seen.contains e.born).isEmpty then #[none] else #[]) ++ ((es.filter fun e : MapEntry => !seen.contains e.born) ++ #[]).map some = (es.filter fun e : MapEntry => !seen.contains e.born).map some := by
      rw [if_neg (by rw [Array.isEmpty_iff_size_eq_zero, hsz]; omega)]; simp
    have hget : ((es.filter fun e : MapEntry => !seen.contains e.born).map some)[c]? = some (some x.1) := by
      rw [← Array.getElem?_toList, Array.toList_map, hz]; simp [hx]
    refine ⟨x.2, (F.take c).map (·.2), (F.drop (c + 1)).map (·.2), setObjW w1 it (.mapIter (some b) clock (seen.push x.1.born) clock), ?_, ?_, k1.tr (keep_setObj _ _ _), ?_, ?_, ?_⟩
    · unfold leftOf; rw [hFd]
      have : F = F.take c ++ x :: F.drop (c + 1) := by
        conv => lhs; rw [← List.take_append_drop c F]
        congr 1
        rw [List.drop_eq_getElem_cons hc]; congr 1
        have := List.getElem?_eq_getElem hc; rw [hx] at this; exact (Option.some.inj this).symm
      conv => lhs; rw [this]
      rw [List.map_append, List.map_cons]
    · simp only [Instr.next, Sem.run_bind, hgi, Result.andThen_ok, run_getObj_map hb, hbad, Bool.false_eq_true, if_false, hold, hnew]
      simp only [hcand, Array.size_map]
      simp only [hsz, hch, Result.andThen_ok, hget]
      have : (setObj it (.mapIter (some b) clock (seen.push x.1.born) clock)).run P w1 = .ok () (setObjW w1 it (.mapIter (some b) clock (seen.push x.1.born) clock)) := by simp [setObj, Sem.run, hit1, setObjW]
      simp only [Sem.run_bind, this, Result.andThen_ok, Sem.run_pure, hxk, hxv]
    · rcases hw1 with rfl | rfl <;> simp [setObjW] <;> rfl
    · refine ⟨es, clock, seen.push x.1.born, ?_, get_setObj _ hlt1, h1, h2, h5, h6, ?_⟩
      · rw [(keep_setObj w1 it _).block b ?_ (by simpa using hbi)]; exact hb1
        rcases Nat.lt_or_ge b w1.heap.size with h' | h'
        · exact h'
        · rw [Array.getElem?_eq_none h'] at hb1; cases hb1
      · unfold leftOf
        rw [← List.map_append, ← filter_ne_at (fun y : MapEntry × κ × ν => y.1.born) F c x hnd hx, ← hFd, List.filter_filter]
        congr 1; apply List.filter_congr; intro y _
        by_cases e : y.1.born = x.1.born <;> simp [e]
    · intro w'' kw
      have g1 : w''.heap[it]? = some (.mapIter (some b) clock (seen.push x.1.born) clock) := by
        rw [kw.block it (by simpa [setObjW] using hlt1) (by simp)]; exact get_setObj _ hlt1
      have hb2 : (setObjW w1 it (.mapIter (some b) clock (seen.push x.1.born) clock)).heap[b]? = some (.map es clock) := by
        rw [(keep_setObj w1 it _).block b ?_ (by simpa using hbi)]; exact hb1
        rcases Nat.lt_or_ge b w1.heap.size with h' | h'
        · exact h'
        · rw [Array.getElem?_eq_none h'] at hb1; cases hb1
      have g2 : w''.heap[b]? = some (.map es clock) := by
        rw [kw.block b ?_ (by simp)]; exact hb2
        rcases Nat.lt_or_ge b (setObjW w1 it (.mapIter (some b) clock (seen.push x.1.born) clock)).heap.size with h' | h'
        · exact h'
        · rw [Array.getElem?_eq_none h'] at hb2; cases hb2
      have hf : es.find? (·.born == x.1.born) = some x.1 := by
        rw [← Array.find?_toList]; exact find_born es.toList x.1 (List.of_mem_zip hxm).1 h6
      simp only [Instr.entry, getObj, Sem.run_bind, Sem.run, g1, g2, Result.andThen, Array.back?_push, bne_self_eq_false, Bool.false_eq_true, if_false, hf, hxk, hxv]
      rfl
end
end Go.Proofs.YtonoknliloilfaaGreatDoor

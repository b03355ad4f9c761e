/-
  The words in which the walks over chapter 11's program speak of memory: a frame ('Fr'), a map's block as a list of pairs ('MapIs'), rows as values; and the laws on a map's operations over them.
-/
import Derived.Test.YtepimaghpjkibaaRows
import Derived.Test.YtepimaghpjkibaaPlain
import Derived.WalkKit
import Derived.WalkSpells
import Derived.WalkLawsBesides
import Derived.Maps.Own
import Derived.Maps.OwnIn
import Derived.Maps.OwnOps
import Derived.Maps.AppendAt
import Derived.DeepKeys4
import Derived.Deep.MidRow
import Derived.Lib.Hide
namespace Go.Proofs.Ytepimaghpjkibaa
open Go.RowKit
open Go.Maps (Keyed)
open Go.ChangeMaps (setBlock heap_setBlock_same heap_setBlock_other)

/-! ### A frame -/

/-- Of what lay in w nothing has turned but blocks of S. -/
structure Fr (S : List Nat) (w w' : World) : Prop where
  os : w'.os = w.os
  tape : w'.tape = w.tape
  output : w'.output = w.output
  size : w.heap.size ≤ w'.heap.size
  block : ∀ k, k < w.heap.size → k ∉ S → w'.heap[k]? = w.heap[k]?

theorem Fr.refl (S : List Nat) (w : World) : Fr S w w := ⟨rfl, rfl, rfl, Nat.le_refl _, fun _ _ _ => rfl⟩

theorem Fr.trans {S T : List Nat} {a b c : World} (h : Fr S a b) (k : Fr T b c) (hT : ∀ x ∈ T, x ∈ S ∨ a.heap.size ≤ x) : Fr S a c :=
  ⟨k.os.trans h.os, k.tape.trans h.tape, k.output.trans h.output, Nat.le_trans h.size k.size, fun i hi hS =>
    (k.block i (Nat.lt_of_lt_of_le hi h.size) (fun hm => (hT i hm).elim hS (fun hle => by omega))).trans (h.block i hi hS)⟩

theorem Fr.trans' {S : List Nat} {a b c : World} (h : Fr S a b) (k : Fr S b c) : Fr S a c := h.trans k fun _ hx => Or.inl hx

theorem Fr.mono {S T : List Nat} {a b : World} (h : Fr S a b) (hT : ∀ x ∈ S, x ∈ T) : Fr T a b :=
  ⟨h.os, h.tape, h.output, h.size, fun k hk hS => h.block k hk fun hm => hS (hT k hm)⟩

theorem Fr.alloc {S : List Nat} {a w : World} (h : Fr S a w) (o : Obj) : Fr S a (w.alloc o) :=
  h.trans' ⟨rfl, rfl, rfl, by simp, fun k hk _ => Below.heap_alloc _ _ _ hk⟩

theorem Fr.drew {S : List Nat} {a w : World} (h : Fr S a w) : Fr S a w.drew := ⟨h.os, h.tape, h.output, h.size, h.block⟩

theorem Fr.setCell {S : List Nat} {a w : World} (h : Fr S a w) {p : Addr} (hp : p.block ∈ S ∨ a.heap.size ≤ p.block) (u : Value) : Fr S a (w.setCell p u) :=
  h.trans (T := [p.block]) ⟨rfl, rfl, rfl, by simp [World.setCell], fun k _ hk => Below.heap_setCell _ _ _ _ (by simpa using hk)⟩ (fun x hx => by simp at hx; subst hx; exact hp)

theorem Fr.grown {S : List Nat} {a w w' : World} {row : Option Nat} (h : Fr S a w) (hg : w.grownBy w' row) (hr : ∀ k, row = some k → k ∈ S ∨ a.heap.size ≤ k) : Fr S a w' :=
  h.trans (T := row.toList) ⟨hg.os, hg.tape, hg.output, hg.size, fun k hk hne => hg.block k hk (fun e => hne (by rw [← e]; simp))⟩ (fun x hx => hr x (by simpa using hx))

theorem Fr.of_grown {w w' : World} {row : Option Nat} (hg : w.grownBy w' row) : Fr row.toList w w' := (Fr.refl _ _).grown hg (fun k e => Or.inl (by rw [e]; simp))

theorem Fr.below {S : List Nat} {a w : World} (h : Fr S a w) {B : Nat} (hS : ∀ x ∈ S, B ≤ x) (hB : B ≤ a.heap.size) : Below B a w :=
  ⟨h.os, h.tape, h.output, h.size, fun k hk => h.block k (by omega) (fun hm => by have := hS k hm; omega)⟩

theorem Below.fr {w w' : World} (h : Below w.heap.size w w') (S : List Nat) : Fr S w w' := ⟨h.os, h.tape, h.output, h.size, fun k hk _ => h.block k hk⟩

theorem Fr.heap {S : List Nat} {a w : World} (h : Fr S a w) {k : Nat} {o : Obj} (hk : a.heap[k]? = some o) (hS : k ∉ S) : w.heap[k]? = some o :=
  (h.block k (Array.getElem?_eq_some_iff.1 hk).1 hS).trans hk

theorem Fr.cell {S : List Nat} {a w : World} (h : Fr S a w) {p : Addr} {v : Value} (hc : a.cell? p = some v) (hS : p.block ∉ S) : w.cell? p = some v :=
  (World.cell?_of_block (h.block p.block (World.block_lt_of_cell? a p hc) hS)).trans hc

theorem Fr.ownsRow {S : List Nat} {a w : World} (h : Fr S a w) {base : Nat} {e : TypeId} {size : Nat} {v : Value} {n : Nat} {xs : List Value} (ho : a.ownsRow base e size v n xs) (hS : ∀ k, v.ownBlock = some k → k ∉ S) :
    w.ownsRow base e size v n xs := by
  refine ⟨ho.1, ?_⟩
  rcases ho.2 with hn | ⟨g, cap, cur, rfl, hb, hgg, rest⟩
  · exact .inl hn
  · exact .inr ⟨g, cap, cur, rfl, hb, h.heap hgg (hS g rfl), rest⟩

/-- A block behind a new one. -/
theorem heap_at (w : World) (o : Obj) (k : Nat) : (w.alloc o).heap[k]? = if k = w.heap.size then some o else w.heap[k]? := by
  show (w.heap.push o)[k]? = _
  rw [Array.getElem?_push]

/-- A whole store into the newest block. -/
theorem setRow_alloc_last (w : World) (old cs : Array Value) (t : TypeId) : (w.alloc (.cells old t)).setRow w.heap.size cs = w.alloc (.cells cs t) := by
  unfold World.setRow World.alloc
  congr 1
  apply Array.ext
  · simp
  · intro i h1 h2
    simp only [Array.size_modify, Array.size_push] at h1
    by_cases e : i = w.heap.size
    · subst e
      simp [Array.getElem_modify]
    · rw [Array.getElem_modify, if_neg (fun e' => e e'.symm), Array.getElem_push_lt (by omega), Array.getElem_push_lt (by omega)]

/-! ### A map's block, as pairs -/

theorem set_same {α : Type} {l : List α} {j : Nat} {a : α} (h : l[j]? = some a) : l.set j a = l := by
  have hl := (List.getElem?_eq_some_iff.1 h).1
  apply List.ext_getElem?
  intro i
  rw [List.getElem?_set]
  by_cases e : j = i
  · subst e
    rw [if_pos rfl, if_pos hl, h]
  · rw [if_neg e]

/-- The stamps are unlike, and below the clock. -/
def Stamped (es : Array MapEntry) (clock : Nat) : Prop := (es.toList.map (·.born)).Nodup ∧ ∀ e ∈ es.toList, e.born < clock

theorem Stamped.push {es : Array MapEntry} {ck : Nat} (h : Stamped es ck) (key v : Value) : Stamped (es.push ⟨key, v, ck⟩) (ck + 1) := by
  obtain ⟨hn, hlt⟩ := h
  refine ⟨?_, ?_⟩
  · rw [Array.toList_push, List.map_append, List.nodup_append]
    refine ⟨hn, by simp, ?_⟩
    intro a ha b' hb' e'
    simp at hb'
    obtain ⟨x, hx, rfl⟩ := List.mem_map.1 ha
    have := hlt x hx
    omega
  · intro x hx
    rw [Array.toList_push] at hx
    rcases List.mem_append.1 hx with hx | hx
    · have := hlt x hx; omega
    · simp at hx; subst hx; simp

theorem Stamped.of_born {es es' : Array MapEntry} {ck : Nat} (h : Stamped es ck) (e : es'.toList.map (·.born) = es.toList.map (·.born)) : Stamped es' ck := by
  refine ⟨by rw [e]; exact h.1, fun x hx => ?_⟩
  have : x.born ∈ es.toList.map (·.born) := by rw [← e]; exact List.mem_map.2 ⟨x, hx, rfl⟩
  obtain ⟨y, hy, e'⟩ := List.mem_map.1 this
  rw [← e']
  exact h.2 y hy

/-- Block b is a map that holds these keys and values, in the order in which they came, its stamps in order. -/
def MapIs (w : World) (b : Nat) (kv : List (Value × Value)) : Prop :=
  ∃ es clock, w.heap[b]? = some (.map es clock) ∧ es.toList.map (fun e => (e.key, e.val)) = kv ∧ Stamped es clock

theorem MapIs.made (w : World) : MapIs (w.alloc (.map #[] 0)) w.heap.size [] := ⟨#[], 0, (MapKept.heap_alloc w _).1, rfl, by simp, by simp⟩

theorem MapIs.lt {w : World} {b : Nat} {kv : List (Value × Value)} (h : MapIs w b kv) : b < w.heap.size := by
  obtain ⟨es, ck, hb, _⟩ := h
  exact (Array.getElem?_eq_some_iff.1 hb).1

theorem MapIs.fr {S : List Nat} {a w : World} {b : Nat} {kv : List (Value × Value)} (h : MapIs a b kv) (hf : Fr S a w) (hS : b ∉ S) : MapIs w b kv := by
  obtain ⟨es, ck, hb, e⟩ := h
  exact ⟨es, ck, hf.heap hb hS, e⟩

section
variable {P : Program} {k t e : TypeId} {w : World} {b : Nat} {kv : List (Value × Value)} {key : Value} {kl : Lit}

/-- All keys can be read. -/
def KeysOk (P : Program) (k : TypeId) (kv : List (Value × Value)) : Prop := ∀ p ∈ kv, ∃ l, Go.keyOf P k p.1 = some l

theorem MapIs.look_none (h : MapIs w b kv) (K : Keyed P k) (ht : P.underlying t = some (.map k e)) (hks : KeysOk P k kv) (hkey : Go.keyOf P k key = some kl) (hno : ∀ p ∈ kv, p.1 ≠ key)
    {z : Value} (hz : (zeroValue e).run P w = .ok z w) (c : Bool) : (Instr.lookup t (.map (some b)) key c).run P w = .ok (if c then .tuple #[z, .bool false] else z) w := by
  obtain ⟨es, ck, hb, rfl, hst⟩ := h
  rcases K.find w hkey es.toList (fun x hx => hks _ (List.mem_map.2 ⟨x, hx, rfl⟩)) with ⟨h1, _⟩ | ⟨j, e0, _, h2, h3⟩
  · simp [Instr.lookup, run_underlying ht, MapKept.run_getObj_map hb, K.check w _ hkey, h1, hz, Result.andThen]
  · exact absurd h3 (hno (e0.key, e0.val) (List.mem_map.2 ⟨e0, List.mem_of_getElem? h2, rfl⟩))

theorem entry_at {es : Array MapEntry} {j j' : Nat} {v : Value} {e0 : MapEntry} (hn : ((es.toList.map (fun e => (e.key, e.val))).map (·.1)).Nodup)
    (hj : (es.toList.map (fun e => (e.key, e.val)))[j]? = some (key, v)) (h2 : es.toList[j']? = some e0) (h3 : e0.key = key) : j' = j ∧ e0.val = v := by
  have hj' : (es.toList.map (fun e => (e.key, e.val)))[j']? = some (key, e0.val) := by simp [List.getElem?_map, h2, h3]
  have e1 : ((es.toList.map (fun e => (e.key, e.val))).map (·.1))[j']? = some key := by simp only [List.getElem?_map] at hj' ⊢; rw [hj']; rfl
  have e2 : ((es.toList.map (fun e => (e.key, e.val))).map (·.1))[j]? = some key := by simp only [List.getElem?_map] at hj ⊢; rw [hj]; rfl
  have l1 := (List.getElem?_eq_some_iff.1 e1).1
  have : j' = j := (List.getElem?_inj l1 hn).1 (e1.trans e2.symm)
  subst this
  rw [hj'] at hj
  exact ⟨rfl, by simpa using hj⟩

theorem MapIs.look_some (h : MapIs w b kv) (K : Keyed P k) (ht : P.underlying t = some (.map k e)) (hks : KeysOk P k kv) (hkey : Go.keyOf P k key = some kl) (hn : (kv.map (·.1)).Nodup) {j : Nat} {v : Value}
    (hj : kv[j]? = some (key, v)) (c : Bool) : (Instr.lookup t (.map (some b)) key c).run P w = .ok (if c then .tuple #[v, .bool true] else v) w := by
  obtain ⟨es, ck, hb, rfl, hst⟩ := h
  rcases K.find w hkey es.toList (fun x hx => hks _ (List.mem_map.2 ⟨x, hx, rfl⟩)) with ⟨_, h2⟩ | ⟨j', e0, h1, h2, h3⟩
  · obtain ⟨x, hx, he⟩ := List.mem_map.1 (List.mem_of_getElem? hj)
    exact absurd (congrArg Prod.fst he) (h2 x hx)
  · obtain ⟨rfl, hv⟩ := entry_at hn hj h2 h3
    subst hv
    simp [Instr.lookup, run_underlying ht, MapKept.run_getObj_map hb, K.check w _ hkey, h1, Result.andThen]

theorem MapIs.store_none (h : MapIs w b kv) (K : Keyed P k) (ht : P.underlying t = some (.map k e)) (hks : KeysOk P k kv) (hkey : Go.keyOf P k key = some kl) (hno : ∀ p ∈ kv, p.1 ≠ key) (v : Value) :
    ∃ w', (Instr.mapUpdate t (.map (some b)) key v).run P w = .ok () w' ∧ MapIs w' b (kv ++ [(key, v)]) ∧ w.grownBy w' (some b) := by
  obtain ⟨es, ck, hb, rfl, hst⟩ := h
  rcases K.find w hkey es.toList (fun x hx => hks _ (List.mem_map.2 ⟨x, hx, rfl⟩)) with ⟨h1, _⟩ | ⟨j, e0, _, h2, h3⟩
  · refine ⟨setBlock w b (.map (es.push ⟨key, v, ck⟩) (ck + 1)), ?_, ⟨_, _, heap_setBlock_same hb _, by simp, hst.push _ _⟩, ⟨rfl, rfl, rfl, by simp [setBlock], fun i _ hi => heap_setBlock_other hb _ (fun e => hi (by rw [e]))⟩⟩
    simp [Instr.mapUpdate, run_underlying ht, MapKept.run_getObj_map hb, K.check w false hkey, h1, MapKept.run_setObj_map _ hb, Result.andThen, setBlock]
  · exact absurd h3 (hno (e0.key, e0.val) (List.mem_map.2 ⟨e0, List.mem_of_getElem? h2, rfl⟩))

theorem MapIs.store_some (h : MapIs w b kv) (K : Keyed P k) (ht : P.underlying t = some (.map k e)) (hks : KeysOk P k kv) (hkey : Go.keyOf P k key = some kl) (hn : (kv.map (·.1)).Nodup) {j : Nat} {u : Value}
    (hj : kv[j]? = some (key, u)) (v : Value) :
    ∃ w', (Instr.mapUpdate t (.map (some b)) key v).run P w = .ok () w' ∧ MapIs w' b (kv.set j (key, v)) ∧ w.grownBy w' (some b) := by
  obtain ⟨es, ck, hb, rfl, hst⟩ := h
  rcases K.find w hkey es.toList (fun x hx => hks _ (List.mem_map.2 ⟨x, hx, rfl⟩)) with ⟨_, h2⟩ | ⟨j', e0, h1, h2, h3⟩
  · obtain ⟨x, hx, he⟩ := List.mem_map.1 (List.mem_of_getElem? hj)
    exact absurd (congrArg Prod.fst he) (h2 x hx)
  · obtain ⟨rfl, hv⟩ := entry_at hn hj h2 h3
    have hj' : es[j']? = some e0 := by simpa using h2
    refine ⟨setBlock w b (.map (es.modify j' (fun e' => { e' with key := key, val := v })) ck), ?_, ⟨_, _, heap_setBlock_same hb _, ?_, hst.of_born ?_⟩, ⟨rfl, rfl, rfl, by simp [setBlock], fun i _ hi => heap_setBlock_other hb _ (fun e => hi (by rw [e]))⟩⟩
    · simp [Instr.mapUpdate, run_underlying ht, MapKept.run_getObj_map hb, K.check w false hkey, h1, hj', h3, K.stays w hkey, MapKept.run_setObj_map _ hb, Result.andThen, setBlock]
    · rw [Array.toList_modify, ChangeMaps.modify_eq_set _ _ _ _ h2, List.map_set]
    · rw [Array.toList_modify, ChangeMaps.modify_eq_set _ _ _ _ h2, List.map_set]
      exact set_same (by rw [List.getElem?_map, h2]; rfl)

theorem MapIs.clear (h : MapIs w b kv) {ty : TypeId} (ht : P.underlying t = some (.map k e)) :
    ∃ w', (Builtin.clear_ #[t] ty #[.map (some b)]).run P w = .ok (.tuple #[]) w' ∧ MapIs w' b [] ∧ w.grownBy w' (some b) := by
  obtain ⟨es, ck, hb, rfl, hst⟩ := h
  refine ⟨setBlock w b (.map #[] ck), ?_, ⟨_, _, heap_setBlock_same hb _, rfl, by simp, by simp⟩, ⟨rfl, rfl, rfl, by simp [setBlock], fun i _ hi => heap_setBlock_other hb _ (fun e => hi (by rw [e]))⟩⟩
  simp [Builtin.clear_, run_underlying ht, MapKept.run_getObj_map hb, MapKept.run_setObj_map _ hb, Result.andThen, setBlock]

theorem MapIs.len (h : MapIs w b kv) {ty : TypeId} (ht : P.underlying t = some (.map k e)) : (Builtin.len_ #[t] ty #[.map (some b)]).run P w = .ok (.int .i64 kv.length) w := by
  obtain ⟨es, ck, hb, rfl, hst⟩ := h
  simp [Builtin.len_, run_underlying ht, MapKept.run_getObj_map hb, Result.andThen, goInt]

end

/-! ### Rows as values -/

/-- The cells of a row. -/
def rowCells (x : Row) : List Value := x.map (Value.int .i32)
/-- The value of a row. -/
abbrev rowV (x : Row) : Value := .agg (rowCells x).toArray

theorem rowCells_length (x : Row) : (rowCells x).length = x.length := by simp [rowCells]

theorem rowV_inj {x y : Row} (h : rowV x = rowV y) : x = y := by
  simp only [rowCells, Value.agg.injEq] at h
  have h' := congrArg Array.toList h
  simp only at h'
  exact (List.map_inj_right (fun a b e => by simpa using e)).1 h'

end Go.Proofs.Ytepimaghpjkibaa

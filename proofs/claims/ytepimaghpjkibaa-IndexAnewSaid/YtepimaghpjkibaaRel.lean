/-
  The relation in memory ('RelAt'), and the contracts of its calls.
-/
import Derived.Test.YtepimaghpjkibaaRowOps
import Derived.Deep.QuietTactic
import Derived.BigQuiet
import Derived.Outline
namespace Go.Proofs.Ytepimaghpjkibaa
open Go.RowKit

/-- A relation: its blocks, the slice of its rows, what it holds. -/
structure RelD where
  p : Nat
  q : Nat
  m : Nat
  sv : Value
  arity : Nat
  gone : Nat
  rows : List Row

def RelD.foot (R : RelD) : List Nat := R.p :: R.q :: R.m :: R.sv.ownBlock.toList

/-- What a call that adds a row may turn. -/
def RelD.inner (R : RelD) : List Nat := R.q :: R.m :: R.sv.ownBlock.toList

theorem RelD.inner_foot (R : RelD) : ∀ b ∈ R.inner, b ∈ R.foot := fun _ hb => List.mem_cons_of_mem _ hb

/-- The rows' numbers in the relation's map. -/
def numbered (rows : List Row) : List (Value × Value) := rows.zipIdx.map fun p => (rowV p.1, .int .i64 p.2)

structure RelAt (w : World) (R : RelD) : Prop where
  hp : w.heap[R.p]? = some (.cells #[.int .i64 R.arity, .int .i64 R.gone, .pointer (some ⟨R.q, 0, none⟩)] 85 (0, 0))
  hq : w.heap[R.q]? = some (.cells #[R.sv, .map (some R.m)] 113 (0, 0))
  hs : w.ownsRow 0 34 24 R.sv R.rows.length (R.rows.flatMap rowCells)
  hm : MapIs w R.m (numbered R.rows)
  nd : R.rows.Nodup
  ok : ∀ x ∈ R.rows, IsRow x
  ap : R.foot.Nodup
  ar : R.arity ≤ 24

theorem RelAt.lt {w : World} {R : RelD} (h : RelAt w R) : ∀ b ∈ R.foot, b < w.heap.size := by
  intro b hb
  simp only [RelD.foot, List.mem_cons, Option.mem_toList] at hb
  rcases hb with rfl | rfl | rfl | hb
  · exact (Array.getElem?_eq_some_iff.1 h.hp).1
  · exact (Array.getElem?_eq_some_iff.1 h.hq).1
  · exact h.hm.lt
  · exact (h.hs.lt b hb).2

/-- It lies as it lay where nothing of it is turned. -/
theorem RelAt.fr {S : List Nat} {w w' : World} {R : RelD} (h : RelAt w R) (hf : Fr S w w') (hS : ∀ b ∈ R.foot, b ∉ S) : RelAt w' R where
  hp := hf.heap h.hp (hS _ (by simp [RelD.foot]))
  hq := hf.heap h.hq (hS _ (by simp [RelD.foot]))
  hs := hf.ownsRow h.hs fun k hk => hS k (by simp [RelD.foot, hk])
  hm := h.hm.fr hf (hS _ (by simp [RelD.foot]))
  nd := h.nd
  ok := h.ok
  ap := h.ap
  ar := h.ar

theorem RelAt.below {w w' : World} {R : RelD} (h : RelAt w R) (hf : Below w.heap.size w w') : RelAt w' R :=
  h.fr (Below.fr hf []) (fun _ _ => List.not_mem_nil)

theorem RelAt.c0 {w : World} {R : RelD} (h : RelAt w R) : w.cell? ⟨R.p, 0, none⟩ = some (.int .i64 R.arity) := by rw [cell_of_row w _ 0 _ _ _ h.hp]; rfl
theorem RelAt.c1 {w : World} {R : RelD} (h : RelAt w R) : w.cell? ⟨R.p, 1, none⟩ = some (.int .i64 R.gone) := by rw [cell_of_row w _ 1 _ _ _ h.hp]; rfl
theorem RelAt.c2 {w : World} {R : RelD} (h : RelAt w R) : w.cell? ⟨R.p, 2, none⟩ = some (.pointer (some ⟨R.q, 0, none⟩)) := by rw [cell_of_row w _ 2 _ _ _ h.hp]; rfl
theorem RelAt.d0 {w : World} {R : RelD} (h : RelAt w R) : w.cell? ⟨R.q, 0, none⟩ = some R.sv := by rw [cell_of_row w _ 0 _ _ _ h.hq]; rfl
theorem RelAt.d1 {w : World} {R : RelD} (h : RelAt w R) : w.cell? ⟨R.q, 1, none⟩ = some (.map (some R.m)) := by rw [cell_of_row w _ 1 _ _ _ h.hq]; rfl
theorem RelAt.z0 {w : World} {R : RelD} (h : RelAt w R) : w.frozen? ⟨R.q, 0, none⟩ = false := frozen_of_row w _ _ _ _ h.hq
theorem RelAt.f1 {w : World} {R : RelD} (h : RelAt w R) : w.frozen? ⟨R.p, 1, none⟩ = false := frozen_of_row w _ _ _ _ h.hp

/-- The slice of the rows: its length. -/
theorem RelAt.slice {w : World} {R : RelD} (h : RelAt w R) : ∃ a c, R.sv = .slice a R.rows.length c := by
  rcases h.hs.2 with ⟨h1, h2⟩ | ⟨g, cap, cur, h1, _⟩
  · exact ⟨none, 0, by rw [h1, h2]⟩
  · exact ⟨_, _, h1⟩

theorem rows_length {w : World} {R : RelD} (h : RelAt w R) : R.rows.length ≤ maxLen := by
  rcases h.hs.2 with ⟨h1, h2⟩ | ⟨g, cap, cur, h1, _, _, h3, h4, _⟩
  · rw [h2]; exact Nat.zero_le _
  · omega

/-- One row among the cells of all. -/
theorem flat_at : ∀ {rows : List Row} (_ : ∀ x ∈ rows, IsRow x) {i j : Nat} {x : Row}, rows[i]? = some x → j < 24 → (rows.flatMap rowCells)[24 * i + j]? = some (.int .i32 (x.getD j 0))
  | y :: r, hok, 0, j, x, h, hj => by
    simp at h
    subst h
    rw [List.flatMap_cons, List.getElem?_append_left (by rw [rowCells_length, (hok y (by simp)).1]; omega)]
    simpa using rowCells_at (hok y (by simp)) hj
  | y :: r, hok, i + 1, j, x, h, hj => by
    have hl : (rowCells y).length = 24 := by rw [rowCells_length, (hok y (by simp)).1]
    rw [List.flatMap_cons, List.getElem?_append_right (by omega), hl]
    have := flat_at (rows := r) (fun z hz => hok z (List.mem_cons_of_mem _ hz)) (i := i) (by simpa using h) hj
    rw [← this]
    congr 1
    omega

theorem flat_length : ∀ {rows : List Row} (_ : ∀ x ∈ rows, IsRow x), (rows.flatMap rowCells).length = rows.length * 24
  | [], _ => rfl
  | y :: r, hok => by
    rw [List.flatMap_cons, List.length_append, rowCells_length, (hok y (by simp)).1, flat_length (fun z hz => hok z (by simp [hz])), List.length_cons]
    omega

/-! ### the calls -/

set_option maxHeartbeats 400000 in
theorem rel_New (a : Nat) (w : World) (ha : a ≤ 24) :
    Calls Try.prog 23 #[.int .i64 a] w fun e w' => ∃ R : RelD, e = .returned (.tuple #[.pointer (some ⟨R.p, 0, none⟩), .int .i64 0]) ∧ RelAt w' R ∧ R.arity = a ∧ R.gone = 0 ∧ R.rows = [] ∧ (∀ b ∈ R.foot, w.heap.size ≤ b) ∧ Below w.heap.size w w' := by
  have hmm := @run_makeMap Try.prog
  go_enter Try.func23, Try.ntmps23
  go_wp2
  go_ret2
  refine ⟨⟨w.heap.size + 1 + 1, w.heap.size + 1, w.heap.size, .slice none 0 0, a, 0, []⟩, rfl, ⟨?_, ?_, World.ownsRow_nil _ _ _ _, ?_, by simp, by simp, by simp [RelD.foot, Value.ownBlock]; omega, ha⟩, rfl, rfl, rfl, ?_, ?_⟩
  · simp only [heap_at, World.size_alloc, if_true]; rfl
  · simp only [heap_at, World.size_alloc]; rw [if_neg (by omega)]; simp only [if_true]
  · exact ⟨#[], 0, by simp only [heap_at, World.size_alloc]; rw [if_neg (by omega), if_neg (by omega)]; simp only [if_true], rfl, by simp, by simp⟩
  · intro b hb
    simp [RelD.foot, Value.ownBlock] at hb
    omega
  · exact (((Below.refl _ _).alloc (Nat.le_refl _) _).alloc (by simp) _).alloc (by simp; omega) _

set_option maxHeartbeats 400000 in
theorem rel_there {w : World} {R : RelD} (h : RelAt w R) :
    Calls Try.prog 26 #[.pointer (some ⟨R.p, 0, none⟩)] w fun e w' => e = .returned (.bool true) ∧ w = w' := by
  have c2 := h.c2
  clear h
  go_enter Try.func26, Try.ntmps26
  go_wp2
  go_ret
  exact ⟨rfl, rfl⟩

set_option maxHeartbeats 400000 in
theorem rel_there_nil (w : World) :
    Calls Try.prog 26 #[.pointer none] w fun e w' => e = .returned (.bool false) ∧ w = w' := by
  go_enter Try.func26, Try.ntmps26
  go_wp2
  go_ret
  exact ⟨rfl, rfl⟩

/-- A relation that New has not made. -/
def ZeroRel (w : World) (p : Nat) : Prop := w.cell? ⟨p, 2, none⟩ = some (.pointer none)

set_option maxHeartbeats 400000 in
theorem rel_there_zero {w : World} {p : Nat} (h : ZeroRel w p) :
    Calls Try.prog 26 #[.pointer (some ⟨p, 0, none⟩)] w fun e w' => e = .returned (.bool false) ∧ w = w' := by
  unfold ZeroRel at h
  go_enter Try.func26, Try.ntmps26
  go_wp2
  go_ret
  exact ⟨rfl, rfl⟩

set_option maxHeartbeats 400000 in
theorem rel_Len {w : World} {R : RelD} (h : RelAt w R) :
    Calls Try.prog 9 #[.pointer (some ⟨R.p, 0, none⟩)] w fun e w' => e = .returned (.int .i64 R.rows.length) ∧ w = w' := by
  have ht := rel_there h
  have c2 := h.c2
  have d0 := h.d0
  obtain ⟨a, c, hsv⟩ := h.slice
  rw [hsv] at d0
  clear h hsv
  go_enter Try.func9, Try.ntmps9
  go_wp2_with (go_at_call 26; refine ht.mono ?_; rintro e w' ⟨rfl, rfl⟩)
  go_ret
  exact ⟨rfl, rfl⟩

set_option maxHeartbeats 400000 in
theorem rel_Arity {w : World} {R : RelD} (h : RelAt w R) :
    Calls Try.prog 56 #[.pointer (some ⟨R.p, 0, none⟩)] w fun e w' => e = .returned (.int .i64 R.arity) ∧ w = w' := by
  have ht := rel_there h
  have c0 := h.c0
  clear h
  go_enter Try.func56, Try.ntmps56
  go_wp2_with (go_at_call 26; refine ht.mono ?_; rintro e w' ⟨rfl, rfl⟩)
  go_ret
  exact ⟨rfl, rfl⟩

set_option maxHeartbeats 400000 in
theorem rel_Gone {w : World} {R : RelD} (h : RelAt w R) :
    Calls Try.prog 44 #[.pointer (some ⟨R.p, 0, none⟩)] w fun e w' => e = .returned (.int .i64 R.gone) ∧ w = w' := by
  have ht := rel_there h
  have c1 := h.c1
  clear h
  go_enter Try.func44, Try.ntmps44
  go_wp2_with (go_at_call 26; refine ht.mono ?_; rintro e w' ⟨rfl, rfl⟩)
  go_ret
  exact ⟨rfl, rfl⟩

/-- A row's cells in the relation's own slice. -/
theorem RelAt.range {w : World} {R : RelD} (h : RelAt w R) {i : Nat} {x : Row} (hi : R.rows[i]? = some x) : ∃ g cap, R.sv = .slice (some ⟨g, 0, none⟩) R.rows.length cap ∧ w.rangeAt g (i * 24) (rowCells x) ∧ g < w.heap.size := by
  have hil : i < R.rows.length := (List.getElem?_eq_some_iff.1 hi).1
  rcases h.hs.2 with ⟨_, h2⟩ | ⟨g, cap, cur, hsv, _, hg, hn, hc, hcs, htk⟩
  · omega
  refine ⟨g, cap, hsv, ?_, (Array.getElem?_eq_some_iff.1 hg).1⟩
  intro j v hv
  have hj : j < 24 := by
    have := (List.getElem?_eq_some_iff.1 hv).1
    rwa [rowCells_length, (h.ok x (List.mem_of_getElem? hi)).1] at this
  have h1 := flat_at h.ok hi hj
  rw [rowCells_at (h.ok x (List.mem_of_getElem? hi)) hj] at hv
  rw [← htk, List.getElem?_take, if_pos (by omega)] at h1
  rw [cell_of_row w g _ _ _ _ hg, ← hv, ← h1, Nat.mul_comm 24 i]
  simp

theorem rangeAt_below {w w' : World} (hb : Below w.heap.size w w') {g off : Nat} {cs : List Value} (h : w.rangeAt g off cs) : w'.rangeAt g off cs := fun j v hv =>
  (hb.cell (World.block_lt_of_cell? w _ (h j v hv))).trans (h j v hv)

set_option maxRecDepth 100000 in
set_option maxHeartbeats 400000 in
theorem rel_At_yes {w : World} {R : RelD} (h : RelAt w R) (i : Nat) (x : Row) (hi : R.rows[i]? = some x) :
    Calls Try.prog 10 #[.pointer (some ⟨R.p, 0, none⟩), .int .i64 i] w fun e w' => e = .returned (.tuple #[rowV x, .int .i64 0]) ∧ Below w.heap.size w w' := by
  have hil : i < R.rows.length := (List.getElem?_eq_some_iff.1 hi).1
  have hml := rows_length h
  unfold maxLen at hml
  have hx := h.ok x (List.mem_of_getElem? hi)
  obtain ⟨g, cap, hsv, hra, lg⟩ := h.range hi
  have hra' := fun o => rangeAt_below ((Below.refl _ w).alloc (Nat.le_refl _) o) hra
  have c2 := h.c2
  have d0 := h.d0
  rw [hsv] at d0
  have hq := h.lt R.q (by simp [RelD.foot])
  have hp := h.lt R.p (by simp [RelD.foot])
  clear hsv hra hi
  go_enter Try.func10, Try.ntmps10
  go_wp2_with (first | (go_at_call 26; refine (rel_there (h.below ((Below.refl _ _).alloc (Nat.le_refl _) _))).mono ?_; rintro e w' ⟨rfl, rfl⟩) | (refine row_load rfl _ rfl g (i * 24) rfl x hx (hra' _) ?_) | (refine row_store_new rfl _ _ rfl rfl x hx rfl rfl ?_))
  refine bodyPost_ret (results_row_tmp rfl _ _ w.heap.size x hx rfl (rangeAt_new _ _ _)) rfl ⟨rfl, ?_⟩
  exact (Below.refl _ _).alloc (Nat.le_refl _) _

end Go.Proofs.Ytepimaghpjkibaa

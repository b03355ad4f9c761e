/-
  A book that is not there: nil, or one that New has not made; and the document's.
-/
import Derived.Test.YtepimaghpjkibaaMasks4
namespace Go.Proofs.Ytepimaghpjkibaa
open Go.RowKit Go.Shelf

set_option maxRecDepth 100000 in
set_option maxHeartbeats 400000 in
theorem rel_At_nil (w : World) :
    Calls Try.prog 10 #[.pointer none, .int .i64 (-1)] w fun e w' => e = .returned (.tuple #[rowV zeroRow, .int .i64 2]) ∧ Below w.heap.size w w' := by
  go_enter Try.func10, Try.ntmps10
  go_wp2_with (first | (go_at_call 26; refine (rel_there_nil _).mono ?_; rintro e w' ⟨rfl, rfl⟩) | (refine row_build0 rfl rfl ?_) | (refine row_store_new rfl _ _ rfl rfl zeroRow zeroRow_is rfl rfl ?_))
  refine bodyPost_ret (results_row_tmp rfl _ _ w.heap.size zeroRow zeroRow_is rfl (rangeAt_new _ _ _)) rfl ⟨?_, ?_⟩
  · rfl
  · exact (Below.refl _ _).alloc (Nat.le_refl _) _

theorem ZeroRel.below {w w' : World} {p : Nat} (h : ZeroRel w p) (hb : Below w.heap.size w w') : ZeroRel w' p :=
  (hb.cell (p := ⟨p, 2, none⟩) (World.block_lt_of_cell? w _ h)).trans h

set_option maxRecDepth 100000 in
set_option maxHeartbeats 400000 in
theorem rel_At_zero {w : World} {p : Nat} (h : ZeroRel w p) :
    Calls Try.prog 10 #[.pointer (some ⟨p, 0, none⟩), .int .i64 (-1)] w fun e w' => e = .returned (.tuple #[rowV zeroRow, .int .i64 2]) ∧ Below w.heap.size w w' := by
  have h' := Lib.hid h
  clear h
  go_enter Try.func10, Try.ntmps10
  go_wp2_with (first | (go_at_call 26; refine (rel_there_zero (h'.out.below ((Below.refl _ _).alloc (Nat.le_refl _) _))).mono ?_; rintro e w' ⟨rfl, rfl⟩) | (refine row_build0 rfl rfl ?_) | (refine row_store_new rfl _ _ rfl rfl zeroRow zeroRow_is rfl rfl ?_))
  refine bodyPost_ret (results_row_tmp rfl _ _ w.heap.size zeroRow zeroRow_is rfl (rangeAt_new _ _ _)) rfl ⟨?_, ?_⟩
  · rfl
  · exact (Below.refl _ _).alloc (Nat.le_refl _) _

set_option maxRecDepth 100000 in
set_option maxHeartbeats 400000 in
theorem New_none {v : Value} {w : World} (hA : Calls Try.prog 10 #[v, .int .i64 (-1)] w fun e w' => e = .returned (.tuple #[rowV zeroRow, .int .i64 2]) ∧ Below w.heap.size w w') :
    Calls Try.prog 15 #[v] w fun e w' => e = .returned (.tuple #[.pointer none, .int .i64 2]) ∧ Below w.heap.size w w' := by
  go_enter Try.func15, Try.ntmps15
  go_wp2_with (first | (go_at_call 10; refine hA.mono ?_; rintro e w1 ⟨rfl, hB1⟩) | (refine row_store_new rfl _ _ rfl rfl zeroRow zeroRow_is rfl rfl ?_))
  go_ret2
  exact ⟨rfl, hB1.alloc hB1.size _⟩

/-- A book that is nil, or one that New has not made. -/
def NoBook (w : World) (v : Value) : Prop := v = .pointer none ∨ ∃ p, v = .pointer (some ⟨p, 0, none⟩) ∧ w.heap[p]? = some (.cells #[.pointer none, .map none] 96 (0, 0))

theorem NoBook.fr {S : List Nat} {w w' : World} {v : Value} (h : NoBook w v) (hf : Fr S w w') (hS : ∀ p, v = .pointer (some ⟨p, 0, none⟩) → p ∉ S) : NoBook w' v := by
  rcases h with h | ⟨p, h1, h2⟩
  · exact Or.inl h
  · exact Or.inr ⟨p, h1, hf.heap h2 (hS p h1)⟩

set_option maxRecDepth 100000 in
set_option maxHeartbeats 400000 in
theorem there_none (w : World) : Calls Try.prog 42 #[.agg #[.pointer none]] w fun e w' => e = .returned (.bool false) ∧ Below w.heap.size w w' := by
  go_enter Try.func42, Try.ntmps42
  go_wp2
  go_ret
  exact ⟨rfl, (Below.refl _ _).alloc (Nat.le_refl _) _⟩

set_option maxRecDepth 100000 in
set_option maxHeartbeats 400000 in
theorem ask_none {w : World} {v : Value} (m : Nat) (h : NoBook w v) : Calls Try.prog 27 #[v, .int .u32 (m : Int)] w fun e w' => e = .returned (.tuple #[.pointer none, .int .i64 2]) ∧ Below w.heap.size w w' := by
  rcases h with rfl | ⟨p, rfl, hp⟩
  · refine (callsIn_wide (n := 3)).1 ?_
    refine callsIn_of_wp_marks Try.func27 rfl trivial ?_ rfl
    refine wpIn_wide.2 ?_
    simp only [Try.ntmps27, List.size_toArray, List.length_cons, List.length_nil, Nat.reduceAdd, Nat.reduceSub, Array.replicate_succ, Array.replicate_zero, List.push_toArray, List.append_toArray, List.nil_append, List.cons_append]
    go_wp2_with fail
    exact ⟨_, results_tmp2 rfl _ _ _, rfl, (Below.refl _ _).alloc (Nat.le_refl _) _⟩
  · have hF : ∀ o, Fr [] w (w.alloc o) := fun o => (Fr.refl _ _).alloc o
    have c0 := fun o => (show (w.alloc o).cell? ⟨p, 0, none⟩ = some (.pointer none) by rw [cell_of_row _ _ 0 _ _ _ ((hF o).heap hp (by simp))]; rfl)
    have ht := there_none
    refine (callsIn_wide (n := 3)).1 ?_
    refine callsIn_of_wp_marks Try.func27 rfl trivial ?_ rfl
    refine wpIn_wide.2 ?_
    simp only [Try.ntmps27, List.size_toArray, List.length_cons, List.length_nil, Nat.reduceAdd, Nat.reduceSub, Array.replicate_succ, Array.replicate_zero, List.push_toArray, List.append_toArray, List.nil_append, List.cons_append]
    go_wp2_with (go_at_call 42; refine (ht _).mono ?_; rintro e w1 ⟨rfl, hB1⟩)
    exact ⟨_, results_tmp2 rfl _ _ _, rfl, ((Below.refl _ _).alloc (Nat.le_refl _) _).trans (hB1.mono (by simp))⟩

section
variable {w : World} {v : Value} {m : Nat} {r : Row}
set_option maxRecDepth 100000 in
set_option maxHeartbeats 400000 in
theorem Look_none (h : NoBook w v) : Calls Try.prog 11 #[v, .int .u32 (m : Int), rowV r] w fun e w' => e = .returned (.tuple #[.slice none 0 0, .int .i64 2]) ∧ Below w.heap.size w w' := by
  have ha := ask_none m (h.fr ((Fr.refl [] w).alloc (.cells (rowCells r).toArray 34)) (by simp))
  clear h
  go_enter Try.func11, Try.ntmps11
  go_wp2_with (go_at_call 27; refine ha.mono ?_; rintro e w1 ⟨rfl, hB1⟩)
  go_ret2
  exact ⟨rfl, ((Below.refl _ _).alloc (Nat.le_refl _) _).trans (hB1.mono (by simp))⟩

set_option maxRecDepth 100000 in
set_option maxHeartbeats 400000 in
theorem Count_none (h : NoBook w v) : Calls Try.prog 12 #[v, .int .u32 (m : Int), rowV r] w fun e w' => e = .returned (.tuple #[.int .i64 0, .int .i64 2]) ∧ Below w.heap.size w w' := by
  have ha := ask_none m (h.fr ((Fr.refl [] w).alloc (.cells (rowCells r).toArray 34)) (by simp))
  clear h
  go_enter Try.func12, Try.ntmps12
  go_wp2_with (go_at_call 27; refine ha.mono ?_; rintro e w1 ⟨rfl, hB1⟩)
  go_ret2
  exact ⟨rfl, ((Below.refl _ _).alloc (Nat.le_refl _) _).trans (hB1.mono (by simp))⟩

set_option maxRecDepth 100000 in
set_option maxHeartbeats 400000 in
theorem Distinct_none (h : NoBook w v) : Calls Try.prog 14 #[v, .int .u32 (m : Int)] w fun e w' => e = .returned (.tuple #[.int .i64 0, .int .i64 2]) ∧ Below w.heap.size w w' := by
  have ha := ask_none m h
  clear h
  go_enter Try.func14, Try.ntmps14
  go_wp2_with (go_at_call 27; refine ha.mono ?_; rintro e w1 ⟨rfl, hB1⟩)
  go_ret2
  exact ⟨rfl, hB1⟩

theorem run_look_nilmap (W : World) (key : Value) (hk : ∃ kl, Go.keyOf Try.prog 24 key = some kl) : (Instr.lookup 94 (.map none) key false).run Try.prog W = .ok (.pointer none) W := by
  obtain ⟨kl, hk⟩ := hk
  have hz := Try.zeroRows W
  rcases Try.maskLaw.find W hk [] (fun x hx => by cases hx) with ⟨h1, _⟩ | ⟨j, e0, _, h2, _⟩
  · simp [Instr.lookup, run_underlying Try.underlying94, Try.maskLaw.check W _ hk, h1, hz, Result.andThen]
  · simp at h2

set_option maxRecDepth 100000 in
set_option maxHeartbeats 400000 in
theorem Seen_none (hm : m < 4294967296) (h : NoBook w v) : Calls Try.prog 20 #[v, .int .u32 (m : Int)] w fun e w' => e = .returned (.int .i64 0) ∧ w = w' := by
  rcases h with rfl | ⟨p, rfl, hp⟩
  · go_enter Try.func20, Try.ntmps20
    go_wp2
    go_ret
    exact ⟨rfl, rfl⟩
  · have c1 : w.cell? ⟨p, 1, none⟩ = some (.map none) := by rw [cell_of_row _ _ 1 _ _ _ hp]; rfl
    have hl := run_look_nilmap w (.int .u32 (m : Int)) ⟨_, Maps.keyOf_int_mk Try.underlying24 (wf_mask hm)⟩
    clear hm hp
    go_enter Try.func20, Try.ntmps20
    go_wp2
    go_ret
    exact ⟨rfl, rfl⟩

theorem Masks_none (h : NoBook w v) : Calls Try.prog 19 #[v] w fun e w' => ∃ v, e = .returned v ∧ w'.ownsRow w.heap.size 24 1 v 0 (maskCells []) ∧ Below w.heap.size w w' := by
  rcases h with rfl | ⟨p, rfl, hp⟩
  · exact (masks_nil w).mono fun e w' ⟨he, hw⟩ => ⟨_, he, World.ownsRow_nil _ _ _ _, by rw [← hw]; exact Below.refl _ _⟩
  · exact masks_zero (by rw [cell_of_row _ _ 1 _ _ _ hp]; rfl)
end

/-- The document's book, not made. -/
def NoWant (w : World) (p : Nat) : Prop := w.heap[p]? = some (.cells #[.bool false, .int .i64 0, .slice none 0 0] 90 (0, 0))

section
variable {w : World} {p m : Nat} {r : Row}
set_option maxRecDepth 100000 in
set_option maxHeartbeats 400000 in
theorem want_ask_none (h : NoWant w p) (v : Value) : Calls Try.prog 46 #[.pointer (some ⟨p, 0, none⟩), v, .int .u32 (m : Int)] w fun e w' => e = .returned (.int .i64 2) ∧ w = w' := by
  have c0 : w.cell? ⟨p, 0, none⟩ = some (.bool false) := by rw [cell_of_row _ _ 0 _ _ _ h]; rfl
  clear h
  go_enter Try.func46, Try.ntmps46
  go_wp2
  go_ret
  exact ⟨rfl, rfl⟩

theorem NoWant.fr {w' : World} {S : List Nat} (h : NoWant w p) (hf : Fr S w w') (hS : p ∉ S) : NoWant w' p := hf.heap h hS

set_option maxRecDepth 100000 in
set_option maxHeartbeats 400000 in
theorem want_Look_none (h : NoWant w p) (v : Value) : Calls Try.prog 30 #[.pointer (some ⟨p, 0, none⟩), v, .int .u32 (m : Int), rowV r] w fun e w' => e = .returned (.tuple #[.slice none 0 0, .int .i64 2]) ∧ Below w.heap.size w w' := by
  have ha := want_ask_none (m := m) (h.fr ((Fr.refl [] w).alloc (.cells (rowCells r).toArray 34)) (by simp)) v
  clear h
  go_enter Try.func30, Try.ntmps30
  go_wp2_with (go_at_call 46; refine ha.mono ?_; rintro e w1 ⟨rfl, rfl⟩)
  go_ret2
  exact ⟨rfl, (Below.refl _ _).alloc (Nat.le_refl _) _⟩

set_option maxRecDepth 100000 in
set_option maxHeartbeats 400000 in
theorem want_Count_none (h : NoWant w p) (v : Value) : Calls Try.prog 32 #[.pointer (some ⟨p, 0, none⟩), v, .int .u32 (m : Int), rowV r] w fun e w' => e = .returned (.tuple #[.int .i64 0, .int .i64 2]) ∧ Below w.heap.size w w' := by
  have ha := want_ask_none (m := m) (h.fr ((Fr.refl [] w).alloc (.cells (rowCells r).toArray 34)) (by simp)) v
  clear h
  go_enter Try.func32, Try.ntmps32
  go_wp2_with (go_at_call 46; refine ha.mono ?_; rintro e w1 ⟨rfl, rfl⟩)
  go_ret2
  exact ⟨rfl, (Below.refl _ _).alloc (Nat.le_refl _) _⟩

set_option maxRecDepth 100000 in
set_option maxHeartbeats 400000 in
theorem want_Distinct_none (h : NoWant w p) (v : Value) : Calls Try.prog 33 #[.pointer (some ⟨p, 0, none⟩), v, .int .u32 (m : Int)] w fun e w' => e = .returned (.tuple #[.int .i64 0, .int .i64 2]) ∧ w = w' := by
  have ha := want_ask_none (m := m) h v
  clear h
  go_enter Try.func33, Try.ntmps33
  go_wp2_with (go_at_call 46; refine ha.mono ?_; rintro e w1 ⟨rfl, rfl⟩)
  go_ret2
  exact ⟨rfl, rfl⟩

set_option maxRecDepth 100000 in
set_option maxHeartbeats 400000 in
theorem want_Masks_none (h : NoWant w p) : Calls Try.prog 34 #[.pointer (some ⟨p, 0, none⟩)] w fun e w' => e = .returned (.slice none 0 0) ∧ w = w' := by
  have c2 : w.cell? ⟨p, 2, none⟩ = some (.slice none 0 0) := by rw [cell_of_row _ _ 2 _ _ _ h]; rfl
  clear h
  go_enter Try.func34, Try.ntmps34
  go_wp2_with fail
  refine wp_loop_rounds 1 ?_
  rw [rounds_succ]
  go_wp2_with fail
  go_ret
  exact ⟨rfl, rfl⟩

set_option maxRecDepth 100000 in
set_option maxHeartbeats 400000 in
theorem want_Seen_none (h : NoWant w p) : Calls Try.prog 36 #[.pointer (some ⟨p, 0, none⟩), .int .u32 (m : Int)] w fun e w' => e = .returned (.int .i64 0) ∧ w = w' := by
  have c2 : w.cell? ⟨p, 2, none⟩ = some (.slice none 0 0) := by rw [cell_of_row _ _ 2 _ _ _ h]; rfl
  clear h
  go_enter Try.func36, Try.ntmps36
  go_wp2_with fail
  refine wp_loop_rounds 1 ?_
  rw [rounds_succ]
  go_wp2_with fail
  go_ret
  exact ⟨rfl, rfl⟩
end
end Go.Proofs.Ytepimaghpjkibaa

/-
  Remove of a relation.
-/
import Derived.Test.YtepimaghpjkibaaTake
import Derived.Test.YtepimaghpjkibaaLike
namespace Go.Proofs.Ytepimaghpjkibaa
open Go.RowKit

section
variable {ops : Array Oper} {rest : List Oper} {o : Oper} {a : Act} {w : World} {Q : Exit → Act → World → Prop} {S : World → Prop} {ks : List Bool}
theorem lex_row_guard (x : Operand) (ho : o.op = .load 34 x) (b off : Nat) (hx : a.eval x = .pointer (some ⟨b, off, none⟩)) (r : Row) (hr : IsRow r) (hc : ∀ W, S W → W.rangeAt b off (rowCells r))
    (hk : wpLex Try.prog ops Q S ks rest (a.put o.dst (rowV r)) w) (hw : Region.wanted o (yielded ops a.tmps) = true) : wpLex Try.prog ops Q S (true :: ks) (o :: rest) a w := by
  refine lex_guard hw (rowV r) (fun W hW => ?_) hk
  unfold execOp
  simp only [ho, hx, Instr.loadAt, Instr.sureAddr, Sem.run_bind, Sem.run_pure, Result.andThen_ok, run_loadRow W hr (hc W hW)]
end

set_option maxRecDepth 100000 in
set_option maxHeartbeats 800000 in
theorem rel_Remove_no {w : World} {R : RelD} (h : RelAt w R) {x : Row} (hx : IsRow x) (hm : x ∉ R.rows) :
    Calls Try.prog 17 #[.pointer (some ⟨R.p, 0, none⟩), rowV x] w fun e w' => e = .returned (.bool false) ∧ Below w.heap.size w w' := by
  have hm' := Lib.hid hm
  clear hm
  have hap := h.ap
  have hh := Lib.hid h
  have hpq : R.p ≠ R.q ∧ R.p ≠ R.m := by
    simp only [RelD.foot, List.nodup_cons, List.mem_cons, not_or] at hap
    exact ⟨hap.1.1, hap.1.2.1⟩
  have lq := h.lt R.q (by simp [RelD.foot])
  have lm := h.lt R.m (by simp [RelD.foot])
  clear h hap
  go_enter Try.func17, Try.ntmps17
  go_wp2_with fail
  refine region_text [] 12 [true, false, true, true, true, true, true, true, true, false, true, true] (by kernel_rfl) (by kernel_rfl) (by intro c a d v w h; cases d <;> exact h) ?_
  intro W1 hWh hF1
  have hF0 : Fr [] w W1 := ((Fr.refl [] w).alloc _).trans' hF1
  have hR1 := hh.out.fr hF0 (by simp)
  have hra1 : W1.rangeAt w.heap.size 0 (rowCells x) := rangeAt_of_heap (by rw [hWh]; exact heap_alloc_new _ _)
  have g2 : ∀ W', Fr [] W1 W' → W'.cell? ⟨R.p, 2, none⟩ = some (.pointer (some ⟨R.q, 0, none⟩)) := fun W' h' => h'.cell hR1.c2 (by simp)
  have gr : ∀ W', Fr [] W1 W' → W'.rangeAt w.heap.size 0 (rowCells x) := fun W' h' => range_fr hra1 h' (by simp)
  clear hWh hra1
  repeat (first | (refine lex_quiet ?_ (fun W' hW' => ?_) ?_; rotate_left; (go_simp; first | done | rfl); (try simp only [Act.put, List.setIfInBounds_toArray, List.set_cons_succ, List.set_cons_zero])) | (refine lex_guard (by rfl) ?_ (fun W' hW' => ?_) ?_; rotate_left; (go_simp; first | done | rfl); (try simp only [Act.put, List.setIfInBounds_toArray, List.set_cons_succ, List.set_cons_zero])) | (refine lex_skip (by rfl) ?_; (try simp only [Act.put, List.setIfInBounds_toArray, List.set_cons_succ, List.set_cons_zero])))
  refine lex_held (fun K9 hK9 => ?_)
  go_wp2_with fail
  refine (rel_there hR1).mono ?_
  rintro e w2 ⟨rfl, rfl⟩
  go_wp2_with fail
  refine hK9 _ _ (Fr.refl _ _) ?_
  try simp only [Act.put, List.setIfInBounds_toArray, List.set_cons_succ, List.set_cons_zero]
  clear hK9
  repeat (first | (refine lex_quiet ?_ (fun W' hW' => ?_) ?_; rotate_left; (go_simp; first | done | rfl); (try simp only [Act.put, List.setIfInBounds_toArray, List.set_cons_succ, List.set_cons_zero])) | (refine lex_row_guard _ rfl w.heap.size 0 rfl x hx gr ?_ (by rfl); (try simp only [Act.put, List.setIfInBounds_toArray, List.set_cons_succ, List.set_cons_zero])) | (refine lex_guard (by rfl) ?_ (fun W' hW' => ?_) ?_; rotate_left; (go_simp; first | done | rfl); (try simp only [Act.put, List.setIfInBounds_toArray, List.set_cons_succ, List.set_cons_zero])) | (refine lex_skip (by rfl) ?_; (try simp only [Act.put, List.setIfInBounds_toArray, List.set_cons_succ, List.set_cons_zero])))
  refine lex_held (fun K9 hK9 => ?_)
  go_wp2_with (go_at_call 37; refine (rel_take_no hR1 hx hm'.out).mono ?_; rintro e w3 ⟨rfl, hB3⟩)
  refine hK9 _ _ (Below.fr hB3 []) ?_
  try simp only [Act.put, List.setIfInBounds_toArray, List.set_cons_succ, List.set_cons_zero]
  clear hK9
  repeat (first | (refine lex_quiet ?_ (fun W' hW' => ?_) ?_; rotate_left; (go_simp; first | done | rfl); (try simp only [Act.put, List.setIfInBounds_toArray, List.set_cons_succ, List.set_cons_zero])) | (refine lex_guard (by rfl) ?_ (fun W' hW' => ?_) ?_; rotate_left; (go_simp; first | done | rfl); (try simp only [Act.put, List.setIfInBounds_toArray, List.set_cons_succ, List.set_cons_zero])) | (refine lex_skip (by rfl) ?_; (try simp only [Act.put, List.setIfInBounds_toArray, List.set_cons_succ, List.set_cons_zero])))
  refine lex_tail ?_
  go_wp2_with fail
  go_ret
  exact ⟨rfl, (hF0.trans' (Below.fr hB3 [])).below (fun _ h => by cases h) (Nat.le_refl _)⟩

set_option maxRecDepth 100000 in
set_option maxHeartbeats 800000 in
theorem rel_Remove_yes {w : World} {R : RelD} (h : RelAt w R) {x : Row} {i : Nat} (hi : R.rows[i]? = some x) (h47 : R.rows.length * 96 ≤ 140737488355328) (hg : R.gone + 1 ≤ 140737488355328) :
    Calls Try.prog 17 #[.pointer (some ⟨R.p, 0, none⟩), rowV x] w fun e w' => ∃ sv, e = .returned (.bool true) ∧ RelAt w' { R with rows := R.rows.eraseIdx i, gone := R.gone + 1, sv := sv } ∧ (∀ k, sv.ownBlock = some k → w.heap.size ≤ k) ∧ Fr [R.p, R.q, R.m] w w' := by
  have hx := h.ok x (List.mem_of_getElem? hi)
  have hi' := Lib.hid hi
  have h47' := Lib.hid h47
  have hg' := Lib.hid hg
  clear hi h47 hg
  have hap := h.ap
  have hh := Lib.hid h
  have hpq : R.p ≠ R.q ∧ R.p ≠ R.m := by
    simp only [RelD.foot, List.nodup_cons, List.mem_cons, not_or] at hap
    exact ⟨hap.1.1, hap.1.2.1⟩
  have lq := h.lt R.q (by simp [RelD.foot])
  have lm := h.lt R.m (by simp [RelD.foot])
  clear h hap
  go_enter Try.func17, Try.ntmps17
  go_wp2_with fail
  refine region_text [R.q, R.m] 12 [true, false, true, true, true, true, true, true, true, false, true, true] (by kernel_rfl) (by kernel_rfl) (by intro c a d v w h; cases d <;> exact h) ?_
  intro W1 hWh hF1
  have hF0 : Fr [] w W1 := ((Fr.refl [] w).alloc _).trans' hF1
  have hR1 := hh.out.fr hF0 (by simp)
  have hra1 : W1.rangeAt w.heap.size 0 (rowCells x) := rangeAt_of_heap (by rw [hWh]; exact heap_alloc_new _ _)
  have g2 : ∀ W', Fr [R.q, R.m] W1 W' → W'.cell? ⟨R.p, 2, none⟩ = some (.pointer (some ⟨R.q, 0, none⟩)) := fun W' h' => h'.cell hR1.c2 (by simp; exact hpq)
  have gr : ∀ W', Fr [R.q, R.m] W1 W' → W'.rangeAt w.heap.size 0 (rowCells x) := fun W' h' => range_fr hra1 h' (by simp; omega)
  clear hWh hra1
  repeat (first | (refine lex_quiet ?_ (fun W' hW' => ?_) ?_; rotate_left; (go_simp; first | done | rfl); (try simp only [Act.put, List.setIfInBounds_toArray, List.set_cons_succ, List.set_cons_zero])) | (refine lex_guard (by rfl) ?_ (fun W' hW' => ?_) ?_; rotate_left; (go_simp; first | done | rfl); (try simp only [Act.put, List.setIfInBounds_toArray, List.set_cons_succ, List.set_cons_zero])) | (refine lex_skip (by rfl) ?_; (try simp only [Act.put, List.setIfInBounds_toArray, List.set_cons_succ, List.set_cons_zero])))
  refine lex_held (fun K9 hK9 => ?_)
  go_wp2_with fail
  refine (rel_there hR1).mono ?_
  rintro e w2 ⟨rfl, rfl⟩
  go_wp2_with fail
  refine hK9 _ _ (Fr.refl _ _) ?_
  try simp only [Act.put, List.setIfInBounds_toArray, List.set_cons_succ, List.set_cons_zero]
  clear hK9
  repeat (first | (refine lex_quiet ?_ (fun W' hW' => ?_) ?_; rotate_left; (go_simp; first | done | rfl); (try simp only [Act.put, List.setIfInBounds_toArray, List.set_cons_succ, List.set_cons_zero])) | (refine lex_row_guard _ rfl w.heap.size 0 rfl x hx gr ?_ (by rfl); (try simp only [Act.put, List.setIfInBounds_toArray, List.set_cons_succ, List.set_cons_zero])) | (refine lex_guard (by rfl) ?_ (fun W' hW' => ?_) ?_; rotate_left; (go_simp; first | done | rfl); (try simp only [Act.put, List.setIfInBounds_toArray, List.set_cons_succ, List.set_cons_zero])) | (refine lex_skip (by rfl) ?_; (try simp only [Act.put, List.setIfInBounds_toArray, List.set_cons_succ, List.set_cons_zero])))
  refine lex_held (fun K9 hK9 => ?_)
  go_wp2_with (go_at_call 37; refine (rel_take_yes hR1 hi'.out h47'.out).mono ?_; rintro e w3 ⟨rfl, sv, hR3, hsv3, hF3⟩)
  refine hK9 _ _ hF3 ?_
  try simp only [Act.put, List.setIfInBounds_toArray, List.set_cons_succ, List.set_cons_zero]
  clear hK9
  repeat (first | (refine lex_quiet ?_ (fun W' hW' => ?_) ?_; rotate_left; (go_simp; first | done | rfl); (try simp only [Act.put, List.setIfInBounds_toArray, List.set_cons_succ, List.set_cons_zero])) | (refine lex_guard (by rfl) ?_ (fun W' hW' => ?_) ?_; rotate_left; (go_simp; first | done | rfl); (try simp only [Act.put, List.setIfInBounds_toArray, List.set_cons_succ, List.set_cons_zero])) | (refine lex_skip (by rfl) ?_; (try simp only [Act.put, List.setIfInBounds_toArray, List.set_cons_succ, List.set_cons_zero])))
  refine lex_tail ?_
  have c1 := hR3.c1
  have z1 := hR3.f1
  have hw1 := wrap64_succ hg'.out
  go_wp2_with fail
  go_ret
  have hFS : Fr [R.p] w3 (w3.setCell ⟨R.p, 1, none⟩ (.int .i64 ((R.gone : Int) + 1))) := (Fr.refl _ _).setCell (Or.inl (by simp)) _
  have hp3 := heap_setCell_same w3 R.p 1 _ _ (.int .i64 ((R.gone : Int) + 1)) hR3.hp
  have hap3 := hR3.ap
  have hns : ∀ k, sv.ownBlock = some k → k ∉ [R.p] := fun k hk hm => by
    simp at hm
    subst hm
    simp [RelD.foot, hk] at hap3
  refine ⟨rfl, sv, ⟨hp3, hFS.heap hR3.hq (by simpa using Ne.symm hpq.1), hFS.ownsRow hR3.hs hns, hR3.hm.fr hFS (by simpa using Ne.symm hpq.2), hR3.nd, hR3.ok, hap3, hR3.ar⟩, fun k hk => Nat.le_trans hF0.size (hsv3 k hk), ?_⟩
  exact ((hF0.mono (by simp)).trans' (hF3.mono (by simp))).trans' (hFS.mono (by simp))
end Go.Proofs.Ytepimaghpjkibaa

import Derived.Test.YtepimaghpjkibaaRel
namespace Go.Proofs.Ytepimaghpjkibaa
open Go.RowKit
theorem numbered_keysOk {rows : List Row} (h : ∀ x ∈ rows, IsRow x) : KeysOk Try.prog 34 (numbered rows) := by
  intro p hp
  simp only [numbered, List.mem_map] at hp
  obtain ⟨q, hq, rfl⟩ := hp
  exact row_keyOf (h q.1 (by have := List.mem_zipIdx' hq; rw [this.2]; exact List.getElem_mem _))

theorem numbered_nodup {rows : List Row} (h : rows.Nodup) : ((numbered rows).map (·.1)).Nodup := by
  have e : (numbered rows).map (·.1) = rows.map rowV := by
    simp only [numbered, List.map_map]
    rw [show ((fun x : Value × Value => x.1) ∘ fun p : Row × Nat => (rowV p.1, Value.int .i64 (p.2 : Int))) = rowV ∘ Prod.fst from rfl, ← List.map_map, List.zipIdx_map_fst]
  rw [e]
  exact List.pairwise_map.2 (h.imp fun hne e => hne (rowV_inj e))

theorem numbered_at {rows : List Row} {i : Nat} {x : Row} (h : rows[i]? = some x) : (numbered rows)[i]? = some (rowV x, .int .i64 i) := by
  simp [numbered, h]

theorem numbered_none {rows : List Row} {x : Row} (h : x ∉ rows) : ∀ p ∈ numbered rows, p.1 ≠ rowV x := by
  intro p hp e
  simp only [numbered, List.mem_map] at hp
  obtain ⟨q, hq, rfl⟩ := hp
  refine h ?_
  rw [← rowV_inj e]
  have := List.mem_zipIdx' hq
  rw [this.2]
  exact List.getElem_mem _

theorem numbered_snoc (rows : List Row) (x : Row) : numbered (rows ++ [x]) = numbered rows ++ [(rowV x, .int .i64 rows.length)] := by
  simp [numbered, List.zipIdx_append]

set_option maxRecDepth 100000 in
set_option maxHeartbeats 400000 in
theorem rel_put_old {w : World} {R : RelD} (h : RelAt w R) {x : Row} (hx : IsRow x) (hm : x ∈ R.rows) :
    Calls Try.prog 39 #[.pointer (some ⟨R.q, 0, none⟩), rowV x] w fun e w' => e = .returned (.bool false) ∧ Below w.heap.size w w' := by
  obtain ⟨i, hi⟩ := List.getElem?_of_mem hm
  obtain ⟨kl, hkl⟩ := row_keyOf hx
  have hlo : ∀ W, MapIs W R.m (numbered R.rows) → (Instr.lookup 111 (.map (some R.m)) (rowV x) true).run Try.prog W = .ok (.tuple #[.int .i64 i, .bool true]) W := fun W hW =>
    hW.look_some Try.rowLaw Try.underlying111 (numbered_keysOk h.ok) hkl (numbered_nodup h.nd) (numbered_at hi) true
  go_enter Try.func39, Try.ntmps39
  go_wp2_with fail
  refine region_lex [] [true, true, true, true, true, true, true, true, true, true, true] (by kernel_rfl) (by kernel_rfl) (by intro c a d v w h; cases d <;> exact h) ?_
  intro W hWh hW
  have hF : Fr [] w W := ((Fr.refl [] w).alloc _).trans' hW
  have hRW := h.fr hF (fun _ _ => List.not_mem_nil)
  have d1 : ∀ W', Fr [] W W' → W'.cell? ⟨R.q, 1, none⟩ = some (.map (some R.m)) := fun W' hW' => hW'.cell hRW.d1 (by simp)
  have hra : ∀ W', Fr [] W W' → W'.rangeAt w.heap.size 0 (rowCells x) := fun W' hW' => by
    have h1 : W.rangeAt w.heap.size 0 (rowCells x) := rangeAt_of_heap (by rw [hWh]; exact heap_alloc_new _ _)
    exact fun j v hv => hW'.cell (h1 j v hv) (by simp)
  have hl2 := fun W' (hW' : Fr [] W W') => hlo W' (hRW.hm.fr hW' (by simp))
  clear h hlo hkl hi hm hRW hWh
  repeat (first | (refine lex_row_load _ rfl w.heap.size 0 rfl x hx hra ?_; (try simp only [Act.put, List.setIfInBounds_toArray, List.set_cons_succ, List.set_cons_zero])) | (refine lex_lookup _ _ _ _ rfl _ _ _ rfl rfl hl2 ?_; (try simp only [Act.put, List.setIfInBounds_toArray, List.set_cons_succ, List.set_cons_zero])) | (refine lex_quiet ?_ (fun W' hW' => ?_) ?_; rotate_left; (go_simp; first | done | rfl); (try simp only [Act.put, List.setIfInBounds_toArray, List.set_cons_succ, List.set_cons_zero])))
  refine lex_tail ?_
  go_wp2
  go_ret
  exact ⟨rfl, ((Below.refl _ _).alloc (Nat.le_refl _) _).trans (hW.below (by simp) (by simp))⟩

theorem put_after {W3 w1 : World} {q m : Nat} {V sv : Value} {X : Obj} {t : TypeId} (hq3 : W3.heap[q]? = some (.cells #[sv, .map (some m)] t (0, 0))) (hgrow : (W3.alloc X).grownBy w1 V.ownBlock) (hne : ∀ k, V.ownBlock = some k → k ≠ q) :
    Fr V.ownBlock.toList W3 w1 ∧ w1.heap[q]? = some (.cells #[sv, .map (some m)] t (0, 0)) ∧ w1.cell? ⟨q, 0, none⟩ = some sv ∧ w1.frozen? ⟨q, 0, none⟩ = false := by
  have hFA : Fr V.ownBlock.toList W3 w1 := ((Fr.refl _ W3).alloc _).grown hgrow (fun k e => Or.inl (by rw [e]; simp))
  have hq1 := hFA.heap hq3 (fun hmem => hne q (by simpa using hmem) rfl)
  refine ⟨hFA, hq1, ?_, frozen_of_row w1 q 0 _ _ hq1⟩
  rw [cell_of_row _ _ _ _ _ _ hq1]
  rfl

set_option maxRecDepth 100000 in
set_option maxHeartbeats 1200000 in
theorem rel_put_new {w : World} {R : RelD} (h : RelAt w R) {x : Row} (hx : IsRow x) (hm : x ∉ R.rows) (hb : (R.rows.length + 1) * 96 ≤ 140737488355328) :
    Calls Try.prog 39 #[.pointer (some ⟨R.q, 0, none⟩), rowV x] w fun e w' => e = .returned (.bool true) ∧
      ∃ sv, RelAt w' { R with rows := R.rows ++ [x], sv := sv } ∧ (∀ k, sv.ownBlock = some k → R.sv.ownBlock = some k ∨ w.heap.size ≤ k) ∧ Fr R.inner w w' := by
  obtain ⟨kl, hkl⟩ := row_keyOf hx
  obtain ⟨i0, hi0, hz0, hz1, hz2⟩ := info_parts Try.info34
  have hlo : ∀ W, MapIs W R.m (numbered R.rows) → (Instr.lookup 111 (.map (some R.m)) (rowV x) true).run Try.prog W = .ok (.tuple #[.int .i64 0, .bool false]) W := fun W hW =>
    hW.look_none Try.rowLaw Try.underlying111 (numbered_keysOk h.ok) hkl (numbered_none hm) (Try.zeroInt W) true
  have hml := rows_length h
  unfold maxLen at hml
  have hap := h.ap
  have lq := h.lt R.q (by simp [RelD.foot])
  have lm := h.hm.lt
  have lp := h.lt R.p (by simp [RelD.foot])
  go_enter Try.func39, Try.ntmps39
  go_wp2_with fail
  -- is it there?
  refine region_lex [] [true, true, true, true, true, true, true, true, true, true, true] (by kernel_rfl) (by kernel_rfl) (by intro c a d v w h; cases d <;> exact h) ?_
  intro W1 hWh1 hW1
  have hF1 : Fr [] w W1 := ((Fr.refl [] w).alloc _).trans' hW1
  have hR1 := h.fr hF1 (fun _ _ => List.not_mem_nil)
  have hra1 : W1.rangeAt w.heap.size 0 (rowCells x) := rangeAt_of_heap (by rw [hWh1]; exact heap_alloc_new _ _)
  have hs1 : W1.heap.size = w.heap.size + 1 := by rw [hWh1]; simp
  have d1 : ∀ W', Fr [] W1 W' → W'.cell? ⟨R.q, 1, none⟩ = some (.map (some R.m)) := fun W' hW' => hW'.cell hR1.d1 (by simp)
  have hra : ∀ W', Fr [] W1 W' → W'.rangeAt w.heap.size 0 (rowCells x) := fun W' hW' => fun j v hv => hW'.cell (hra1 j v hv) (by simp)
  have hl2 := fun W' (hW' : Fr [] W1 W') => hlo W' (hR1.hm.fr hW' (by simp))
  clear hWh1 hlo
  repeat (first | (refine lex_row_load _ rfl w.heap.size 0 rfl x hx hra ?_; (try simp only [Act.put, List.setIfInBounds_toArray, List.set_cons_succ, List.set_cons_zero])) | (refine lex_lookup _ _ _ _ rfl _ _ _ rfl rfl hl2 ?_; (try simp only [Act.put, List.setIfInBounds_toArray, List.set_cons_succ, List.set_cons_zero])) | (refine lex_quiet ?_ (fun W' hW' => ?_) ?_; rotate_left; (go_simp; first | done | rfl); (try simp only [Act.put, List.setIfInBounds_toArray, List.set_cons_succ, List.set_cons_zero])))
  refine lex_tail ?_
  clear d1 hra hl2
  go_wp2_with fail
  -- the map
  refine region_lex [] [true, true, true, true, true, true, true, true, true, true] (by kernel_rfl) (by kernel_rfl) (by intro c a d v w h; cases d <;> exact h) ?_
  intro W hWh hW
  have hF : Fr [] w W := hF1.trans' hW
  have hRW := h.fr hF (fun _ _ => List.not_mem_nil)
  have hraW : W.rangeAt w.heap.size 0 (rowCells x) := fun j v hv => hW.cell (hra1 j v hv) (by simp)
  obtain ⟨sa, sc, hsv⟩ := hRW.slice
  have d0 : ∀ W', Fr [] W W' → W'.cell? ⟨R.q, 0, none⟩ = some (.slice sa R.rows.length sc) := fun W' hW' => hW'.cell (by rw [← hsv]; exact hRW.d0) (by simp)
  have d1 : ∀ W', Fr [] W W' → W'.cell? ⟨R.q, 1, none⟩ = some (.map (some R.m)) := fun W' hW' => hW'.cell hRW.d1 (by simp)
  have hra : ∀ W', Fr [] W W' → W'.rangeAt w.heap.size 0 (rowCells x) := fun W' hW' => fun j v hv => hW'.cell (hraW j v hv) (by simp)
  obtain ⟨W2, hup, hm2, hg2⟩ := hRW.hm.store_none Try.rowLaw Try.underlying111 (numbered_keysOk h.ok) hkl (numbered_none hm) (.int .i64 R.rows.length)
  clear hWh
  repeat (first | (refine lex_row_load _ rfl w.heap.size 0 rfl x hx hra ?_; (try simp only [Act.put, List.setIfInBounds_toArray, List.set_cons_succ, List.set_cons_zero])) | (refine lex_quiet ?_ (fun W' hW' => ?_) ?_; rotate_left; (go_simp; first | done | rfl); (try simp only [Act.put, List.setIfInBounds_toArray, List.set_cons_succ, List.set_cons_zero])))
  refine lex_tail ?_
  clear d0 d1 hra
  go_wp2_with (refine list_mapUpdate rfl rfl _ _ _ _ rfl _ _ _ rfl rfl rfl W2 hup ?_)
  -- the list
  have hFW2 : Fr [R.m] W W2 := (Fr.refl [R.m] W).grown hg2 (fun k e => by cases e; simp)
  refine region_lex R.sv.ownBlock.toList [true, true, true, true, true, true, false, false] (by kernel_rfl) (by kernel_rfl) (by intro c a d v w h; cases d <;> exact h) ?_
  intro W3 hWh3 hW3
  have hFW : Fr [R.m] W W3 := hFW2.trans' (hW3.mono (by simp))
  have hqm : R.q ≠ R.m := by
    intro e
    simp [RelD.foot, e] at hap
  have hsm : ∀ k, R.sv.ownBlock = some k → k ∉ [R.m] := by
    intro k hk e
    simp only [List.mem_singleton] at e
    subst e
    simp [RelD.foot, hk] at hap
  have hs3 : w.heap.size < W3.heap.size := by have h1 := hFW.size; have h2 := hW.size; omega
  have hsq : ∀ k, R.sv.ownBlock = some k → k ≠ R.q ∧ k ≠ R.m ∧ k ≠ R.p ∧ k < w.heap.size := by
    intro k hk
    have h1 := (h.hs.lt k hk).2
    simp only [RelD.foot, hk, Option.toList_some, List.nodup_cons, List.mem_cons, List.not_mem_nil, or_false, not_or] at hap
    omega
  have hpq : R.p ≠ R.q ∧ R.p ≠ R.m := by
    simp only [RelD.foot, List.nodup_cons, List.mem_cons, not_or] at hap
    exact ⟨hap.1.1, hap.1.2.1⟩
  have hq3 := hFW.heap hRW.hq (by simpa using hqm)
  have hp3 := hFW.heap hRW.hp (by simpa using hpq.2)
  have hm3 : MapIs W3 R.m (numbered (R.rows ++ [x])) := by rw [numbered_snoc]; exact hm2.fr hW3 (by simp)
  have hown := hFW.ownsRow hRW.hs hsm
  have hsv3 : W3.cell? ⟨R.q, 0, none⟩ = some R.sv := by rw [cell_of_row _ _ _ _ _ _ hq3]; rfl
  have hqT : R.q ∉ R.sv.ownBlock.toList := fun hmem => (hsq R.q (by simpa using hmem)).1 rfl
  have d0 : ∀ W', Fr R.sv.ownBlock.toList W3 W' → W'.cell? ⟨R.q, 0, none⟩ = some (.slice sa R.rows.length sc) := fun W' hW' => hW'.cell (by rw [← hsv]; exact hsv3) hqT
  have hra : ∀ W', Fr R.sv.ownBlock.toList W3 W' → W'.rangeAt w.heap.size 0 (rowCells x) := fun W' hW' => fun j v hv =>
    hW'.cell (hFW.cell (hraW j v hv) (by simp; omega)) (fun hmem => by have := (hsq _ (by simpa using hmem)).2.2.2; omega)
  have hbox := hown.alloc (.cells (rowCells x).toArray 34)
  have hsT : Fr R.sv.ownBlock.toList W3 (W3.alloc (.cells (rowCells x).toArray 34)) := (Fr.refl _ _).alloc _
  have hsq0 : ∀ k, R.sv.ownBlock = some k → k ≠ R.q := fun k hk => (hsq k hk).1
  have hnews := World.news_of_block (heap_alloc_new W3 (.cells (rowCells x).toArray 34))
  have hob := Lib.hid (show R.sv.ownBlock = (Value.slice sa R.rows.length sc).ownBlock by rw [hsv])
  have hl24 : (rowCells x).length = 1 * 24 := by rw [rowCells_length, hx.1]
  clear hWh3
  rw [hsv] at hbox
  clear hsv
  repeat (first | (refine lex_row_load _ rfl w.heap.size 0 rfl x hx hra ?_; (try simp only [Act.put, List.setIfInBounds_toArray, List.set_cons_succ, List.set_cons_zero])) | (refine lex_quiet ?_ (fun W' hW' => ?_) ?_; rotate_left; (go_simp; first | done | rfl); (try simp only [Act.put, List.setIfInBounds_toArray, List.set_cons_succ, List.set_cons_zero])))
  clear d0 hra
  refine lex_held (fun K hK => ?_)
  refine list_buildRow rfl _ rfl hx rfl ?_
  refine hK _ _ hsT ?_
  simp only [Act.put, List.setIfInBounds_toArray, List.set_cons_succ, List.set_cons_zero]
  refine lex_held (fun K hK => ?_)
  refine wpList_append_lies _ rfl (.tmp 31) (.tmp 33) 22 rfl 0 34 i0 (rowV zeroRow) 24 96 Try.underlying22 hi0 hz0 hz1 hz2 rfl (by omega) (.slice sa R.rows.length sc) R.rows.length (R.rows.flatMap rowCells) rfl hbox ⟨W3.heap.size, 0, none⟩ 1 1 (rowCells x) rfl hl24 hnews (rowCells_cells x) (by omega) (by unfold maxLen; omega) (by omega) (by simp) (W3.heap.size + 1) (by simp) ?_
  intro g cap w1 hown1 hgrow hat hlt
  rw [← hob.out] at hgrow hat
  obtain ⟨hFA, hq1, hc1, hf1⟩ := put_after hq3 hgrow hsq0
  refine hK _ _ hFA ?_
  simp only [Act.put, List.setIfInBounds_toArray, List.set_cons_succ, List.set_cons_zero]
  refine lex_tail ?_
  go_wp2
  go_ret
  have hFS : Fr [R.q] w1 (w1.setCell ⟨R.q, 0, none⟩ (.slice (some ⟨g, 0, none⟩) (R.rows.length + 1) cap)) := (Fr.refl _ _).setCell (Or.inl (by simp)) _
  have hgq : g ≠ R.q ∧ g ≠ R.m ∧ g ≠ R.p := by
    rcases hat with h1 | h1
    · have := hsq g h1; omega
    · omega
  have hFall : Fr R.inner w (w1.setCell ⟨R.q, 0, none⟩ (.slice (some ⟨g, 0, none⟩) (R.rows.length + 1) cap)) :=
    (((hF.mono (by simp)).trans' (hFW.mono (by simp [RelD.inner]))).trans' (hFA.mono (fun y hy => by simp only [RelD.inner, List.mem_cons]; exact Or.inr (Or.inr hy)))).trans' (hFS.mono (by simp [RelD.inner]))
  refine ⟨rfl, .slice (some ⟨g, 0, none⟩) (R.rows.length + 1) cap, ⟨?_, ?_, ?_, ?_, ?_, ?_, ?_, h.ar⟩, ?_, hFall⟩
  · exact hFS.heap (hFA.heap hp3 (fun hmem => (hsq _ (by simpa using hmem)).2.2.1 rfl)) (by simpa using hpq.1)
  · exact heap_setCell_same w1 R.q 0 _ _ _ hq1
  · have e1 : (R.rows ++ [x]).flatMap rowCells = R.rows.flatMap rowCells ++ rowCells x := by simp
    have := hFS.ownsRow hown1 (fun k hk => by simp [Value.ownBlock] at hk; subst hk; simpa using hgq.1)
    simpa [e1] using this
  · exact (hm3.fr hFA (fun hmem => (hsq _ (by simpa using hmem)).2.1 rfl)).fr hFS (by simpa using Ne.symm hqm)
  · exact List.nodup_append.2 ⟨h.nd, by simp, fun a ha b hb e => by simp at hb; subst hb; subst e; exact hm ha⟩
  · intro y hy
    rcases List.mem_append.1 hy with hy | hy
    · exact h.ok y hy
    · simp at hy
      rw [hy]
      exact hx
  · simp only [RelD.foot, Value.ownBlock, Option.toList_some, List.nodup_cons, List.mem_cons, List.not_mem_nil, or_false, not_or, List.nodup_nil, not_false_eq_true, and_true]
    exact ⟨⟨hpq.1, hpq.2, Ne.symm hgq.2.2⟩, ⟨hqm, Ne.symm hgq.1⟩, Ne.symm hgq.2.1⟩
  · intro k hk
    simp [Value.ownBlock] at hk
    subst hk
    rcases hat with h1 | h1
    · exact Or.inl h1
    · exact Or.inr (by omega)
end Go.Proofs.Ytepimaghpjkibaa

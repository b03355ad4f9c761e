/-
  A row taken out of a relation.
-/
import Derived.Test.YtepimaghpjkibaaConcat
import Derived.Test.YtepimaghpjkibaaPut
import Derived.Test.YtepimaghpjkibaaRange
namespace Go.Proofs.Ytepimaghpjkibaa
open Go.RowKit

section
variable {ops : Array Oper} {rest : List Oper} {o : Oper} {a : Act} {w : World} {Q : Exit → Act → World → Prop}
theorem list_clear_of (hgd : o.guard = none) (hd : o.dst = none) (t : TypeId) (x : Operand) (ho : o.op = .call { callee := .builtin .clear, args := #[x], argTypes := #[t] }) (b : Nat) (hx : a.eval x = .map (some b)) (w' : World)
    (hrun : (Builtin.clear_ #[t] o.type #[.map (some b)]).run Try.prog w = .ok (.tuple #[]) w') (h : wpList Try.prog ops Q rest a w') : wpList Try.prog ops Q (o :: rest) a w := by
  refine wpList_plain hgd fun K hK => ?_
  unfold Oper.wp execOp
  simp only [ho, resolve, invoke, builtin, Sem.run_bind, Sem.run_pure, Result.andThen_ok, List.map_toArray, List.map_cons, List.map_nil, hx, hrun]
  refine hK _ _ ?_
  rw [hd]
  exact h
end

set_option maxRecDepth 100000 in
set_option maxHeartbeats 400000 in
theorem rel_take_no {w : World} {R : RelD} (h : RelAt w R) {x : Row} (hx : IsRow x) (hm : x ∉ R.rows) :
    Calls Try.prog 37 #[.pointer (some ⟨R.q, 0, none⟩), rowV x] w fun e w' => e = .returned (.bool false) ∧ Below w.heap.size w w' := by
  obtain ⟨kl, hkl⟩ := row_keyOf hx
  have hlo : ∀ W, MapIs W R.m (numbered R.rows) → (Instr.lookup 111 (.map (some R.m)) (rowV x) true).run Try.prog W = .ok (.tuple #[.int .i64 0, .bool false]) W := fun W hW =>
    hW.look_none Try.rowLaw Try.underlying111 (numbered_keysOk h.ok) hkl (numbered_none hm) (Try.zeroInt W) true
  go_enter Try.func37, Try.ntmps37
  go_wp2_with fail
  refine region_lex [] [true, true, true, true, true, true, true, true, true, true, true] (by kernel_rfl) (by kernel_rfl) (by intro c a d v w h; cases d <;> exact h) ?_
  intro W hWh hW
  have hF : Fr [] w W := ((Fr.refl [] w).alloc _).trans' hW
  have hRW := h.fr hF (fun _ _ => List.not_mem_nil)
  have d1 : ∀ W', Fr [] W W' → W'.cell? ⟨R.q, 1, none⟩ = some (.map (some R.m)) := fun W' hW' => hW'.cell hRW.d1 (by simp)
  have hra : ∀ W', Fr [] W W' → W'.rangeAt w.heap.size 0 (rowCells x) := fun W' hW' => by
    have h1 : W.rangeAt w.heap.size 0 (rowCells x) := rangeAt_of_heap (by rw [hWh]; exact heap_alloc_new _ _)
    exact fun j v hv => hW'.cell (h1 j v hv) (by simp)
  have hl2 := fun W' (hW' : Fr [] W W') => hlo W' (hRW.hm.fr hW' (by simp))
  clear h hlo hkl hm hRW hWh
  repeat (first | (refine lex_row_load _ rfl w.heap.size 0 rfl x hx hra ?_; (try simp only [Act.put, List.setIfInBounds_toArray, List.set_cons_succ, List.set_cons_zero])) | (refine lex_lookup _ _ _ _ rfl _ _ _ rfl rfl hl2 ?_; (try simp only [Act.put, List.setIfInBounds_toArray, List.set_cons_succ, List.set_cons_zero])) | (refine lex_quiet ?_ (fun W' hW' => ?_) ?_; rotate_left; (go_simp; first | done | rfl); (try simp only [Act.put, List.setIfInBounds_toArray, List.set_cons_succ, List.set_cons_zero])))
  refine lex_tail ?_
  go_wp2
  go_ret
  exact ⟨rfl, ((Below.refl _ _).alloc (Nat.le_refl _) _).trans (hW.below (by simp) (by simp))⟩

/-- A row in a slice of rows of one's own. -/
theorem own_range {w : World} {b : Nat} {v : Value} {rows : List Row} (h : w.ownsRow b 34 24 v rows.length (rows.flatMap rowCells)) (hok : ∀ x ∈ rows, IsRow x) {i : Nat} {x : Row} (hi : rows[i]? = some x) :
    ∃ g cap, v = .slice (some ⟨g, 0, none⟩) rows.length cap ∧ w.rangeAt g (i * 24) (rowCells x) := by
  have hil : i < rows.length := (List.getElem?_eq_some_iff.1 hi).1
  obtain ⟨g, cap, hv, hgb, hgl⟩ := h.form (by omega)
  refine ⟨g, cap, hv, fun j u hj => ?_⟩
  have hj24 : j < 24 := by
    have := (List.getElem?_eq_some_iff.1 hj).1
    rwa [rowCells_length, (hok x (List.mem_of_getElem? hi)).1] at this
  have h1 := flat_at hok hi hj24
  rw [rowCells_at (hok x (List.mem_of_getElem? hi)) hj24] at hj
  have := h.cells (g := g) (by rw [hv]; rfl) (24 * i + j) u (by rw [h1, ← hj])
  rw [Addr.add_mid, Nat.zero_add, Nat.mul_comm] at this
  exact this

theorem erase_flat {rows : List Row} (i : Nat) : (rows.take i).flatMap rowCells ++ (rows.drop (i + 1)).flatMap rowCells = (rows.eraseIdx i).flatMap rowCells := by
  rw [List.eraseIdx_eq_take_drop_succ, List.flatMap_append]

theorem take_flat {rows : List Row} (hok : ∀ x ∈ rows, IsRow x) (i : Nat) : (rows.take i).flatMap rowCells = (rows.flatMap rowCells).take (i * 24) := by
  induction rows generalizing i with
  | nil => simp
  | cons y r ih =>
    cases i with
    | zero => simp
    | succ i =>
      have hl : (rowCells y).length = 24 := by rw [rowCells_length, (hok y (by simp)).1]
      rw [List.take_succ_cons, List.flatMap_cons, List.flatMap_cons, ih (fun z hz => hok z (by simp [hz])), List.take_append, hl]
      have e1 : (rowCells y).take ((i + 1) * 24) = rowCells y := List.take_of_length_le (by rw [hl]; omega)
      rw [e1]
      congr 2
      omega

set_option maxRecDepth 100000 in
set_option maxHeartbeats 1600000 in
theorem rel_take_yes {w : World} {R : RelD} (h : RelAt w R) {x : Row} {i : Nat} (hi : R.rows[i]? = some x) (h47 : R.rows.length * 96 ≤ 140737488355328) :
    Calls Try.prog 37 #[.pointer (some ⟨R.q, 0, none⟩), rowV x] w fun e w' => e = .returned (.bool true) ∧ ∃ sv, RelAt w' { R with rows := R.rows.eraseIdx i, sv := sv } ∧ (∀ k, sv.ownBlock = some k → w.heap.size ≤ k) ∧ Fr [R.q, R.m] w w' := by
  have hx := h.ok x (List.mem_of_getElem? hi)
  have hil : i < R.rows.length := (List.getElem?_eq_some_iff.1 hi).1
  obtain ⟨kl, hkl⟩ := row_keyOf hx
  have hlo : ∀ W, MapIs W R.m (numbered R.rows) → (Instr.lookup 111 (.map (some R.m)) (rowV x) true).run Try.prog W = .ok (.tuple #[.int .i64 i, .bool true]) W := fun W hW =>
    hW.look_some Try.rowLaw Try.underlying111 (numbered_keysOk h.ok) hkl (numbered_nodup h.nd) (numbered_at hi) true
  have lq := h.lt R.q (by simp [RelD.foot])
  have lm := h.hm.lt
  have hi' := Lib.hid hi
  have h47' := Lib.hid h47
  clear hi h47
  go_enter Try.func37, Try.ntmps37
  go_wp2_with fail
  refine region_lex [] [true, true, true, true, true, true, true, true, true, true, true] (by kernel_rfl) (by kernel_rfl) (by intro c a d v w h; cases d <;> exact h) ?_
  intro W1 hWh1 hW1
  have hF1 : Fr [] w W1 := ((Fr.refl [] w).alloc _).trans' hW1
  have hR1 := h.fr hF1 (fun _ _ => List.not_mem_nil)
  have d1 : ∀ W', Fr [] W1 W' → W'.cell? ⟨R.q, 1, none⟩ = some (.map (some R.m)) := fun W' hW' => hW'.cell hR1.d1 (by simp)
  have hra1 : W1.rangeAt w.heap.size 0 (rowCells x) := rangeAt_of_heap (by rw [hWh1]; exact heap_alloc_new _ _)
  have hra : ∀ W', Fr [] W1 W' → W'.rangeAt w.heap.size 0 (rowCells x) := fun W' hW' => fun j v hv => hW'.cell (hra1 j v hv) (by simp)
  have hl2 := fun W' (hW' : Fr [] W1 W') => hlo W' (hR1.hm.fr hW' (by simp))
  clear hWh1 hlo hkl
  repeat (first | (refine lex_row_load _ rfl w.heap.size 0 rfl x hx hra ?_; (try simp only [Act.put, List.setIfInBounds_toArray, List.set_cons_succ, List.set_cons_zero])) | (refine lex_lookup _ _ _ _ rfl _ _ _ rfl rfl hl2 ?_; (try simp only [Act.put, List.setIfInBounds_toArray, List.set_cons_succ, List.set_cons_zero])) | (refine lex_quiet ?_ (fun W' hW' => ?_) ?_; rotate_left; (go_simp; first | done | rfl); (try simp only [Act.put, List.setIfInBounds_toArray, List.set_cons_succ, List.set_cons_zero])))
  refine lex_tail ?_
  clear d1 hra hl2 hra1
  go_wp2_with fail
  obtain ⟨g, cap, hsv, hgb, hgl⟩ := hR1.hs.form (by omega)
  have hnc : R.rows.length ≤ cap := by
    rcases hR1.hs.2 with ⟨h1, h2⟩ | ⟨g', cap', cur, h1, _, _, h3, _⟩
    · omega
    · rw [hsv] at h1; simp only [Value.slice.injEq] at h1; omega
  have hcm : cap ≤ maxLen := by
    rcases hR1.hs.2 with ⟨h1, h2⟩ | ⟨g', cap', cur, h1, _, _, _, h3, _⟩
    · omega
    · rw [hsv] at h1; simp only [Value.slice.injEq] at h1; omega
  have hd0 := hR1.d0
  rw [hsv] at hd0
  have c1 : (R.rows.take i).flatMap rowCells = (R.rows.flatMap rowCells).take (i * 24) := take_flat hR1.ok i
  have hlen1 : ((R.rows.take i).flatMap rowCells).length = i * 24 := by rw [flat_length (fun y hy => hR1.ok y (List.mem_of_mem_take hy)), List.length_take, Nat.min_eq_left (by omega)]
  have hlen2 : ((R.rows.drop (i + 1)).flatMap rowCells).length = (R.rows.length - (i + 1)) * 24 := by rw [flat_length (fun y hy => hR1.ok y (List.mem_of_mem_drop hy)), List.length_drop]
  have hone1 : ∀ u ∈ (R.rows.take i).flatMap rowCells, u.oneCell' = true := fun u hu => flat_cells u hu
  have hone2 : ∀ u ∈ (R.rows.drop (i + 1)).flatMap rowCells, u.oneCell' = true := fun u hu => flat_cells u hu
  have hr1 : W1.rangeAt g 0 ((R.rows.take i).flatMap rowCells) := by
    intro j v hv
    rw [c1, List.getElem?_take] at hv
    split at hv
    · have hc := hR1.hs.cells (g := g) (by rw [hsv]; rfl) j v hv
      rw [Addr.add_mid] at hc
      exact hc
    · cases hv
  have hr2 : W1.rangeAt g ((i + 1) * 24) ((R.rows.drop (i + 1)).flatMap rowCells) := by
    intro j v hv
    rw [flat_drop hR1.ok, List.getElem?_drop] at hv
    have hc := hR1.hs.cells (g := g) (by rw [hsv]; rfl) ((i + 1) * 24 + j) v hv
    rw [Addr.add_mid, Nat.zero_add] at hc
    exact hc
  have hgo : ∃ off2 : Nat, W1.rangeAt g off2 ((R.rows.drop (i + 1)).flatMap rowCells) ∧ ((i + 1 = cap ∧ off2 = 0) ∨ (i + 1 ≠ cap ∧ off2 = (i + 1) * 24)) := by
    by_cases hc : i + 1 = cap
    · refine ⟨0, fun j v hv => ?_, Or.inl ⟨hc, rfl⟩⟩
      have := (List.getElem?_eq_some_iff.1 hv).1
      rw [hlen2] at this
      omega
    · exact ⟨_, hr2, Or.inr ⟨hc, rfl⟩⟩
  have hiI : (i : Int) ≤ cap := by omega
  have hi1 : (i : Int) + 1 ≤ R.rows.length := by omega
  have hi2 : (i : Int) + 1 ≤ cap := by omega
  have hwi : IntKind.i64.wrap ((i : Int) + 1) = (i : Int) + 1 := IntWalk.i64_in _ (by have := h47'.out; omega)
  refine region_lex [] [true, true, true, true, true, true, true, true, true, true, true, true, true, true, false, false, false, true] (by kernel_rfl) (by kernel_rfl) (by intro c a d v w h; cases d <;> exact h) ?_
  intro W2 hWh2 hF2
  have f0 : ∀ W', Fr [] W2 W' → W'.cell? ⟨R.q, 0, none⟩ = some (.slice (some ⟨g, 0, none⟩) R.rows.length cap) := fun W' h' => (hF2.trans' h').cell hd0 (by simp)
  clear hWh2 hd0
  repeat (refine lex_quiet ?_ (fun W' hW' => ?_) ?_; rotate_left; (go_simp; first | done | rfl); (try simp only [Act.put, List.setIfInBounds_toArray, List.set_cons_succ, List.set_cons_zero]))
  obtain ⟨off2, hro2, hcase⟩ := hgo
  have hif : (if cap = i + 1 then some (⟨g, 0, none⟩ : Addr) else some ⟨g, (i + 1) * 24, none⟩) = some ⟨g, off2, none⟩ := by
    rcases hcase with ⟨e1, rfl⟩ | ⟨e1, rfl⟩
    · rw [if_pos e1.symm]
    · rw [if_neg (fun e => e1 e.symm)]
  rw [hif]
  clear f0 hif hcase hiI hi1 hi2 hwi
  refine lex_held (fun K9 hK9 => ?_)
  go_wp2_with fail
  have hA2 : Fr [] W2 (W2.alloc (.cells #[.slice (some ⟨g, 0, none⟩) i cap, .slice (some ⟨g, off2, none⟩) (R.rows.length - (i + 1)) (cap - (i + 1))] 22)) := (Fr.refl _ _).alloc _
  refine hK9 _ _ hA2 ?_
  try simp only [Act.put, List.setIfInBounds_toArray, List.set_cons_succ, List.set_cons_zero]
  clear hK9
  have hcon := concat_rows (c := 2) (heap_alloc_new W2 (.cells #[.slice (some ⟨g, 0, none⟩) i cap, .slice (some ⟨g, off2, none⟩) (R.rows.length - (i + 1)) (cap - (i + 1))] 22)) (range_fr hr1 (hF2.trans' hA2) (by simp)) (range_fr hro2 (hF2.trans' hA2) (by simp)) hlen1 hlen2 hone1 hone2 (by have := h47'.out; omega)
  rw [erase_flat] at hcon
  refine lex_held (fun K9 hK9 => ?_)
  go_wp2_with fail
  refine hcon.mono ?_
  rintro e W3 ⟨sv, rfl, hsv3, hB3⟩
  have hF3 : Fr [] W2 W3 := hA2.trans' (Below.fr hB3 [])
  go_wp2_with fail
  refine hK9 _ _ hF3 ?_
  try simp only [Act.put, List.setIfInBounds_toArray, List.set_cons_succ, List.set_cons_zero]
  clear hK9 hcon
  refine lex_held (fun K9 hK9 => ?_)
  go_wp2_with fail
  refine hK9 _ _ hF3 ?_
  try simp only [Act.put, List.setIfInBounds_toArray, List.set_cons_succ, List.set_cons_zero]
  clear hK9
  repeat (refine lex_quiet ?_ (fun W' hW' => ?_) ?_; rotate_left; (go_simp; first | done | rfl); (try simp only [Act.put, List.setIfInBounds_toArray, List.set_cons_succ, List.set_cons_zero]))
  refine lex_tail ?_
  obtain ⟨sa', sc', hsvs⟩ := owns_slice hsv3
  subst hsvs
  have hFw3 : Fr [] w W3 := (hF1.trans' hF2).trans' hF3
  have hR3 := h.fr hFw3 (fun _ _ => List.not_mem_nil)
  have hq3 := hR3.hq
  have q0 := hR3.d0
  have z0 := hR3.z0
  rw [hsv] at q0
  clear hr1 hro2 hr2 c1 hlen1 hlen2 hone1 hone2 hR1
  obtain ⟨rows, hrows⟩ : ∃ rows, rows = R.rows.eraseIdx i := ⟨_, rfl⟩
  have hlen : i + (R.rows.length - (i + 1)) = rows.length := by rw [hrows, List.length_eraseIdx, if_pos hil]; omega
  rw [← hrows] at hsv3
  rw [hlen] at hsv3
  rw [hlen]
  have hrows' := Lib.hid hrows
  clear hlen hrows
  go_upto_region 5 with (fail)
  have hq4 := heap_setCell_same W3 R.q 0 _ _ (.slice sa' rows.length sc') hq3
  have hFS : Fr [R.q] W3 (W3.setCell ⟨R.q, 0, none⟩ (.slice sa' rows.length sc')) := (Fr.refl _ _).setCell (Or.inl (by simp)) _
  generalize W3.setCell ⟨R.q, 0, none⟩ (.slice sa' rows.length sc') = W4 at hq4 hFS ⊢
  have hap := h.ap
  have hqm : R.q ≠ R.m := fun e => by simp [RelD.foot, e] at hap
  have hpq : R.p ≠ R.q ∧ R.p ≠ R.m := by
    simp only [RelD.foot, List.nodup_cons, List.mem_cons, not_or] at hap
    exact ⟨hap.1.1, hap.1.2.1⟩
  have hs3 : w.heap.size ≤ W2.heap.size := (hF1.trans' hF2).size
  have hsvb : ∀ k, (Value.slice sa' rows.length sc').ownBlock = some k → w.heap.size ≤ k ∧ k ≠ R.q ∧ k ≠ R.m := fun k hk => by
    have := (hsv3.lt k hk).1
    simp at this
    omega
  have hm4 : MapIs W4 R.m (numbered R.rows) := hR3.hm.fr hFS (by simpa using Ne.symm hqm)
  have hsv4 := hFS.ownsRow hsv3 (fun k hk hm => (hsvb k hk).2.1 (by simpa using hm))
  have m1 : W4.cell? ⟨R.q, 1, none⟩ = some (.map (some R.m)) := by rw [cell_of_row _ _ 1 _ _ _ hq4]; rfl
  obtain ⟨W5, hrun, hm5, hg5⟩ := hm4.clear (P := Try.prog) (ty := 0) Try.underlying111
  have hF5 : Fr [R.m] W4 W5 := (Fr.refl [R.m] W4).grown hg5 (fun k e => by cases e; simp)
  have hq5 := hF5.heap hq4 (by simpa using hqm)
  have hsv5 := hF5.ownsRow hsv4 (fun k hk hm => (hsvb k hk).2.2 (by simpa using hm))
  have n0 : W5.cell? ⟨R.q, 0, none⟩ = some (.slice sa' rows.length sc') := by rw [cell_of_row _ _ 0 _ _ _ hq5]; rfl
  have hFw4 : Fr [R.q, R.m] w W4 := ((hFw3.mono (by simp)).trans' (hFS.mono (by simp)))
  have hh := Lib.hid h
  have hs5 := Lib.hid hsvb
  clear hR3 hq3 q0 z0 hsv hsv3 hm4 hsv4 hg5 h hap hFw3 hF3 hA2 hB3 hsvb
  go_upto_region 6 with (refine list_clear_of rfl rfl 111 _ rfl R.m rfl W5 hrun ?_)
  go_wp2_with fail
  have hok : ∀ y ∈ rows, IsRow y := fun y hy => hh.out.ok y (List.mem_of_mem_eraseIdx (by rw [← hrows'.out]; exact hy))
  have hnd : rows.Nodup := by rw [hrows'.out]; exact hh.out.nd.sublist (List.eraseIdx_sublist _ _)
  have hok' := Lib.hid hok
  have hnd' := Lib.hid hnd
  have hsv' := Lib.hid hsv5
  have hle : rows.length ≤ R.rows.length := by rw [hrows'.out]; exact (List.eraseIdx_sublist _ _).length_le
  have h47b := Lib.hid (show rows.length * 96 ≤ 140737488355328 by have := h47'.out; omega)
  obtain ⟨n, hn⟩ : ∃ n, n = rows.length := ⟨_, rfl⟩
  rw [← hn]
  have hn' := Lib.hid hn
  clear hn hok hnd hsv5 hle hq4 hFS m1 hrun n0
  go_loopw [7, 8, 47] (fun _ _ ix wr => ∃ k : Nat, k ≤ n ∧ ix = .int .i64 k ∧ MapIs wr R.m (numbered (rows.take k)) ∧ Fr [R.m] W5 wr) (fun _ _ i _ => n - (intOf i).toNat)
  case atStart => exact ⟨0, Nat.zero_le _, rfl, by simpa [numbered] using hm5, Fr.refl _ _⟩
  case round =>
    obtain ⟨k, hk, rfl, hmk, hFk⟩ := hrel
    by_cases hlt : k < n
    · have hltI : (k : Int) < n := by omega
      obtain ⟨y, hy⟩ : ∃ y, rows[k]? = some y := ⟨_, List.getElem?_eq_getElem (by rw [← hn'.out]; exact hlt)⟩
      have hyr := hok'.out y (List.mem_of_getElem? hy)
      obtain ⟨G, cap2, hG, hrk⟩ := own_range (hFk.ownsRow hsv'.out (fun c hc hm => (hs5.out c hc).2.2 (by simpa using hm))) hok'.out hy
      simp only [Value.slice.injEq] at hG
      obtain ⟨rfl, _, rfl⟩ := hG
      have hno : y ∉ rows.take k := fun hm => by
        obtain ⟨j, hj⟩ := List.getElem?_of_mem hm
        have hjk : j < k := by have := (List.getElem?_eq_some_iff.1 hj).1; rw [List.length_take] at this; omega
        rw [List.getElem?_take, if_pos hjk] at hj
        have := (List.getElem?_inj (by rw [← hn'.out]; omega) hnd'.out).1 (hj.trans hy.symm)
        omega
      have htk : numbered (rows.take (k + 1)) = numbered (rows.take k) ++ [(rowV y, .int .i64 k)] := by
        rw [List.take_add_one, hy, Option.toList_some, numbered_snoc, List.length_take, Nat.min_eq_left (by rw [← hn'.out]; omega)]
      have htk' := Lib.hid htk
      have hno' := Lib.hid hno
      have hy' := Lib.hid hy
      have hwk := Lib.hid (wrap64_succ (a := k) (by have := h47b.out; have := hn'.out; omega))
      clear hno hy htk
      go_wp2_with (first | (refine row_load rfl _ rfl G (k * 24) rfl y hyr hrk ?_) | (refine row_store_new rfl _ _ rfl rfl y hyr rfl rfl ?_))
      have hFA : Fr [R.m] W5 (wr.alloc (.cells (rowCells y).toArray 34)) := hFk.alloc _
      have hmA : MapIs (wr.alloc (.cells (rowCells y).toArray 34)) R.m (numbered (rows.take k)) := hmk.fr ((Fr.refl [] _).alloc _) (by simp)
      have hnew := rangeAt_new wr 34 (rowCells y)
      have hqA := hFA.heap hq5 (by simpa using hqm)
      have hXs : W5.heap.size ≤ wr.heap.size := hFk.size
      refine region_lex [] [true, true, true, true, true, true] (by kernel_rfl) (by kernel_rfl) (by intro c a d v w h; cases d <;> exact h) ?_
      intro W6 hWh6 hF6
      have g1 : ∀ W', Fr [] W6 W' → W'.cell? ⟨R.q, 1, none⟩ = some (.map (some R.m)) := fun W' h' => (hF6.trans' h').cell (by rw [cell_of_row _ _ 1 _ _ _ hqA]; rfl) (by simp)
      have gr : ∀ W', Fr [] W6 W' → W'.rangeAt wr.heap.size 0 (rowCells y) := fun W' h' => range_fr hnew (hF6.trans' h') (by simp)
      obtain ⟨kl2, hkl2⟩ := row_keyOf hyr
      have hm6 := hmA.fr hF6 (by simp)
      obtain ⟨W7, hup, hm7, hg7⟩ := hm6.store_none Try.rowLaw Try.underlying111 (numbered_keysOk (fun z hz => hok'.out z (List.mem_of_mem_take hz))) hkl2 (numbered_none hno'.out) (.int .i64 k)
      rw [← htk'.out] at hm7
      have hF7 : Fr [R.m] W6 W7 := (Fr.refl [R.m] W6).grown hg7 (fun k e => by cases e; simp)
      have hFall : Fr [R.m] W5 W7 := (hFA.trans' (hF6.mono (by simp))).trans' hF7
      clear hWh6 hkl2 hmk hmA hm6 hg7 hrk hF7 hFA hFk hqA hnew
      repeat (first | (refine lex_row_load _ rfl wr.heap.size 0 rfl y hyr gr ?_; (try simp only [Act.put, List.setIfInBounds_toArray, List.set_cons_succ, List.set_cons_zero])) | (refine lex_quiet ?_ (fun W' hW' => ?_) ?_; rotate_left; (go_simp; first | done | rfl); (try simp only [Act.put, List.setIfInBounds_toArray, List.set_cons_succ, List.set_cons_zero])))
      refine lex_tail ?_
      clear g1 gr
      go_wp2_with (refine list_mapUpdate rfl rfl _ _ _ _ rfl _ _ _ rfl rfl rfl W7 hup ?_)
      go_roundw
      case rel => exact ⟨k + 1, by omega, by rw [hwk.out], hm7, hFall⟩
      case measure => exact less_step n k _ hwk.out hlt
    · obtain rfl : n = k := by omega
      go_wp2_with fail
      go_ret
      have hfr : Fr [R.q, R.m] w wr := (hFw4.trans' (hF5.mono (by simp))).trans' (hFk.mono (by simp))
      have hown := hFk.ownsRow hsv'.out (fun c hc hm => (hs5.out c hc).2.2 (by simpa using hm))
      refine ⟨rfl, .slice sa' rows.length sc', ?_, fun k hk => (hs5.out k hk).1, hfr⟩
      rw [← hrows'.out]
      rw [List.take_of_length_le (by rw [← hn'.out]; omega)] at hmk
      refine ⟨hfr.heap hh.out.hp (by simp; exact hpq), hFk.heap hq5 (by simpa using hqm), ⟨hown.1, hown.2.imp id fun ⟨g, cap, cur, h1, _, h3⟩ => ⟨g, cap, cur, h1, Nat.zero_le _, h3⟩⟩, hmk, hnd'.out, hok'.out, ?_, hh.out.ar⟩
      have hlp := hh.out.lt R.p (by simp [RelD.foot])
      have hne : ∀ k, (Value.slice sa' rows.length sc').ownBlock = some k → w.heap.size ≤ k := fun k hk => (hs5.out k hk).1
      unfold RelD.foot
      cases hb : (Value.slice sa' rows.length sc').ownBlock with
      | none => simp [hpq, hqm]
      | some k =>
        have := hne k hb
        simp only [Option.toList_some, List.nodup_cons, List.mem_cons, List.not_mem_nil, or_false, not_or, List.nodup_nil, not_false_eq_true, and_true]
        exact ⟨⟨hpq.1, hpq.2, by omega⟩, ⟨hqm, by omega⟩, by omega⟩
end Go.Proofs.Ytepimaghpjkibaa

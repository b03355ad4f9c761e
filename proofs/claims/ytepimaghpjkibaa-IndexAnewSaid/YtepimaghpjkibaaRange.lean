import Derived.Test.YtepimaghpjkibaaClone
import Derived.Shelf.Abstract
import Derived.OwnWalkIn
import Derived.TacticsInMore
import Derived.LoopNIn
import Derived.LoopIn
namespace Go.Proofs.Ytepimaghpjkibaa
open Go.RowKit Go.Shelf
attribute [local go_sem] Oper.semAt_some

abbrev GRow := { x : Row // IsRow x }

def rowAt (rows : List Row) (hok : ∀ x ∈ rows, IsRow x) (i : Nat) : GRow := ⟨rows.getD i zeroRow, by
  rw [List.getD_eq_getElem?_getD]
  cases h : rows[i]? with
  | none => exact zeroRow_is
  | some x => exact hok x (List.mem_of_getElem? h)⟩

/-- k rows from number s on, with their numbers. -/
def items (rows : List Row) (hok : ∀ x ∈ rows, IsRow x) (s k : Nat) : List (Nat × GRow) := (List.range k).map fun j => (s + j, rowAt rows hok (s + j))

theorem items_succ (rows : List Row) (hok : ∀ x ∈ rows, IsRow x) (s k : Nat) : items rows hok s (k + 1) = items rows hok s k ++ [(s + k, rowAt rows hok (s + k))] := by
  simp [items, List.range_succ]
theorem items_length (rows : List Row) (hok : ∀ x ∈ rows, IsRow x) (s k : Nat) : (items rows hok s k).length = k := by simp [items]

/-- Blocks of rows lie as they lay. -/
def KeepsRows (W W' : World) : Prop := ∀ (b : Nat) (arr : Array Value) (fr : Nat × Nat), W.heap[b]? = some (.cells arr 34 fr) → W'.heap[b]? = some (.cells arr 34 fr)

theorem keepsRows_t {A B C : World} (h : KeepsRows A B) (k : KeepsRows B C) : KeepsRows A C := fun b arr fr hb => k b arr fr (h b arr fr hb)
theorem keepsRows_b {w : World} (W : World) (l : Nat) (o o' : Obj) (_ : w.heap.size ≤ l) (h : W.heap[l]? = some o) (hc : o.isCells = false) (_ : o.isWalk = false) : KeepsRows W (W.putObj l o') := fun b arr fr hb => by
  have hne : b ≠ l := fun e => by subst e; rw [h] at hb; cases hb; cases hc
  rw [World.putObj_heap_other hne]; exact hb

theorem below_abides {β : Type} {B : Nat} {J : β → World → Prop} (hJ : AbidesFrom B J) {s : β} {W W' : World} (h : J s W) (hb : Below W.heap.size W W') : J s W' :=
  hJ s W W' none h ⟨hb.os, hb.tape, hb.output, hb.size, fun k hk _ => hb.block k hk⟩ (fun r e => by cases e)

theorem flat_drop : ∀ {rows : List Row} (_ : ∀ x ∈ rows, IsRow x) (s : Nat), (rows.drop s).flatMap rowCells = (rows.flatMap rowCells).drop (s * 24)
  | _, _, 0 => by simp
  | [], _, s + 1 => by simp
  | y :: r, hok, s + 1 => by
    have hl : (rowCells y).length = 24 := by rw [rowCells_length, (hok y (by simp)).1]
    rw [List.drop_succ_cons, flat_drop (fun z hz => hok z (by simp [hz])) s, List.flatMap_cons, List.drop_append, hl, show (rowCells y).drop ((s + 1) * 24) = [] from List.drop_eq_nil_of_le (by rw [hl]; omega), List.nil_append]
    congr 1
    omega

theorem flat_cells {rows : List Row} (u : Value) (h : u ∈ rows.flatMap rowCells) : u.oneCell' = true := by
  obtain ⟨y, _, hu⟩ := List.mem_flatMap.1 h
  exact rowCells_cells y u hu

/-- The rows from number s on, in the relation's slice. -/
theorem range_slice {w : World} {R : RelD} (h : RelAt w R) {s : Nat} (hs : s < R.rows.length) :
    ∃ g cap, R.sv = .slice (some ⟨g, 0, none⟩) R.rows.length cap ∧ w.rangeAt g (s * 24) ((R.rows.drop s).flatMap rowCells) ∧ ((R.rows.drop s).flatMap rowCells).length = (R.rows.length - s) * 24 ∧
      (∀ u ∈ (R.rows.drop s).flatMap rowCells, u.oneCell' = true) ∧ R.rows.length ≤ cap := by
  obtain ⟨g, cap, hsv, hgb, hgl⟩ := h.hs.form (by omega)
  have hcap : R.rows.length ≤ cap := by
    rcases h.hs.2 with ⟨h1, h2⟩ | ⟨g', cap', cur, h1, _, _, h3, _⟩
    · omega
    · rw [hsv] at h1; simp only [Value.slice.injEq] at h1; omega
  refine ⟨g, cap, hsv, ?_, ?_, fun u hu => flat_cells u hu, hcap⟩
  · intro j v hv
    rw [flat_drop h.ok, List.getElem?_drop] at hv
    have hc := h.hs.cells (g := g) (by rw [hsv]; rfl) (s * 24 + j) v hv
    rw [Addr.add_mid, Nat.zero_add] at hc
    exact hc
  · rw [flat_length (fun x hx => h.ok x (List.mem_of_mem_drop hx)), List.length_drop]

theorem flat_part : ∀ {rows : List Row} (_ : ∀ x ∈ rows, IsRow x) {i j : Nat}, i < rows.length → j < 24 → (rows.flatMap rowCells)[24 * i + j]? = (rowCells (rows.getD i zeroRow))[j]? := fun {rows} hok {i j} hi hj => by
  have e : rows.getD i zeroRow = rows[i] := by rw [List.getD_eq_getElem?_getD, List.getElem?_eq_getElem hi]; rfl
  rw [flat_at hok (List.getElem?_eq_getElem hi) hj, e, rowCells_at (hok _ (List.getElem_mem hi)) hj]

theorem clone_at {rows : List Row} (hok : ∀ x ∈ rows, IsRow x) {s k : Nat} {cur : Array Value} {G : Nat} {W : World} (hcur : cur.toList.take ((rows.length - s) * 24) = (rows.drop s).flatMap rowCells) (hk : k < rows.length - s)
    (hG : W.heap[G]? = some (.cells cur 34 (0, 0))) : W.rangeAt G (k * 24) (rowCells (rowAt rows hok (s + k)).1) := by
  intro j v hv
  have hj : j < 24 := by have := (List.getElem?_eq_some_iff.1 hv).1; rwa [rowCells_length, (rowAt rows hok (s + k)).2.1] at this
  rw [cell_of_row _ _ _ _ _ _ hG, ← hv]
  have h1 : cur.toList[k * 24 + j]? = ((rows.drop s).flatMap rowCells)[24 * k + j]? := by rw [← hcur, List.getElem?_take, if_pos (by omega), Nat.mul_comm]
  have h2 := flat_part (rows := rows.drop s) (fun x hx => hok x (List.mem_of_mem_drop hx)) (i := k) (j := j) (by rw [List.length_drop]; exact hk) hj
  rw [h2] at h1
  rw [← Array.getElem?_toList, h1]
  simp [rowAt, List.getD_eq_getElem?_getD]

section
variable {F : Fence} {n : Nat} {ops : Array Oper} {rest : List Oper} {o : Oper} {a : Act} {w : World} {Q : Exit → Act → World → Prop}
theorem row_loadIn (hgd : o.guard = none) (x : Operand) (ho : o.op = .load 34 x) (b off : Nat) (hx : a.eval x = .pointer (some ⟨b, off, none⟩)) (r : Row) (hr : IsRow r) (hc : w.rangeAt b off (rowCells r))
    (h : wpListIn F n Try.prog ops Q rest (a.put o.dst (rowV r)) w) : wpListIn F n Try.prog ops Q (o :: rest) a w := by
  refine wpListIn_plain hgd fun K hK => ⟨fun f hf => by simp [Oper.about, ho] at hf, ?_⟩
  rw [Oper.semAt_eq _ _ _ (by rw [ho]; intro c hc; cases hc)]
  unfold execOp
  simp only [ho, hx, Instr.loadAt, Instr.sureAddr, Sem.run_bind, Sem.run_pure, Result.andThen_ok, run_loadRow w hr hc]
  exact hK _ _ h

theorem row_store_newIn {w0 : World} {old : Array Value} (hgd : o.guard = none) (x y : Operand) (ho : o.op = .store 34 x y) (hx : a.eval x = .pointer (some ⟨w0.heap.size, 0, none⟩)) (r : Row) (hr : IsRow r) (hy : a.eval y = rowV r)
    (hs : old.size = 24) (h : wpListIn F n Try.prog ops Q rest (a.put o.dst undef) (w0.alloc (.cells (rowCells r).toArray 34))) : wpListIn F n Try.prog ops Q (o :: rest) a (w0.alloc (.cells old 34)) := by
  have hrun := run_storeVar_row (P := Try.prog) (w0.alloc (.cells old 34)) w0.heap.size 34 34 old (rowCells r).toArray (heap_alloc_new _ _) (by rw [Try.sizeRow, rowCells_size hr]) (by rw [hs, rowCells_size hr]) (rowCells_all r)
  have he : (w0.alloc (.cells old 34)).setRow w0.heap.size (rowCells r).toArray = w0.alloc (.cells (rowCells r).toArray 34) := setRow_alloc_last w0 old (rowCells r).toArray 34
  rw [he] at hrun
  refine wpListIn_plain hgd fun K hK => ⟨fun f hf => by simp [Oper.about, ho] at hf, ?_⟩
  rw [Oper.semAt_eq _ _ _ (by rw [ho]; intro c hc; cases hc)]
  unfold execOp
  simp only [ho, hx, hy, rowV, Instr.storeAt, Instr.sureAddr, Sem.run_bind, Sem.run_pure, Result.andThen_ok, hrun]
  exact hK _ _ h
end

set_option maxRecDepth 100000 in
set_option maxHeartbeats 400000 in
theorem range_stops {w : World} {R : RelD} (hR : RelAt w R) (n : Nat) {A B C : Nat} {s : Nat} (hA : w.cell? ⟨A, 0, none⟩ = some (.pointer (some ⟨R.p, 0, none⟩))) (hBc : w.cell? ⟨B, 0, none⟩ = some (.int .i64 s))
    (hC : w.cell? ⟨C, 0, none⟩ = some (.int .i64 R.rows.length)) (h47 : R.rows.length * 96 ≤ 140737488355328) :
    SeqStopsK Fence.wide n Try.prog 57 #[.pointer (some ⟨A, 0, none⟩), .pointer (some ⟨B, 0, none⟩), .pointer (some ⟨C, 0, none⟩)] (fun x : Nat × GRow => #[.int .i64 x.1, rowV x.2.1]) KeepsRows
      (fun xs => xs = items R.rows hR.ok s (R.rows.length - s)) (fun _ => True) (R.rows.length - s) w := by
  intro l J Jx W hW hJ hJx hY h0
  have hRW := hR.below hW
  have hA' := (hW.cell (World.block_lt_of_cell? w _ hA)).trans hA
  have hB' := (hW.cell (World.block_lt_of_cell? w _ hBc)).trans hBc
  have hC' := (hW.cell (World.block_lt_of_cell? w _ hC)).trans hC
  have hlen := rel_Len hRW
  have c2 := hRW.c2
  have d0 := hRW.d0
  have hok := hR.ok
  obtain ⟨sa, sc, hsv⟩ := hRW.slice
  rw [hsv] at d0
  have h47' := Lib.hid h47
  have HR := Lib.hid hRW
  clear h47 hA hBc hC
  refine callsIn_of_wp Try.func57 rfl trivial ?_ rfl
  simp only [Try.ntmps57, List.size_toArray, List.length_cons, List.length_nil, Nat.reduceAdd, Nat.reduceSub, Array.replicate_succ, Array.replicate_zero, List.push_toArray, List.append_toArray, List.nil_append, List.cons_append]
  refine wpIn_wide.2 ?_
  go_wp2_with (go_at_call 9; refine hlen.mono ?_; rintro e w' ⟨rfl, rfl⟩)
  refine region_lex [] [true, true, true, true, true, true, true] (by kernel_rfl) (by kernel_rfl) (by intro c a d v w h; cases d <;> exact h) ?_
  intro W1 hWh hF1
  have hA1 : ∀ W', Fr [] W1 W' → W'.cell? ⟨A, 0, none⟩ = some (.pointer (some ⟨R.p, 0, none⟩)) := fun W' h' => (hF1.trans' h').cell hA' (by simp)
  have hB1 : ∀ W', Fr [] W1 W' → W'.cell? ⟨B, 0, none⟩ = some (.int .i64 s) := fun W' h' => (hF1.trans' h').cell hB' (by simp)
  have hC1 : ∀ W', Fr [] W1 W' → W'.cell? ⟨C, 0, none⟩ = some (.int .i64 R.rows.length) := fun W' h' => (hF1.trans' h').cell hC' (by simp)
  clear hWh hA' hB' hC'
  repeat (refine lex_quiet ?_ (fun W' hW' => ?_) ?_; rotate_left; (go_simp; first | done | rfl); (try simp only [Act.put, List.setIfInBounds_toArray, List.set_cons_succ, List.set_cons_zero]))
  refine lex_tail ?_
  have hA2 := hA1 W1 (Fr.refl _ _)
  by_cases hs : s < R.rows.length
  · obtain ⟨g, cap, h1, h2, h3, h4, hgl⟩ := range_slice (HR.out.fr hF1 (by simp)) hs
    have c2' := hF1.cell c2 (by simp)
    have d0' := hF1.cell d0 (by simp)
    rw [← hsv, h1] at d0'
    have hF1' := hF1
    clear c2 d0 hsv hlen hA1 hB1 hC1 h1 hRW hF1
    have hcl := fun (c : Nat) => clone_rows (w := W1) (g := g) (off := s * 24) (cap := c) (k := R.rows.length - s) (cs := (R.rows.drop s).flatMap rowCells) (by omega) h3 h4 h2 (by have := h47'.out; omega)
    go_wp2_with (go_at_call 58; (refine (hcl _).mono ?_; rintro e W2 ⟨G, cap', cur, rfl, hG, hcur, hB2⟩))
    have hJ2 : J [] W2 := below_abides hJ h0 ((hF1'.below (fun _ h => by cases h) (Nat.le_refl _)).trans (hB2.mono hF1'.size))
    refine (wpIn_wide (n := n)).1 ?_
    gi_loopw [32] (fun i wr => ∃ k : Nat, k ≤ R.rows.length - s ∧ i = .int .i64 k ∧ J (items R.rows hok s k) wr ∧ wr.heap[G]? = some (.cells cur 34 (0, 0))) (fun i _ => (R.rows.length - s) - (intOf i).toNat)
    case atStart => exact ⟨0, Nat.zero_le _, rfl, hJ2, hG⟩
    case round =>
      obtain ⟨k, hk, rfl, hJs, hGr⟩ := hrel
      by_cases hlt : k < R.rows.length - s
      · have hwr : wrap64 ((s : Int) + k) = (s : Int) + k := by have := h47'.out; unfold wrap64; omega
        have hwk : wrap64 ((k : Int) + 1) = (k : Int) + 1 := by have := h47'.out; unfold wrap64; omega
        have hra := clone_at hok hcur hlt hGr
        have hlt' : (k : Int) < ((R.rows.length - s : Nat) : Int) := by omega
        obtain ⟨x, hx⟩ : ∃ x, rowAt R.rows hok (s + k) = x := ⟨_, rfl⟩
        rw [hx] at hra
        have hJA : J (items R.rows hok s k) (wr.alloc (.cells (rowCells x.1).toArray 34)) := below_abides hJ hJs ((Below.refl _ _).alloc (Nat.le_refl _) _)
        obtain ⟨fn, tmps, assign, body, hy, hRd⟩ := hY _ (s + k, x) _ hJA (by rw [items_length]; exact hlt)
        simp only [Int.natCast_add] at hy
        have hnew := rangeAt_new wr 34 (rowCells x.1)
        have hGA : (wr.alloc (.cells (rowCells x.1).toArray 34)).heap[G]? = some (.cells cur 34 (0, 0)) := (Below.heap_alloc _ _ _ (Array.getElem?_eq_some_iff.1 hGr).1).trans hGr
        gi_wp2_with (first | (refine row_loadIn rfl _ rfl G (k * 24) rfl x.1 x.2 hra ?_) | (refine row_store_newIn rfl _ _ rfl rfl x.1 x.2 rfl rfl ?_) | (refine row_loadIn rfl _ rfl wr.heap.size 0 rfl x.1 x.2 hnew ?_))
        refine ⟨fun h => (by cases h), hRd.mono ?_⟩
        rintro e W3 (⟨rfl, hJ3, hk3⟩ | ⟨rfl, hJx3⟩)
        · gi_wp2
          go_roundw
          case rel => exact ⟨k + 1, by omega, by rw [hwk]; rfl, by rw [items_succ, hx]; exact hJ3, hk3 _ _ _ hGA⟩
          case measure => rw [hwk]; simp only [intOf]; omega
        · gi_wp2
          refine bodyPost_ret (results_none rfl _ _ _) rfl ?_
          exact ⟨⟨_, rfl⟩, .inr ⟨_, trivial, hJx3⟩⟩
      · obtain rfl : k = R.rows.length - s := by omega
        gi_wp2
        go_end0
        exact ⟨⟨_, rfl⟩, .inl ⟨_, rfl, hJs⟩⟩
  · go_wp2_with fail
    refine bodyPost_ret (results_none rfl _ _ _) rfl ?_
    have e0 : R.rows.length - s = 0 := by omega
    refine ⟨⟨_, rfl⟩, Or.inl ?_⟩
    show J [] W1
    exact below_abides hJ h0 (hF1.below (fun _ h => by cases h) (Nat.le_refl _))
end Go.Proofs.Ytepimaghpjkibaa

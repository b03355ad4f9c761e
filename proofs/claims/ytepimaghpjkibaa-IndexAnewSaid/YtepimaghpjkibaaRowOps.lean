/-
  Rows by value at the operations of a walk: loaded out of the middle of a block, stored into a variable of their own, handed back.
-/
import Derived.Test.YtepimaghpjkibaaFacts
import Derived.Test.YtepimaghpjkibaaLex
import Derived.Lib.SliceRun
import Derived.StillTailTactics
import Derived.Deep.AppendLies
import Derived.Deep.RegionHeld3
import Derived.Deep.QuietTactic
import Derived.BigQuiet
import Derived.Outline
namespace Go.Proofs.Ytepimaghpjkibaa
open Go.RowKit

theorem rowCells_cells (x : Row) : ∀ v ∈ rowCells x, v.oneCell' = true := by
  intro v hv
  simp only [rowCells, List.mem_map] at hv
  obtain ⟨y, _, rfl⟩ := hv
  rfl

theorem rowCells_all (x : Row) : (rowCells x).toArray.all (·.oneCell') = true := all_oneCell_toArray (rowCells_cells x)

theorem rowCells_size {x : Row} (h : IsRow x) : (rowCells x).toArray.size = 24 := by simp [rowCells_length, h.1]

section
variable {ops : Array Oper} {rest : List Oper} {o : Oper} {a : Act} {w : World} {Q : Exit → Act → World → Prop} {n : Nat} {F : Fence}

theorem sizeRow_len {x : Row} (h : IsRow x) : (Try.prog.info? 34).map (·.size) = some (rowCells x).length := by rw [Try.sizeRow, rowCells_length, h.1]

theorem run_loadRow (w : World) {b off : Nat} {r : Row} (hr : IsRow r) (hc : w.rangeAt b off (rowCells r)) : (loadVar 34 ⟨b, off, none⟩).run Try.prog w = .ok (rowV r) w :=
  run_loadVar_mid w b off 34 (rowCells r) _ hc Try.underlying34 rfl (sizeRow_len hr)

theorem row_load (hgd : o.guard = none) (x : Operand) (ho : o.op = .load 34 x) (b off : Nat) (hx : a.eval x = .pointer (some ⟨b, off, none⟩)) (r : Row) (hr : IsRow r) (hc : w.rangeAt b off (rowCells r))
    (h : wpList Try.prog ops Q rest (a.put o.dst (rowV r)) w) : wpList Try.prog ops Q (o :: rest) a w :=
  wpList_load_mid hgd 34 x ho b off hx (rowCells r) _ hc Try.underlying34 rfl (sizeRow_len hr) h

theorem row_store_new {w0 : World} {old : Array Value} (hgd : o.guard = none) (x y : Operand) (ho : o.op = .store 34 x y) (hx : a.eval x = .pointer (some ⟨w0.heap.size, 0, none⟩)) (r : Row) (hr : IsRow r) (hy : a.eval y = rowV r)
    (hs : old.size = 24) (h : wpList Try.prog ops Q rest (a.put o.dst undef) (w0.alloc (.cells (rowCells r).toArray 34))) : wpList Try.prog ops Q (o :: rest) a (w0.alloc (.cells old 34)) := by
  have hrun := run_storeVar_row (P := Try.prog) (w0.alloc (.cells old 34)) w0.heap.size 34 34 old (rowCells r).toArray (heap_alloc_new _ _) (by rw [Try.sizeRow, rowCells_size hr]) (by rw [hs, rowCells_size hr]) (rowCells_all r)
  have he : (w0.alloc (.cells old 34)).setRow w0.heap.size (rowCells r).toArray = w0.alloc (.cells (rowCells r).toArray 34) := setRow_alloc_last w0 old (rowCells r).toArray 34
  rw [he] at hrun
  refine wpList_plain hgd fun K hK => ?_
  unfold Oper.wp execOp
  simp only [ho, hx, hy, rowV, Instr.storeAt, Instr.sureAddr, Sem.run_bind, Sem.run_pure, Result.andThen_ok, hrun]
  exact hK _ _ h
end

theorem results_row_tmp {fn : Func} {p t : Tmp} (h : fn.results = #[.cell p 34, .tmp t]) (tmps : Array Value) (w : World) (g : Nat) (r : Row) (hr : IsRow r) (hp : tmps.getD p undef = .pointer (some ⟨g, 0, none⟩))
    (hc : w.rangeAt g 0 (rowCells r)) : (results fn tmps).run Try.prog w = .ok (.tuple #[rowV r, tmps.getD t undef]) w := by
  have hp' : tmps[p]?.getD undef = .pointer (some ⟨g, 0, none⟩) := by simpa using hp
  simp [results, h, hp', asAddr, run_loadRow w hr hc]

theorem results_row {fn : Func} {p : Tmp} (h : fn.results = #[.cell p 34]) (tmps : Array Value) (w : World) (g : Nat) (r : Row) (hr : IsRow r) (hp : tmps.getD p undef = .pointer (some ⟨g, 0, none⟩))
    (hc : w.rangeAt g 0 (rowCells r)) : (results fn tmps).run Try.prog w = .ok (rowV r) w := by
  have hp' : tmps[p]?.getD undef = .pointer (some ⟨g, 0, none⟩) := by simpa using hp
  simp [results, h, hp', asAddr, run_loadRow w hr hc]

theorem run_eqlRows (w : World) {x y : Row} (hx : IsRow x) (hy : IsRow y) : (Op.equal 34 (rowV x) (rowV y)).run Try.prog w = .ok (decide (x = y)) w := by
  obtain ⟨lx, h1⟩ := row_keyOf hx
  obtain ⟨ly, h2⟩ := row_keyOf hy
  obtain ⟨r, hr, hiff⟩ := run_equal_deep w (m := 3) (Nat.le_of_ble_eq_true rfl) Try.rowDeep (by rw [Try.underlying34]) h1 h2
  rw [hr]
  have hiff' : r = true ↔ x = y := by
    rw [hiff]
    constructor
    · intro e
      subst e
      exact rowV_inj (Try.rowLaw.inj h1 h2)
    · intro e
      subst e
      rw [h1] at h2
      exact Option.some.inj h2
  by_cases e : x = y
  · rw [hiff'.2 e]; simp [e]
  · cases r
    · simp [e]
    · exact absurd (hiff'.1 rfl) e

theorem run_rowsEql (w : World) {x y : Row} (hx : IsRow x) (hy : IsRow y) : (binOp .eql 34 (rowV x) (rowV y)).run Try.prog w = .ok (.bool (decide (x = y))) w := by
  have h := run_eqlRows w hx hy
  simp only [rowV] at h ⊢
  simp only [binOp]
  simp [h]

theorem run_rowsNeq (w : World) {x y : Row} (hx : IsRow x) (hy : IsRow y) : (binOp .neq 34 (rowV x) (rowV y)).run Try.prog w = .ok (.bool (!decide (x = y))) w := by
  have h := run_eqlRows w hx hy
  simp only [rowV] at h ⊢
  simp only [binOp]
  simp [h]

theorem rangeAt_new (w : World) (t : TypeId) (cs : List Value) : (w.alloc (.cells cs.toArray t)).rangeAt w.heap.size 0 cs := by
  intro j v hv
  rw [cell_of_row _ _ _ _ _ _ (heap_alloc_new w _)]
  simpa using hv

theorem rangeAt_of_heap {w : World} {g : Nat} {cs : List Value} {t : TypeId} {fr : Nat × Nat} (h : w.heap[g]? = some (.cells cs.toArray t fr)) : w.rangeAt g 0 cs := by
  intro j v hv
  rw [cell_of_row _ _ _ _ _ _ h]
  simpa using hv

theorem Try.rowNoGuard : Try.prog.eqGuardType Try.prog.depth 34 = false := by kernel_rfl

theorem run_rowGuard (op : BinOp) (x y : Operand) (a b : Row) (w : World) : (eqGuard op 34 x y (rowV a) (rowV b)).run Try.prog w = .ok () w := by
  unfold eqGuard rowV
  cases op <;> simp

section
variable {ops : Array Oper} {rest : List Oper} {o : Oper} {a : Act} {w : World} {Q : Exit → Act → World → Prop}

theorem row_eql (hgd : o.guard = none) (x y : Operand) (ty : TypeId) (ho : o.op = .binOp .eql 34 x y ty) {r s : Row} (hr : IsRow r) (hs : IsRow s) (hx : a.eval x = rowV r) (hy : a.eval y = rowV s)
    (h : wpList Try.prog ops Q rest (a.put o.dst (.bool (decide (r = s)))) w) : wpList Try.prog ops Q (o :: rest) a w := by
  refine wpList_plain hgd fun K hK => ?_
  unfold Oper.wp execOp
  simp only [ho, hx, hy, Sem.run_bind, run_rowGuard, Result.andThen_ok, run_rowsEql w hr hs, Sem.run_pure]
  exact hK _ _ h

theorem row_neq (hgd : o.guard = none) (x y : Operand) (ty : TypeId) (ho : o.op = .binOp .neq 34 x y ty) {r s : Row} (hr : IsRow r) (hs : IsRow s) (hx : a.eval x = rowV r) (hy : a.eval y = rowV s)
    (h : wpList Try.prog ops Q rest (a.put o.dst (.bool (!decide (r = s)))) w) : wpList Try.prog ops Q (o :: rest) a w := by
  refine wpList_plain hgd fun K hK => ?_
  unfold Oper.wp execOp
  simp only [ho, hx, hy, Sem.run_bind, run_rowGuard, Result.andThen_ok, run_rowsNeq w hr hs, Sem.run_pure]
  exact hK _ _ h

theorem row_build0 (hgd : o.guard = none) (ho : o.op = .build 34 #[]) (h : wpList Try.prog ops Q rest (a.put o.dst (rowV zeroRow)) w) : wpList Try.prog ops Q (o :: rest) a w := by
  refine wpList_plain hgd fun K hK => ?_
  have hbu : (Instr.build 34 #[]).run Try.prog w = .ok (rowV zeroRow) w := by kernel_rfl
  unfold Oper.wp execOp
  simp only [ho, List.map_toArray, List.map_nil, Sem.run_bind, hbu, Result.andThen_ok, Sem.run_pure]
  exact hK _ _ h
end

theorem foldl_fill : ∀ (l : List Value) (n : Nat) (arr : Array Value), n + l.length = arr.size →
    (l.zipIdx n).foldl (fun cs p => cs.setIfInBounds p.2 p.1) arr = (arr.toList.take n ++ l).toArray
  | [], n, arr, h => by
    have h' : n = arr.size := by simpa using h
    subst h'
    rw [List.take_of_length_le (by simp)]
    simp
  | v :: r, n, arr, h => by
    have h1 : n + 1 + r.length = (arr.setIfInBounds n v).size := by simp at h ⊢; omega
    have hn : n < arr.toList.length := by simp at h ⊢; omega
    rw [List.zipIdx_cons, List.foldl_cons]
    simp only
    rw [foldl_fill r (n + 1) _ h1]
    congr 1
    rw [Array.toList_setIfInBounds, List.take_succ_eq_append_getElem (by simpa using hn), List.take_set]
    rw [List.set_eq_of_length_le (by rw [List.length_take]; omega)]
    simp

theorem fill_row {r : Row} (hr : IsRow r) (Z : Array Value) (hZ : Z.size = 24) : Instr.fill (fun i => some (i * 24, 24)) Z [(0, rowV r)] = some (rowCells r).toArray := by
  have hl : (rowCells r).length = 24 := by rw [rowCells_length, hr.1]
  unfold Instr.fill
  simp only [Value.cells, List.size_toArray, hl, Nat.zero_mul, Nat.zero_add, hZ]
  rw [if_neg (by simp)]
  unfold Instr.fill
  congr 1
  rw [← Array.foldl_toList, Array.toList_zipIdx]
  rw [foldl_fill _ 0 _ (by simp [hl, hZ])]
  simp

theorem run_buildRow (w : World) {r : Row} (hr : IsRow r) : (Instr.buildSlice 22 1 #[(0, rowV r)]).run Try.prog w = .ok (.slice (some ⟨w.heap.size, 0, none⟩) 1 1) (w.alloc (.cells (rowCells r).toArray 34)) := by
  have hsz : (sizeOf 34).run Try.prog w = .ok 24 w := by kernel_rfl
  have hz : (zeroValue 34).run Try.prog w = .ok (rowV zeroRow) w := by kernel_rfl
  have hl : (rowCells r).length = 24 := by rw [rowCells_length, hr.1]
  have hzl : (rowCells zeroRow).length = 24 := by rw [rowCells_length]; rfl
  unfold Instr.buildSlice
  simp [run_underlying Try.underlying22, hsz]
  rw [fill_row hr _ (by simp)]
  simp [go_sem]
section
variable {ops : Array Oper} {rest : List Oper} {o : Oper} {a : Act} {w : World} {Q : Exit → Act → World → Prop}
/-- '[]Row{x}': one row in a block of its own. -/
theorem list_buildRow (hgd : o.guard = none) (x : Operand) (ho : o.op = .buildSlice 22 1 #[(0, x)]) {r : Row} (hr : IsRow r) (hx : a.eval x = rowV r)
    (h : wpList Try.prog ops Q rest (a.put o.dst (.slice (some ⟨w.heap.size, 0, none⟩) 1 1)) (w.alloc (.cells (rowCells r).toArray 34))) : wpList Try.prog ops Q (o :: rest) a w := by
  refine wpList_plain hgd fun K hK => ?_
  unfold Oper.wp execOp
  simp only [ho, hx, List.map_toArray, List.map_cons, List.map_nil, Sem.run_bind, Sem.run_pure, Result.andThen_ok, run_buildRow w hr]
  exact hK _ _ h
end

/-! ### steps of a region that draws its order, whose head only reads -/
section
variable {P : Program} {ops : Array Oper} {rest : List Oper} {o : Oper} {a : Act} {w : World} {Q : Act → Prop} {Q' : Exit → Act → World → Prop}

theorem still_run (hgd : o.guard = none) (v : Value) (h : (execOp a.eval o).run P w = .ok (.value v) w) (hk : wpStill P ops w Q rest (a.put o.dst v)) : wpStill P ops w Q (o :: rest) a := by
  refine wpStill_step fun K hK => ?_
  rw [if_pos (by simp [Region.wanted, hgd])]
  unfold Oper.still
  rw [h]
  exact ⟨rfl, hK _ hk⟩

/-- A region whose first n operations only read, the others in one forced order: behind the draw the world is any that holds what w holds. -/
theorem region_tail {id : Nat} {l : List Oper} (n : Nat) (hm : P.follows .mixedOrders = true) (hB : Region.lexTailB .any l.toArray n = true)
    (h : ∀ W : World, W.heap = w.heap → Fr [] w W → wpStill P l.toArray W (fun a' => wpList P l.toArray Q' (l.drop n) a' W) (l.take n) a) : (Code.region id l.toArray true).wp P Q' a w :=
  wp_region_still_tail n hm hB (h _ rfl ⟨rfl, rfl, rfl, Nat.le_refl _, fun _ _ _ => rfl⟩)

theorem still_row_load (hgd : o.guard = none) (x : Operand) (ho : o.op = .load 34 x) (b off : Nat) (hx : a.eval x = .pointer (some ⟨b, off, none⟩)) (r : Row) (hr : IsRow r) (hc : w.rangeAt b off (rowCells r))
    (hk : wpStill Try.prog ops w Q rest (a.put o.dst (rowV r))) : wpStill Try.prog ops w Q (o :: rest) a := by
  refine still_run hgd (rowV r) ?_ hk
  unfold execOp
  simp only [ho, hx, Instr.loadAt, Instr.sureAddr, Sem.run_bind, Sem.run_pure, Result.andThen_ok, run_loadRow w hr hc]

theorem still_lookup (hgd : o.guard = none) (t : TypeId) (m x : Operand) (c : Bool) (ho : o.op = .lookup t m x c) (mv kv v : Value) (hm : a.eval m = mv) (hx : a.eval x = kv) (hrun : (Instr.lookup t mv kv c).run P w = .ok v w)
    (hk : wpStill P ops w Q rest (a.put o.dst v)) : wpStill P ops w Q (o :: rest) a := by
  refine still_run hgd v ?_ hk
  unfold execOp
  simp only [ho, hm, hx, Sem.run_bind, Sem.run_pure, Result.andThen_ok, hrun]

theorem lex_lookup {S : World → Prop} {ks : List Bool} (t : TypeId) (m x : Operand) (c : Bool) (ho : o.op = .lookup t m x c) (mv kv v : Value) (hm : a.eval m = mv) (hx : a.eval x = kv) (hrun : ∀ W, S W → (Instr.lookup t mv kv c).run P W = .ok v W)
    (hk : wpLex P ops Q' S ks rest (a.put o.dst v) w) (hgd : o.guard = none := by rfl) : wpLex P ops Q' S (true :: ks) (o :: rest) a w := by
  refine lex_quiet v (fun W hW => ?_) hk hgd
  unfold execOp
  simp only [ho, hm, hx, Sem.run_bind, Sem.run_pure, Result.andThen_ok, hrun W hW]

/-- A store into a map, its run known. -/
theorem list_mapUpdate (hgd : o.guard = none) (hd : o.dst = none) (t : TypeId) (m x y : Operand) (ho : o.op = .mapUpdate t m x y) (mv kv v : Value) (hm : a.eval m = mv) (hx : a.eval x = kv) (hy : a.eval y = v) (w' : World)
    (hrun : (Instr.mapUpdate t mv kv v).run P w = .ok () w') (h : wpList P ops Q' rest a w') : wpList P ops Q' (o :: rest) a w := by
  refine wpList_plain hgd fun K hK => ?_
  unfold Oper.wp execOp
  simp only [ho, hm, hx, hy, Sem.run_bind, Sem.run_pure, Result.andThen_ok, hrun]
  refine hK _ _ ?_
  rw [hd]
  exact h

/-- A look-up in a map, its run known. -/
theorem list_lookup (hgd : o.guard = none) (t : TypeId) (m x : Operand) (c : Bool) (ho : o.op = .lookup t m x c) (mv kv v : Value) (hm : a.eval m = mv) (hx : a.eval x = kv) (hrun : (Instr.lookup t mv kv c).run P w = .ok v w)
    (h : wpList P ops Q' rest (a.put o.dst v) w) : wpList P ops Q' (o :: rest) a w := by
  refine wpList_plain hgd fun K hK => ?_
  unfold Oper.wp execOp
  simp only [ho, hm, hx, Sem.run_bind, Sem.run_pure, Result.andThen_ok, hrun]
  exact hK _ _ h
end

section
variable {ops : Array Oper} {rest : List Oper} {o : Oper} {a : Act} {w : World} {Q : Exit → Act → World → Prop} {S : World → Prop} {ks : List Bool}

theorem lex_row_load (x : Operand) (ho : o.op = .load 34 x) (b off : Nat) (hx : a.eval x = .pointer (some ⟨b, off, none⟩)) (r : Row) (hr : IsRow r) (hc : ∀ W, S W → W.rangeAt b off (rowCells r))
    (hk : wpLex Try.prog ops Q S ks rest (a.put o.dst (rowV r)) w) (hgd : o.guard = none := by rfl) : wpLex Try.prog ops Q S (true :: ks) (o :: rest) a w := by
  refine lex_quiet (rowV r) (fun W hW => ?_) hk hgd
  unfold execOp
  simp only [ho, hx, Instr.loadAt, Instr.sureAddr, Sem.run_bind, Sem.run_pure, Result.andThen_ok, run_loadRow W hr (hc W hW)]
end

theorem setCells_below {B b : Nat} (hB : B ≤ b) : ∀ (vs : List Value) (o : Nat) (w : World), Below B w (w.setCells b o vs)
  | [], _, _ => Below.refl _ _
  | v :: r, o, w => by
    rw [World.setCells]
    exact ((Below.refl B w).setCell (p := ⟨b, o, none⟩) hB v).trans (setCells_below hB r (o + 1) _)

theorem zeroSym (w : World) : (zeroValue 32).run Try.prog w = .ok (.int .i32 0) w := by kernel_rfl

/-- 'clear(cut[:n])', where behind column n all is 0: the row is all 0. -/
theorem clear_row (w : World) (b n : Nat) {x : Row} (hx : IsRow x) (hn : n ≤ 24) (hz : ∀ i, n ≤ i → x.getD i 0 = 0) (hc : w.rangeAt b 0 (rowCells x)) (hf : ∀ j, w.frozen? ⟨b, j, none⟩ = false) :
    ∃ W', (∀ ty, (Builtin.clear_ #[137] ty #[.slice (some ⟨b, 0, none⟩) n 24]).run Try.prog w = .ok (.tuple #[]) W') ∧ W'.rangeAt b 0 (rowCells zeroRow) ∧ ∀ B, B ≤ b → Below B w W' := by
  have hcell : ∀ j, j < 24 → w.cell? ⟨b, j, none⟩ = some (.int .i32 (x.getD j 0)) := fun j hj => by simpa using hc j _ (rowCells_at hx hj)
  have hzero : ∀ j v, (rowCells zeroRow)[j]? = some v → j < 24 ∧ v = .int .i32 0 := by
    intro j v hv
    have hj : j < 24 := by have := (List.getElem?_eq_some_iff.1 hv).1; rwa [rowCells_length] at this
    rw [rowCells_at zeroRow_is hj] at hv
    refine ⟨hj, ?_⟩
    rw [← Option.some.inj hv, zeroRow_getD]
  rcases Nat.eq_zero_or_pos n with rfl | hpos
  · refine ⟨w, fun ty => ?_, ?_, fun B _ => Below.refl _ _⟩
    · simp [Builtin.clear_, run_underlying Try.underlying137]
    · intro j v hv
      obtain ⟨hj, rfl⟩ := hzero j v hv
      simp only [Nat.zero_add]
      rw [hcell j hj, hz j (Nat.zero_le _)]
  · have hsome : ∀ j, j < n → (w.cell? ⟨b, 0 + j, none⟩).isSome = true := fun j hj => by simp only [Nat.zero_add]; rw [hcell j (by omega)]; rfl
    refine ⟨w.setCells b 0 (List.replicate n (.int .i32 0)), fun ty => Lib.run_clear_slice w _ 32 ty (.int .i32 0) Try.underlying137 zeroSym rfl rfl b 0 n 24 hpos hsome (fun j _ => by simp only [Nat.zero_add]; exact hf j), ?_, fun B hB => setCells_below hB _ _ _⟩
    intro j v hv
    obtain ⟨hj, rfl⟩ := hzero j v hv
    by_cases hjn : j < n
    · rw [World.cell?_setCells_in b _ 0 w (by simpa using hsome) j (by simpa using hjn)]
      simp
    · rw [World.cell?_setCells_out b _ 0 w ⟨b, 0 + j, none⟩ (fun _ _ => Or.inr (by simp; omega))]
      simp only [Nat.zero_add]
      rw [hcell j hj, hz j (by omega)]

end Go.Proofs.Ytepimaghpjkibaa

import Derived.Test.YtepimaghpjkibaaRel
import Derived.Test.YtepimaghpjkibaaBits
import Derived.Deep.LoopGhost
import Derived.Great.BuildSlice
namespace Go.Proofs.Ytepimaghpjkibaa
open Go.RowKit

set_option maxHeartbeats 400000 in
theorem is_any (m i : Nat) (w : World) (hm : m < 4294967296) (hi : i < 64) :
    Calls Try.prog 25 #[.int .u32 m, .int .i64 i] w fun e w' => e = .returned (.bool (m.testBit i)) ∧ w = w' := by
  have hmI : (m : Int) < 4294967296 := by omega
  have hiI : (i : Int) < 64 := by omega
  have h0 : (0 : Int) ≤ m := by omega
  have h1 : (0 : Int) ≤ i := by omega
  have hb := Lib.hid (is_bit m i hm)
  go_enter Try.func25, Try.ntmps25
  go_wp2
  go_ret
  refine ⟨?_, rfl⟩
  rw [← hb.out]
  rfl

theorem no_bit_int (m i : Nat) (hm : m < 4294967296) (hi : i < 32) : (bits BinOp.and IntKind.u32 (m : Int) ((2 : Int) ^ i % 4294967296) == 0) = !m.testBit i := by
  have hp : 2 ^ i < 4294967296 := Nat.pow_lt_pow_right (a := 2) (by omega) (show i < 32 from hi)
  rw [← no_bit m i hm hi]
  have e : ((2 ^ i : Nat) : Int) = (2 : Int) ^ i := by simp
  rw [← e, Int.emod_eq_of_lt (Int.natCast_nonneg _) (by omega)]

theorem info32 : ∃ i, Try.prog.info? 32 = some i ∧ i.zero = some (.int .i32 0) ∧ i.size = 1 ∧ i.bytes = 4 := by
  have h := Try.info32
  cases e : Try.prog.info? 32 with
  | none => rw [e] at h; cases h
  | some i => rw [e] at h; simp at h; exact ⟨i, rfl, h.1, h.2.1, h.2.2⟩

theorem key_step {W0 W w' : World} {m k : Nat} {x : Row} {u v' : Value} {y : Int} {o : Obj} (hB : Below W0.heap.size W0 W) (hown : w'.ownsRow W0.heap.size 32 1 v' (k + 1) ((rowCells (keyR m x)).take k ++ [.int .i32 y]))
    (hy : y = (keyR m x).getD k 0) (hk : k ≤ 24) (hlt : k < 24) (hgrow : (W.alloc o).grownBy w' u.ownBlock) (hu : ∀ c, u.ownBlock = some c → W0.heap.size ≤ c) :
    (∃ k' : Nat, k' ≤ 24 ∧ Value.int .i64 ((k : Int) + 1) = Value.int .i64 (k' : Int) ∧ w'.ownsRow W0.heap.size 32 1 v' k' ((rowCells (keyR m x)).take k') ∧ Below W0.heap.size W0 w') ∧
      24 - (intOf (Value.int .i64 ((k : Int) + 1))).toNat < 24 - (intOf (Value.int .i64 (k : Int))).toNat := by
  refine ⟨⟨k + 1, by omega, rfl, ?_, ?_⟩, ?_⟩
  · have hl : k < (rowCells (keyR m x)).length := by rw [rowCells_length, keyR_length]; omega
    have e : (rowCells (keyR m x)).take (k + 1) = (rowCells (keyR m x)).take k ++ [.int .i32 y] := by
      rw [List.take_add_one, List.getElem?_eq_getElem hl]
      congr 1
      simp [rowCells, hy, List.getD_eq_getElem?_getD, List.getElem?_eq_getElem (show k < (keyR m x).length by rw [keyR_length]; omega)]
    rw [e]; exact hown
  · exact (((Below.fr hB []).alloc o).trans (Fr.of_grown hgrow) (fun c hc => Or.inr (hu c (by simpa using hc)))).below (fun _ h => by cases h) (Nat.le_refl _)
  · show 24 - ((k : Int) + 1).toNat < 24 - ((k : Int)).toNat
    omega

theorem below_setRow {n : Nat} {w w' : World} (h : Below n w w') (b : Nat) (hb : n ≤ b) (cs : Array Value) : Below n w (w'.setRow b cs) :=
  ⟨h.os, h.tape, h.output, by rw [setRow_size]; exact h.size, fun k hk => (setRow_other w' b k cs (by omega)).trans (h.block k hk)⟩

section
variable {ops : Array Oper} {rest : List Oper} {o : Oper} {a : Act} {w : World} {Q : Exit → Act → World → Prop}
theorem row_store (hgd : o.guard = none) (x y : Operand) (ho : o.op = .store 34 x y) (b : Nat) (hx : a.eval x = .pointer (some ⟨b, 0, none⟩)) (old : Array Value) (hb : w.heap[b]? = some (.cells old 34 (0, 0))) (r : Row) (hr : IsRow r) (hy : a.eval y = rowV r)
    (hs : old.size = 24) (h : wpList Try.prog ops Q rest (a.put o.dst undef) (w.setRow b (rowCells r).toArray)) : wpList Try.prog ops Q (o :: rest) a w := by
  have hrun := run_storeVar_row (P := Try.prog) w b 34 34 old (rowCells r).toArray hb (by rw [Try.sizeRow, rowCells_size hr]) (by rw [hs, rowCells_size hr]) (rowCells_all r)
  refine wpList_plain hgd fun K hK => ?_
  unfold Oper.wp execOp
  simp only [ho, hx, hy, rowV, Instr.storeAt, Instr.sureAddr, Sem.run_bind, Sem.run_pure, Result.andThen_ok, hrun]
  exact hK _ _ h

theorem arr24 (hgd : o.guard = none) (x : Operand) (ho : o.op = .sliceToArrayPointer 34 x) (g cap : Nat) (hx : a.eval x = .slice (some ⟨g, 0, none⟩) 24 cap)
    (h : wpList Try.prog ops Q rest (a.put o.dst (.pointer (some ⟨g, 0, none⟩))) w) : wpList Try.prog ops Q (o :: rest) a w := by
  refine wpList_plain hgd fun K hK => ?_
  unfold Oper.wp execOp
  simp only [ho, hx, Instr.arrayAt, run_underlying Try.underlying34, Sem.run_bind, Sem.run_pure, Result.andThen_ok]
  exact hK _ _ h
end

set_option maxRecDepth 100000 in
set_option maxHeartbeats 400000 in
theorem key_any {w : World} {b m : Nat} {x : Row} (hm : m < 4294967296) (hx : IsRow x) (hr : w.rangeAt b 0 (rowCells x)) :
    Calls Try.prog 29 #[.int .u32 m, .pointer (some ⟨b, 0, none⟩)] w fun e w' => e = .returned (rowV (keyR m x)) ∧ Below w.heap.size w w' := by
  go_enter Try.func29, Try.ntmps29
  go_wp2_with fail
  obtain ⟨W0, hW0⟩ : ∃ W0 : World, W0 = w.alloc (Obj.cells (rowCells zeroRow).toArray 34) := ⟨_, rfl⟩
  have hs0 : W0.heap.size = w.heap.size + 1 := by rw [hW0]; simp
  have hB0 : Below w.heap.size w W0 := by rw [hW0]; exact (Below.refl _ _).alloc (Nat.le_refl _) _
  have hz0 : W0.heap[w.heap.size]? = some (.cells (rowCells zeroRow).toArray 34 (0, 0)) := by rw [hW0]; exact heap_alloc_new _ _
  have hr0 := rangeAt_below hB0 hr
  have HR := Lib.hid (fun j (hj : j < 24) => (show W0.cell? ⟨b, j, none⟩ = some (.int .i32 (x.getD j 0)) by have := hr0 j _ (rowCells_at hx hj); simpa using this))
  have lb : b < w.heap.size := World.block_lt_of_cell? w _ (hr 0 _ (rowCells_at hx (by omega)))
  have HW0 := Lib.hid hW0
  have HM := Lib.hid hm
  clear hm
  change Code.wp _ _ _ _ (w.alloc (Obj.cells (rowCells zeroRow).toArray 34))
  rw [← HW0.out]
  clear hW0 hr0 hr
  go_loopw [5, 9] (fun v idx wr => ∃ k : Nat, k ≤ 24 ∧ idx = .int .i64 k ∧ wr.ownsRow W0.heap.size 32 1 v k ((rowCells (keyR m x)).take k) ∧ Below W0.heap.size W0 wr) (fun _ i _ => 24 - (intOf i).toNat)
  case atStart => exact ⟨0, by omega, rfl, by simpa using World.ownsRow_nil W0 _ _ _, Below.refl _ _⟩
  case round =>
    obtain ⟨k, hk, rfl, hown, hB⟩ := hrel
    by_cases hlt : k < 24
    · have hck : ∀ W', Fr [] wr W' → W'.cell? ⟨b, k, none⟩ = some (.int .i32 (x.getD k 0)) := fun W' hW' => hW'.cell ((hB.cell (p := ⟨b, k, none⟩) (by show b < _; omega)).trans (HR.out k hlt)) (by simp)
      go_wp2_with fail
      refine region_lex [] [true, true, true, true, true, true] (by kernel_rfl) (by kernel_rfl) (by intro c a d v w h; cases d <;> exact h) ?_
      intro W hWh hW
      have hck' : ∀ W', Fr [] W W' → W'.cell? ⟨b, k, none⟩ = some (.int .i32 (x.getD k 0)) := fun W' h' => hck W' (hW.trans' h')
      clear hck hWh
      repeat (refine lex_quiet ?_ (fun W' hW' => ?_) ?_; rotate_left; (have hck'' := hck' _ hW'; go_simp; first | done | rfl); (try simp only [Act.put, List.setIfInBounds_toArray, List.set_cons_succ, List.set_cons_zero]))
      refine lex_tail ?_
      have hs0W : W0.heap.size ≤ wr.heap.size := hB.size
      have hownW : W.ownsRow W0.heap.size 32 1 u5 k ((rowCells (keyR m x)).take k) := hW.ownsRow hown (fun _ _ => List.not_mem_nil)
      have hown' : ∀ o, (W.alloc o).ownsRow W0.heap.size 32 1 u5 k ((rowCells (keyR m x)).take k) := fun o => ((Fr.refl [] W).alloc o).ownsRow hownW (fun _ _ => List.not_mem_nil)
      obtain ⟨i0, hi0, hz0, hz1, hz2⟩ := info32
      have hbit := Lib.hid (no_bit_int m k HM.out (by omega))
      have hkey := keyR_getD m x hlt
      have hBW : Below W0.heap.size W0 W := (Fr.below ((Below.fr hB []).trans' hW) (fun _ h => by cases h) (Nat.le_refl _))
      have hsW := hW.size
      go_wp2_with (at_builtin; (refine wpList_append_own_at _ rfl (.tmp 20) (.tmp 22) 137 rfl W0.heap.size 32 i0 (.int .i32 0) 1 4 Try.underlying137 hi0 hz0 hz1 hz2 rfl (by omega) u5 k ((rowCells (keyR m x)).take k) rfl (hown' _) ⟨W.heap.size, 0, none⟩ 1 1 [_] rfl rfl (cell_one_new _ _ _) (by intro u hu; cases hu with | head => rfl | tail _ h => cases h) (by unfold maxLen; omega) (by omega) (by simp; omega) ?_); intro v' w' hown2 hgrow _ hat)
      · refine key_step hBW hown2 ?_ hk hlt hgrow (fun c hc => (hown.lt c hc).1)
        rw [hkey]
        rw [hbit.out] at *
        have hb0 : m.testBit k = false := by cases hb : m.testBit k <;> simp_all
        rw [hb0]; rfl
      · refine key_step hBW hown2 ?_ hk hlt hgrow (fun c hc => (hown.lt c hc).1)
        rw [hkey]
        rw [hbit.out] at *
        have hb0 : m.testBit k = true := by cases hb : m.testBit k <;> simp_all
        rw [hb0]; simp [List.getD_eq_getElem?_getD]
    · obtain rfl : k = 24 := by omega
      have hkr := keyR_is (m := m) hx
      obtain ⟨g, cap, rfl, hgb, hgl⟩ := hown.form (by omega)
      have hra : wr.rangeAt g 0 (rowCells (keyR m x)) := by
        have := hown.cells (g := g) rfl
        rw [List.take_of_length_le (by rw [rowCells_length, hkr.1]; omega)] at this
        intro j v hv
        have h2 := this j v hv
        rw [Addr.add_mid] at h2
        exact h2
      have hzr : wr.heap[w.heap.size]? = some (.cells (rowCells zeroRow).toArray 34 (0, 0)) := (hB.block _ (by omega)).trans hz0
      have hB2 : Below w.heap.size w wr := ((Below.fr hB0 []).trans' (Below.fr hB [])).below (fun _ h => by cases h) (Nat.le_refl _)
      go_wp2_with (first | (refine arr24 rfl _ rfl g cap rfl ?_) | (refine row_load rfl _ rfl g 0 rfl _ hkr hra ?_) | (refine row_store rfl _ _ rfl w.heap.size rfl _ hzr (keyR m x) hkr rfl rfl ?_))
      refine bodyPost_ret (results_row rfl _ _ w.heap.size (keyR m x) hkr rfl (rangeAt_of_heap (setRow_heap _ _ _ _ _ _ hzr))) rfl ⟨rfl, ?_⟩
      exact below_setRow hB2 _ (Nat.le_refl _) _
end Go.Proofs.Ytepimaghpjkibaa

/-
  Facts about this program's types: the keys that are rows, the keys that are masks, the elements' zero values and sizes.
-/
import Derived.Test.YtepimaghpjkibaaBase
namespace Go.Proofs.Ytepimaghpjkibaa
open Go.RowKit
open Go.Maps (Keyed int_keyed keyOf_int_mk)

theorem Try.laidOut : laidOutB Try.prog = true := by kernel_rfl
theorem Try.rowRow : 34 < Try.prog.types.size := of_decide_eq_true (by kernel_rfl)
theorem Try.rowDeep : Try.prog.keyTypeAt 3 34 = true := by kernel_rfl
theorem Try.rowLaw : Keyed Try.prog 34 := Keyed.of_law (deep_law_laid Try.laidOut (m := 3) (Nat.le_of_ble_eq_true rfl) Try.rowRow Try.rowDeep (by rw [Try.underlying34]))
theorem Try.rowKeyType : Try.prog.keyType 34 = true := by kernel_rfl
theorem Try.rowCellsOf : Try.prog.cellsOf 34 = 24 := by kernel_rfl
theorem Try.symCellsOf : Try.prog.cellsOf 32 = 1 := by kernel_rfl
theorem Try.typesTwo : ∃ d, Try.prog.types.size + 1 = d + 2 := ⟨Try.prog.types.size - 1, by have := Try.rowRow; omega⟩

theorem mapM_all {α β : Type} {f : α → Option β} {g : α → β} : ∀ {l : List α}, (∀ a ∈ l, f a = some (g a)) → l.mapM f = some (l.map g)
  | [], _ => rfl
  | a :: r, h => by
    rw [List.mapM_cons, h a (by simp), mapM_all (l := r) (fun b hb => h b (by simp [hb]))]
    rfl

theorem wf_sym {y : Int} (h : -2147483648 ≤ y ∧ y ≤ 2147483647) : (Lit.int .i32 y).wf = true := WalkArith.wf_i32 (by omega)

theorem rowCells_at {x : Row} (h : IsRow x) {i : Nat} (hi : i < 24) : (rowCells x)[i]? = some (.int .i32 (x.getD i 0)) := by
  have hl : i < x.length := by rw [h.1]; exact hi
  simp [rowCells, List.getD_eq_getElem?_getD, List.getElem?_eq_getElem hl]

theorem row_keyOf {x : Row} (h : IsRow x) : ∃ l, Go.keyOf Try.prog 34 (rowV x) = some l := by
  obtain ⟨d, hd⟩ := Try.typesTwo
  have hlen : (rowCells x).length = 24 := by rw [rowCells_length, h.1]
  have hform : (rowV x).formed Try.prog 34 = true := by
    simp [Value.formed, Try.underlying34, Try.rowCellsOf, hlen]
  have hl : Try.prog.keyLits (d + 2) 34 (rowCells x) = some (((List.range 24).map fun i => [Lit.int .i32 (x.getD i 0)]).flatten) := by
    unfold Program.keyLits
    simp only [Try.underlying34, Try.rowCellsOf, hlen, if_true, Try.symCellsOf]
    rw [mapM_all (g := fun i => [Lit.int .i32 (x.getD i 0)])]
    · rfl
    · intro i hi
      have hi' : i < 24 := List.mem_range.1 hi
      have e1 : ((rowCells x).drop (i * 1)).take 1 = [.int .i32 (x.getD i 0)] := by
        rw [Nat.mul_one, List.drop_eq_getElem_cons (by omega), List.take_succ_cons, List.take_zero]
        have := rowCells_at h hi'
        rw [List.getElem?_eq_getElem (by omega)] at this
        rw [Option.some.inj this]
      rw [e1]
      unfold Program.keyLits
      simp only [Try.underlying32, wf_sym (h.getD i), and_self, if_true]
  refine ⟨.string (keyBytes (((List.range 24).map fun i => [Lit.int .i32 (x.getD i 0)]).flatten)), ?_⟩
  unfold Go.keyOf
  simp only [Try.underlying34]
  rw [if_pos (by rw [Try.rowKeyType, hform]; rfl), hd]
  simp only [Value.cells]
  rw [hl]
  rfl

theorem Try.info34 : (Try.prog.info? 34).map (fun i => (i.zero, i.size, i.bytes)) = some (some (rowV zeroRow), 24, 96) := by kernel_rfl
theorem Try.sizeRow : (Try.prog.info? 34).map (·.size) = some 24 := by kernel_rfl
theorem Try.info3 : (Try.prog.info? 3).map (fun i => (i.zero, i.size, i.bytes)) = some (some (.int .i64 0), 1, 8) := by kernel_rfl
theorem Try.info32 : (Try.prog.info? 32).map (fun i => (i.zero, i.size, i.bytes)) = some (some (.int .i32 0), 1, 4) := by kernel_rfl
theorem Try.zeroInt (w : World) : (zeroValue 3).run Try.prog w = .ok (.int .i64 0) w := by kernel_rfl
theorem Try.zeroInts (w : World) : (zeroValue 38).run Try.prog w = .ok (.slice none 0 0) w := by kernel_rfl
theorem Try.zeroRows (w : World) : (zeroValue 114).run Try.prog w = .ok (.pointer none) w := by kernel_rfl
theorem Try.maskLaw : Keyed Try.prog 24 := int_keyed Try.underlying24

end Go.Proofs.Ytepimaghpjkibaa

/-
  Fit: a row of so many columns.
-/
import Derived.Test.YtepimaghpjkibaaLow
import Derived.Test.YtepimaghpjkibaaAdd
namespace Go.Proofs.Ytepimaghpjkibaa
open Go.RowKit

def fitNum (v : Int) : Int := if v < 0 then -1 - v else v
def fitRow (x : Row) (a : Nat) : Row := (List.range 24).map fun i => if i < a then fitNum (x.getD i 0) else 0

theorem fitRow_getD (x : Row) (a : Nat) {i : Nat} (h : i < 24) : (fitRow x a).getD i 0 = if i < a then fitNum (x.getD i 0) else 0 := by
  simp [fitRow, List.getD_eq_getElem?_getD, h]

theorem fitRow_is {x : Row} (h : IsRow x) (a : Nat) : IsRow (fitRow x a) := by
  refine ⟨by simp [fitRow], fun y hy => ?_⟩
  simp only [fitRow, List.mem_map, List.mem_range] at hy
  obtain ⟨i, _, rfl⟩ := hy
  have := h.getD i
  unfold fitNum
  split
  · split <;> omega
  · omega

theorem fit_step {x : Row} {k : Nat} (hk : k < 24) (v : Int) (hv : v = fitNum (x.getD k 0)) (u : Value) : (((rowCells (fitRow x k)).toArray.setIfInBounds k u).setIfInBounds k (.int .i32 v)) = (rowCells (fitRow x (k + 1))).toArray ∧
    ((rowCells (fitRow x k)).toArray.setIfInBounds k (.int .i32 v)) = (rowCells (fitRow x (k + 1))).toArray := by
  have key : ∀ i, (rowCells (fitRow x (k + 1)))[i]? = if i = k then some (.int .i32 v) else (rowCells (fitRow x k))[i]? := fun i => by
    by_cases hi : i < 24
    · simp only [rowCells, fitRow, List.getElem?_map, List.getElem?_range hi, Option.map_some]
      by_cases e : i = k
      · subst e; simp [hv]
      · have : (i < k + 1) ↔ (i < k) := by omega
        simp [e, this]
    · have e : i ≠ k := by omega
      rw [if_neg e, List.getElem?_eq_none (by simp [rowCells, fitRow]; omega), List.getElem?_eq_none (by simp [rowCells, fitRow]; omega)]
  have hl : ∀ a, (rowCells (fitRow x a)).length = 24 := fun a => by simp [rowCells, fitRow]
  constructor
  · apply Array.ext_getElem?
    intro i
    rw [show (rowCells (fitRow x (k + 1))).toArray[i]? = (rowCells (fitRow x (k + 1)))[i]? by simp, key, Array.getElem?_setIfInBounds, Array.getElem?_setIfInBounds]
    by_cases e : k = i
    · subst e; simp [hl, hk]
    · simp [e, Ne.symm e]
  · apply Array.ext_getElem?
    intro i
    rw [show (rowCells (fitRow x (k + 1))).toArray[i]? = (rowCells (fitRow x (k + 1)))[i]? by simp, key, Array.getElem?_setIfInBounds]
    by_cases e : k = i
    · subst e; simp [hl, hk]
    · simp [e, Ne.symm e]

set_option maxRecDepth 100000 in
set_option maxHeartbeats 400000 in
theorem fit_any {w : World} {x : Row} (a : Nat) (hx : IsRow x) (ha : a ≤ 24) :
    Calls Try.prog 24 #[rowV x, .int .i64 a] w fun e w' => e = .returned (rowV (fitRow x a)) ∧ Below w.heap.size w w' := by
  have haI : (a : Int) ≤ 24 := by omega
  go_enter Try.func24, Try.ntmps24
  go_wp2_with fail
  obtain ⟨W0, hW0⟩ : ∃ W0 : World, W0 = ((w.alloc (.cells (rowCells x).toArray 34)).alloc (.cells (rowCells zeroRow).toArray 34)).alloc (.cells (rowCells zeroRow).toArray 34) := ⟨_, rfl⟩
  have hB0 : Below w.heap.size w W0 := by rw [hW0]; exact (((Below.refl _ _).alloc (Nat.le_refl _) _).alloc (by simp) _).alloc (by simp; omega) _
  have h0 : W0.heap[w.heap.size]? = some (.cells (rowCells x).toArray 34 (0, 0)) := by rw [hW0]; simp only [heap_at, World.size_alloc]; rw [if_neg (by omega), if_neg (by omega)]; simp
  have h1 : W0.heap[w.heap.size + 1]? = some (.cells (rowCells zeroRow).toArray 34 (0, 0)) := by rw [hW0]; simp only [heap_at, World.size_alloc]; rw [if_neg (by omega)]; simp
  have h2 : W0.heap[w.heap.size + 2]? = some (.cells (rowCells zeroRow).toArray 34 (0, 0)) := by rw [hW0]; simp only [heap_at, World.size_alloc]; simp
  change Code.wp _ _ _ _ (((w.alloc (.cells (rowCells x).toArray 34)).alloc (.cells (rowCells zeroRow).toArray 34)).alloc (.cells (rowCells zeroRow).toArray 34))
  rw [← hW0]
  have hz : (rowCells zeroRow).toArray = (rowCells (fitRow x 0)).toArray := by
    congr 1
  rw [hz] at h2
  clear hW0 hz
  go_loopw [6] (fun idx wr => ∃ k : Nat, k ≤ a ∧ idx = .int .i64 k ∧ Fr [w.heap.size + 2] W0 wr ∧ wr.heap[w.heap.size + 2]? = some (.cells (rowCells (fitRow x k)).toArray 34 (0, 0))) (fun i _ => a - (intOf i).toNat)
  case atStart => exact ⟨0, Nat.zero_le _, rfl, Fr.refl _ _, h2⟩
  case round =>
    obtain ⟨k, hk, rfl, hF, hY⟩ := hrel
    have hx0 := hF.heap h0 (by simp)
    have hr0 := hF.heap h1 (by simp)
    by_cases hlt : k < a
    · have hltI : (k : Int) < a := by omega
      have hk24 : (k : Int) < 24 := by omega
      have cx : wr.cell? ⟨w.heap.size, k, none⟩ = some (.int .i32 (x.getD k 0)) := by rw [cell_of_row _ _ _ _ _ _ hx0]; simpa using rowCells_at hx (by omega)
      have cy : wr.cell? ⟨w.heap.size + 2, k, none⟩ = some (.int .i32 ((fitRow x k).getD k 0)) := by rw [cell_of_row _ _ _ _ _ _ hY]; simpa using rowCells_at (fitRow_is hx k) (by omega)
      have fy : wr.frozen? ⟨w.heap.size + 2, k, none⟩ = false := frozen_of_row _ _ _ _ _ hY
      have hs1 := fit_step (x := x) (k := k) (by omega)
      have hHs := heap_setCell_same wr (w.heap.size + 2) k _ _ (.int .i32 (x.getD k 0)) hY
      obtain ⟨v, hv⟩ : ∃ v, v = x.getD k 0 := ⟨_, rfl⟩
      have hvb := hx.getD k
      rw [← hv] at cx hHs hvb
      have hv' := Lib.hid hv
      have hs' := Lib.hid hs1
      have hY' := Lib.hid hY
      clear hs1 hY hv h0 h1 h2
      have cy2 : (wr.setCell ⟨w.heap.size + 2, k, none⟩ (.int .i32 v)).cell? ⟨w.heap.size + 2, k, none⟩ = some (.int .i32 v) := World.cell?_setCell_same' _ _ _ (by rw [cy]; rfl)
      by_cases hneg : v < 0
      · go_wp2_with fail
        refine ⟨⟨k + 1, by omega, rfl, ?_, ?_⟩, by simp only [intOf]; omega⟩
        · exact (hF.setCell (p := ⟨w.heap.size + 2, k, none⟩) (Or.inl (by simp)) _).setCell (p := ⟨w.heap.size + 2, k, none⟩) (Or.inl (by simp)) _
        · have hfit : -1 - v = fitNum (x.getD k 0) := by rw [← hv'.out]; unfold fitNum; rw [if_pos hneg]
          rw [← (hs'.out (-1 - v) hfit (.int .i32 v)).1]
          exact heap_setCell_same _ _ _ _ _ _ hHs
      · go_wp2_with fail
        refine ⟨⟨k + 1, by omega, rfl, ?_, ?_⟩, by simp only [intOf]; omega⟩
        · exact hF.setCell (p := ⟨w.heap.size + 2, k, none⟩) (Or.inl (by simp)) _
        · have hfit : v = fitNum (x.getD k 0) := by rw [← hv'.out]; unfold fitNum; rw [if_neg hneg]
          rw [← (hs'.out v hfit (.int .i32 v)).2]
          exact hHs
    · obtain rfl : k = a := by omega
      have hrw := rangeAt_of_heap hY
      go_wp2_with (first | (refine row_load rfl _ rfl (w.heap.size + 2) 0 rfl _ (fitRow_is hx k) hrw ?_) | (refine row_store rfl _ _ rfl (w.heap.size + 1) rfl _ hr0 (fitRow x k) (fitRow_is hx k) rfl rfl ?_))
      all_goals refine bodyPost_ret (results_row rfl _ _ (w.heap.size + 1) _ (fitRow_is hx k) rfl (rangeAt_of_heap (setRow_heap _ _ _ _ _ _ hr0))) rfl ⟨rfl, ?_⟩
      all_goals exact below_setRow (((Below.fr hB0 []).trans hF (fun c hc => Or.inr (by simp at hc; omega))).below (fun _ h => by cases h) (Nat.le_refl _)) _ (by omega) _

theorem fit_good {x : Row} (hx : IsRow x) (a : Nat) : GoodRow a (fitRow x a) := by
  refine ⟨fitRow_is hx a, fun i => ?_, fun i hi => ?_⟩
  · by_cases h : i < 24
    · rw [fitRow_getD x a h]
      split
      · unfold fitNum; split <;> omega
      · omega
    · rw [List.getD_eq_getElem?_getD, List.getElem?_eq_none (by simp [fitRow]; omega)]; simp
  · by_cases h : i < 24
    · rw [fitRow_getD x a h, if_neg (by omega)]
    · rw [List.getD_eq_getElem?_getD, List.getElem?_eq_none (by simp [fitRow]; omega)]; simp
end Go.Proofs.Ytepimaghpjkibaa

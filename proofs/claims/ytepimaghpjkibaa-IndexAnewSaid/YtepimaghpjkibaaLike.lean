/-
  The statement's own small functions: Like, low, Fit, SameInts.
-/
import Derived.Test.YtepimaghpjkibaaTell
namespace Go.Proofs.Ytepimaghpjkibaa
open Go.RowKit

section
variable {P : Program} {Q : Exit → Act → World → Prop}
theorem range_map_get (l : List Oper) : (List.range l.length).map (l.toArray[·]?) = l.map some := by
  apply List.ext_getElem?
  intro i
  by_cases h : i < l.length
  · simp [h]
  · simp [h]

/-- In the text's order, operations guarded or not. -/
theorem region_text {id : Nat} {l : List Oper} {a : Act} {w : World} (T : List Nat) (kn : Nat) (kinds : List Bool) (hm : P.follows .mixedOrders = true) (hB : orderB l.toArray kn kinds (List.range l.length) = true)
    (hQ : ∀ c a d v w, Q (.panic c) (Act.put a d v) w → Q (.panic c) a w) (h : ∀ W : World, W.heap = w.heap → Fr [] w W → wpLex P l.toArray Q (Fr T W) kinds l a W) : (Code.region id l.toArray true).wp P Q a w :=
  region_order T kn kinds (List.range l.length) hm hB (range_map_get l) hQ h
end

def likeUpto (m : Nat) (x y : Row) (k : Nat) : Prop := ∀ i, i < k → m.testBit i = true → x.getD i 0 = y.getD i 0

theorem like_snoc {m : Nat} {x y : Row} {k : Nat} (h : likeUpto m x y k) (h1 : m.testBit k = true → x.getD k 0 = y.getD k 0) : likeUpto m x y (k + 1) := fun i hi hb => by
  by_cases e : i = k
  · subst e; exact h1 hb
  · exact h i (by omega) hb

set_option maxRecDepth 100000 in
set_option maxHeartbeats 400000 in
theorem like_any {w : World} {m : Nat} {x y : Row} (hm : m < 4294967296) (hx : IsRow x) (hy : IsRow y) :
    Calls Try.prog 13 #[.int .u32 m, rowV x, rowV y] w fun e w' => e = .returned (.bool (decide (keyR m x = keyR m y))) ∧ Below w.heap.size w w' := by
  have his := fun (W : World) (i : Nat) (hi : i < 64) => is_any m i W hm hi
  have hm' := Lib.hid hm
  clear hm
  go_enter Try.func13, Try.ntmps13
  go_wp2_with fail
  obtain ⟨W0, hW0⟩ : ∃ W0 : World, W0 = (w.alloc (.cells (rowCells x).toArray 34)).alloc (.cells (rowCells y).toArray 34) := ⟨_, rfl⟩
  rw [← hW0]
  have hB0 : Below w.heap.size w W0 := by rw [hW0]; exact ((Below.refl _ _).alloc (Nat.le_refl _) _).alloc (by simp) _
  have hrx : W0.rangeAt w.heap.size 0 (rowCells x) := by rw [hW0]; exact rangeAt_below ((Below.refl _ _).alloc (Nat.le_refl _) _) (rangeAt_new w 34 (rowCells x))
  have hry : W0.rangeAt (w.heap.size + 1) 0 (rowCells y) := by rw [hW0]; have := rangeAt_new (w.alloc (.cells (rowCells x).toArray 34)) 34 (rowCells y); simpa using this
  have HX := Lib.hid (fun j (hj : j < 24) => (show W0.cell? ⟨w.heap.size, j, none⟩ = some (.int .i32 (x.getD j 0)) by have := hrx j _ (rowCells_at hx hj); simpa using this))
  have HY := Lib.hid (fun j (hj : j < 24) => (show W0.cell? ⟨w.heap.size + 1, j, none⟩ = some (.int .i32 (y.getD j 0)) by have := hry j _ (rowCells_at hy hj); simpa using this))
  clear hW0 hrx hry
  go_loopw [7] (fun idx wr => ∃ k : Nat, k ≤ 24 ∧ idx = .int .i64 k ∧ Fr [] W0 wr ∧ likeUpto m x y k) (fun i _ => 24 - (intOf i).toNat)
  case atStart => exact ⟨0, by omega, rfl, Fr.refl _ _, fun i hi => by omega⟩
  case round =>
    obtain ⟨k, hk, rfl, hF, hup⟩ := hrel
    by_cases hlt : k < 24
    · have cx := hF.cell (HX.out k hlt) (by simp)
      have cy := hF.cell (HY.out k hlt) (by simp)
      have hup' := Lib.hid hup
      clear hup
      go_upto_region 4 with (fail)
      by_cases hb : m.testBit k = true
      · have hk := his
        refine region_text [] 12 [true, true, false, true, true, true, true, true, true, true, true, true] (by kernel_rfl) (by kernel_rfl) (by intro c a d v w h; cases d <;> exact h) ?_
        intro W1 hWh hF1
        have fx : ∀ W', Fr [] W1 W' → W'.cell? ⟨w.heap.size, k, none⟩ = some (.int .i32 (x.getD k 0)) := fun W' h' => (hF1.trans' h').cell cx (by simp)
        have fy : ∀ W', Fr [] W1 W' → W'.cell? ⟨w.heap.size + 1, k, none⟩ = some (.int .i32 (y.getD k 0)) := fun W' h' => (hF1.trans' h').cell cy (by simp)
        have hi := his W1 k (by omega)
        rw [hb] at hi
        clear hWh cx cy his hk
        repeat (refine lex_quiet ?_ (fun W' hW' => ?_) ?_; rotate_left; (go_simp; first | done | rfl); (try simp only [Act.put, List.setIfInBounds_toArray, List.set_cons_succ, List.set_cons_zero]))
        refine lex_held (fun K9 hK9 => ?_)
        go_wp2_with (go_at_call 25; refine hi.mono ?_; rintro e w9 ⟨rfl, rfl⟩)
        refine hK9 _ _ (Fr.refl _ _) ?_
        try simp only [Act.put, List.setIfInBounds_toArray, List.set_cons_succ, List.set_cons_zero]
        clear hK9
        repeat (first | (refine lex_quiet ?_ (fun W' hW' => ?_) ?_; rotate_left; (go_simp; first | done | rfl); (try simp only [Act.put, List.setIfInBounds_toArray, List.set_cons_succ, List.set_cons_zero])) | (refine lex_guard (by rfl) ?_ (fun W' hW' => ?_) ?_; rotate_left; (go_simp; first | done | rfl); (try simp only [Act.put, List.setIfInBounds_toArray, List.set_cons_succ, List.set_cons_zero])) | (refine lex_skip (by rfl) ?_; (try simp only [Act.put, List.setIfInBounds_toArray, List.set_cons_succ, List.set_cons_zero])))
        refine lex_tail ?_
        clear fx fy hi
        by_cases hxy : x.getD k 0 = y.getD k 0
        · have hne : (x[k]?.getD 0 != y[k]?.getD 0) = false := by simp only [List.getD_eq_getElem?_getD] at hxy; simp [hxy]
          rw [hne]
          go_wp2_with fail
          go_roundw
          case rel => exact ⟨k + 1, by omega, rfl, hF.trans' hF1, like_snoc hup'.out (fun _ => hxy)⟩
          case measure => simp only [intOf]; omega
        · have hne : (x[k]?.getD 0 != y[k]?.getD 0) = true := by simp only [List.getD_eq_getElem?_getD] at hxy; simp [hxy]
          rw [hne]
          go_wp2_with fail
          go_ret
          refine ⟨?_, ?_⟩
          · rw [decide_eq_false (fun e => hxy (keyR_eq_iff.1 e k hlt hb))]; rfl
          · exact ((Below.fr hB0 []).trans' (hF.trans' hF1)).below (fun _ h => by cases h) (Nat.le_refl _)
      · have hb' : m.testBit k = false := by simpa using hb
        refine region_text [] 12 [true, true, false, true, true, true, true, true, true, true, true, true] (by kernel_rfl) (by kernel_rfl) (by intro c a d v w h; cases d <;> exact h) ?_
        intro W1 hWh hF1
        have hi := his W1 k (by omega)
        rw [hb'] at hi
        clear hWh cx cy his hb
        repeat (refine lex_quiet ?_ (fun W' hW' => ?_) ?_; rotate_left; (go_simp; first | done | rfl); (try simp only [Act.put, List.setIfInBounds_toArray, List.set_cons_succ, List.set_cons_zero]))
        refine lex_held (fun K9 hK9 => ?_)
        go_wp2_with (go_at_call 25; refine hi.mono ?_; rintro e w9 ⟨rfl, rfl⟩)
        refine hK9 _ _ (Fr.refl _ _) ?_
        try simp only [Act.put, List.setIfInBounds_toArray, List.set_cons_succ, List.set_cons_zero]
        clear hK9
        repeat (first | (refine lex_quiet ?_ (fun W' hW' => ?_) ?_; rotate_left; (go_simp; first | done | rfl); (try simp only [Act.put, List.setIfInBounds_toArray, List.set_cons_succ, List.set_cons_zero])) | (refine lex_guard (by rfl) ?_ (fun W' hW' => ?_) ?_; rotate_left; (go_simp; first | done | rfl); (try simp only [Act.put, List.setIfInBounds_toArray, List.set_cons_succ, List.set_cons_zero])) | (refine lex_skip (by rfl) ?_; (try simp only [Act.put, List.setIfInBounds_toArray, List.set_cons_succ, List.set_cons_zero])))
        refine lex_tail ?_
        clear hi
        go_wp2_with fail
        go_roundw
        case rel => exact ⟨k + 1, by omega, rfl, hF.trans' hF1, like_snoc hup'.out (fun h => by rw [hb'] at h; cases h)⟩
        case measure => simp only [intOf]; omega
    · obtain rfl : k = 24 := by omega
      go_wp2_with fail
      go_ret
      refine ⟨?_, ((Below.fr hB0 []).trans' hF).below (fun _ h => by cases h) (Nat.le_refl _)⟩
      rw [decide_eq_true (keyR_eq_iff.2 hup)]; rfl
end Go.Proofs.Ytepimaghpjkibaa

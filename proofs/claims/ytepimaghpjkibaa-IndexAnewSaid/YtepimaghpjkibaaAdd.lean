import Derived.Test.YtepimaghpjkibaaRight
import Derived.Test.YtepimaghpjkibaaPut
namespace Go.Proofs.Ytepimaghpjkibaa
open Go.RowKit

/-- A row as Fit makes it. -/
structure GoodRow (a : Nat) (x : Row) : Prop where
  is : IsRow x
  pos : ∀ i, 0 ≤ x.getD i 0
  zero : ∀ i, a ≤ i → x.getD i 0 = 0

def addRow (rows : List Row) (x : Row) : List Row := if x ∈ rows then rows else rows ++ [x]

set_option maxRecDepth 100000 in
set_option maxHeartbeats 800000 in
theorem rel_Add {w : World} {R : RelD} (h : RelAt w R) {x : Row} (hg : GoodRow R.arity x) (hb : (R.rows.length + 1) * 96 ≤ 140737488355328) :
    Calls Try.prog 18 #[.pointer (some ⟨R.p, 0, none⟩), rowV x] w fun e w' => ∃ b sv, e = .returned (.tuple #[.bool b, .int .i64 0]) ∧
      RelAt w' { R with rows := addRow R.rows x, sv := sv } ∧ (∀ k, sv.ownBlock = some k → R.sv.ownBlock = some k ∨ w.heap.size ≤ k) ∧ Fr R.inner w w' := by
  have hput : ∀ W, RelAt W R → w.heap.size ≤ W.heap.size → Calls Try.prog 39 #[.pointer (some ⟨R.q, 0, none⟩), rowV x] W fun e w' => ∃ b sv, e = .returned (.bool b) ∧
      RelAt w' { R with rows := addRow R.rows x, sv := sv } ∧ (∀ k, sv.ownBlock = some k → R.sv.ownBlock = some k ∨ w.heap.size ≤ k) ∧ Fr R.inner W w' := by
    intro W hW hs
    by_cases hm : x ∈ R.rows
    · refine (rel_put_old hW hg.is hm).mono fun e w' ⟨he, hw⟩ => ⟨_, R.sv, he, ?_, fun k hk => Or.inl hk, Below.fr hw _⟩
      rw [addRow, if_pos hm]
      exact hW.below hw
    · refine (rel_put_new hW hg.is hm hb).mono fun e w' ⟨he, sv, hR, hk, hF⟩ => ⟨_, sv, he, ?_, fun k hk' => (hk k hk').imp id (fun h => by omega), hF⟩
      rw [addRow, if_neg hm]
      exact hR
  have HP := Lib.hid hput
  clear hput
  go_enter Try.func18, Try.ntmps18
  go_wp2_with fail
  refine (rel_there (h.below ((Below.refl _ _).alloc (Nat.le_refl _) _))).mono ?_
  rintro e w' ⟨rfl, rfl⟩
  go_wp2_with (first | (refine row_load rfl _ rfl w.heap.size 0 rfl x hg.is (rangeAt_new _ _ _) ?_))
  refine (rel_right (h.below ((Below.refl _ _).alloc (Nat.le_refl _) _)) hg.is hg.pos hg.zero).mono ?_
  rintro e w2 ⟨rfl, hb2⟩
  go_wp2_with fail
  refine region_lex R.inner [true, true, true, true, true, false] (by kernel_rfl) (by kernel_rfl) (by intro c a d v w h; cases d <;> exact h) ?_
  intro W hWh hW
  have hF0 : Below w.heap.size w w2 := ((Below.refl _ _).alloc (Nat.le_refl _) _).trans (hb2.mono (by simp))
  have hRW := (h.below hF0).fr hW (fun _ _ => List.not_mem_nil)
  have hs2 := hb2.size
  simp only [World.size_alloc] at hs2
  have hsW := hW.size
  have c2 : ∀ W', Fr R.inner W W' → W'.cell? ⟨R.p, 2, none⟩ = some (.pointer (some ⟨R.q, 0, none⟩)) := fun W' hW' => hW'.cell hRW.c2 (List.nodup_cons.1 h.ap).1
  have hra0 : w2.rangeAt w.heap.size 0 (rowCells x) := rangeAt_below hb2 (rangeAt_new w 34 (rowCells x))
  have hra1 : W.rangeAt w.heap.size 0 (rowCells x) := fun j v hv => hW.cell (hra0 j v hv) (by simp)
  have hra : ∀ W', Fr R.inner W W' → W'.rangeAt w.heap.size 0 (rowCells x) := fun W' hW' j v hv => hW'.cell (hra1 j v hv) (fun hm => by have := h.lt _ (R.inner_foot _ hm); simp at this)
  repeat (first | (refine lex_row_load _ rfl w.heap.size 0 rfl x hg.is hra ?_; (try simp only [Act.put, List.setIfInBounds_toArray, List.set_cons_succ, List.set_cons_zero])) | (refine lex_quiet ?_ (fun W' hW' => ?_) ?_; rotate_left; (go_simp; first | done | rfl); (try simp only [Act.put, List.setIfInBounds_toArray, List.set_cons_succ, List.set_cons_zero])))
  refine lex_held (fun K hK => ?_)
  go_wp2_with fail
  refine (HP.out W hRW (by omega)).mono ?_
  rintro e w' ⟨b, sv, rfl, hR', hsv, hF⟩
  go_wp2_with fail
  refine hK _ _ hF ?_
  refine lex_tail ?_
  go_wp2
  go_ret2
  exact ⟨b, sv, rfl, hR', hsv, ((Below.fr hF0 _).trans' (hW.mono (by simp))).trans' hF⟩

end Go.Proofs.Ytepimaghpjkibaa

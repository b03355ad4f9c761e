import Derived.Test.YtepimaghpjkibaaRel
namespace Go.Proofs.Ytepimaghpjkibaa
open Go.RowKit

set_option maxRecDepth 100000 in
set_option maxHeartbeats 400000 in
theorem min_pos {w : World} {g : Nat} {x : Row} (hx : IsRow x) (hp : ∀ i, 0 ≤ x.getD i 0) (hr : w.rangeAt g 0 (rowCells x)) :
    Calls Try.prog 52 #[.slice (some ⟨g, 0, none⟩) 24 24] w fun e w' => (∃ m : Int, 0 ≤ m ∧ e = .returned (.int .i32 m)) ∧ w = w' := by
  have hc : ∀ j, j < 24 → w.cell? ⟨g, j, none⟩ = some (.int .i32 (x.getD j 0)) := fun j hj => by simpa using hr j _ (rowCells_at hx hj)
  have h0 := hc 0 (by omega)
  have hp0 := hp 0
  have HC := Lib.hid hc
  have HP := Lib.hid hp
  clear hc hp hr
  go_enter Try.func52, Try.ntmps52
  go_wp2
  go_loop [3, 4] (fun m i => ∃ (k : Nat) (mm : Int), k ≤ 24 ∧ i = .int .i64 k ∧ 0 ≤ mm ∧ m = .int .i32 mm) (fun _ i => 24 - (intOf i).toNat)
  case atStart => exact ⟨1, _, by omega, rfl, hp0, rfl⟩
  case round =>
    obtain ⟨k, mm, hk, rfl, hm, rfl⟩ := hrel
    by_cases hlt : k < 24
    · have hck := HC.out k hlt
      have hpk := HP.out k
      go_wp2
      go_round
      case rel => exact ⟨k + 1, if x[k]?.getD 0 < mm then x[k]?.getD 0 else mm, by omega, by go_num, by split <;> first | exact hm | exact hpk, rfl⟩
      case measure => simp [intOf]; omega
    · obtain rfl : k = 24 := by omega
      go_wp2
      go_ret
      exact ⟨⟨mm, hm, rfl⟩, rfl⟩

set_option maxRecDepth 100000 in
set_option maxHeartbeats 400000 in
theorem rel_right {w : World} {R : RelD} (h : RelAt w R) {x : Row} (hx : IsRow x) (hp : ∀ i, 0 ≤ x.getD i 0) (hz : ∀ i, R.arity ≤ i → x.getD i 0 = 0) :
    Calls Try.prog 38 #[.pointer (some ⟨R.p, 0, none⟩), rowV x] w fun e w' => e = .returned (.bool true) ∧ Below w.heap.size w w' := by
  have c0 := h.c0
  have har := h.ar
  have lp := h.lt R.p (by simp [RelD.foot])
  have harI : (R.arity : Int) ≤ 24 := by omega
  obtain ⟨W', hcl, hr', hb'⟩ := clear_row ((w.alloc (.cells (rowCells x).toArray 34)).alloc (.cells (rowCells x).toArray 34)) (w.heap.size + 1) R.arity hx har hz
    (by have := rangeAt_new (w.alloc (.cells (rowCells x).toArray 34)) 34 (rowCells x); rwa [World.size_alloc] at this)
    (fun j => by have := frozen_of_row ((w.alloc (.cells (rowCells x).toArray 34)).alloc (.cells (rowCells x).toArray 34)) (w.alloc (.cells (rowCells x).toArray 34)).heap.size j _ _ (heap_alloc_new _ _); rwa [World.size_alloc] at this)
  have hb0 : Below w.heap.size w W' := (((Below.refl _ w).alloc (Nat.le_refl _) _).alloc (by simp) _).trans (hb' _ (by omega))
  clear h hz
  have tok1 : True := trivial
  have tok2 : True := trivial
  go_enter Try.func38, Try.ntmps38
  go_wp2_with (first | (go_at_call 52; refine (min_pos hx hp (rangeAt_new _ _ _)).mono ?_; rintro e w' ⟨⟨m, hm, rfl⟩, rfl⟩) | (have _t := tok1; refine row_load rfl _ rfl w.heap.size 0 rfl x hx (rangeAt_new _ _ _) ?_; clear tok1) | (have _t := tok2; refine row_store_new rfl _ _ rfl (by simp; rfl) x hx rfl rfl ?_; clear tok2) | (refine row_build0 rfl rfl ?_) | (refine row_eql rfl _ _ _ rfl zeroRow_is zeroRow_is rfl rfl ?_) | (refine row_load rfl _ rfl (w.heap.size + 1) 0 rfl zeroRow zeroRow_is hr' ?_))
  go_ret
  exact ⟨by simp, hb0⟩

end Go.Proofs.Ytepimaghpjkibaa

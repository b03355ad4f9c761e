/-
  slices.Grow at nil and slices.Concat of two slices of rows.
-/
import Derived.Test.YtepimaghpjkibaaTell
import Derived.Test.YtepimaghpjkibaaNums
import Derived.Lib.AppendZerosOnto
namespace Go.Proofs.Ytepimaghpjkibaa
open Go.RowKit

set_option maxRecDepth 100000 in
set_option maxHeartbeats 800000 in
theorem grow_rows (n : Nat) (h47 : n * 96 ≤ 140737488355328) (w : World) :
    Calls Try.prog 59 #[.slice none 0 0, .int .i64 (n : Int)] w fun e w' => ∃ v, e = .returned v ∧ w'.ownsRow w.heap.size 34 24 v 0 [] ∧ Below w.heap.size w w' := by
  obtain ⟨i0, hi0, hz0, hz1, hz2⟩ := info_parts Try.info34
  by_cases hn : n = 0
  · subst hn
    go_enter Try.func59, Try.ntmps59
    go_wp2
    go_ret
    exact ⟨_, rfl, World.ownsRow_nil _ _ _ _, Below.refl _ _⟩
  · have hpos : 0 < n := by omega
    have hp : (n : Int) > 0 := by omega
    have hrz : ∀ ty, (Builtin.append_ #[22, 3] ty #[.slice none 0 0, .int .i64 (n : Int)]).run Try.prog w = .ok (.slice (some ⟨w.heap.size, 0, none⟩) n (grownCap w n 0 34)) (w.drew.alloc (.cells (#[] ++ Builtin.zeroCells (rowV zeroRow).cells n ++ Builtin.zeroCells (rowV zeroRow).cells (grownCap w n 0 34 - n)) 34)) := fun ty => by
      have h := Lib.run_append_grow_zeros w 22 3 ty 34 i0 (rowV zeroRow) .i64 .i64 Try.underlying22 Try.underlying3 hi0 hz0 none 0 0 [] (run_firstCells_none w.drew i0.size 0 0 0) n hpos (by omega) (by omega) (by omega) (by rw [hz2]; omega)
        (by rw [hz2]; exact growslice_fits (by omega) (by omega))
      simpa using h
    have hG := grownCap_ge w n 0 34
    have hG2 := grownCap_le_maxLen w n 0 34 (by unfold maxLen; omega)
    obtain ⟨G, hGe⟩ : ∃ G, G = grownCap w n 0 34 := ⟨_, rfl⟩
    rw [← hGe] at hrz hG hG2
    obtain ⟨cur, hcur⟩ : ∃ cur, cur = (#[] ++ Builtin.zeroCells (rowV zeroRow).cells n ++ Builtin.zeroCells (rowV zeroRow).cells (G - n)) := ⟨_, rfl⟩
    rw [← hcur] at hrz
    have hsz : cur.size = G * 24 := by
      have h24 : (rowV zeroRow).cells.size = 24 := rfl
      rw [hcur, Array.size_append, Array.size_append, size_zeroCells, size_zeroCells, h24]
      simp
      omega
    have hfin : (w.drew.alloc (.cells cur 34)).ownsRow w.heap.size 34 24 (.slice (some ⟨w.heap.size, 0, none⟩) 0 G) 0 [] := by
      have := World.ownsRow_made (e := 34) (size := 24) w.drew cur G (Nat.le_refl _) hG2 hsz
      exact this
    have hB : Below w.heap.size w (w.drew.alloc (.cells cur 34)) := (((Below.refl w.heap.size w).drew)).alloc (Nat.le_refl _) _
    have hGI : (0 : Int) ≤ G := by omega
    have hfin' := Lib.hid hfin
    have hB' := Lib.hid hB
    clear hGe hcur hsz hfin hB hG2 hn
    go_enter Try.func59, Try.ntmps59
    go_wp2_with (at_builtin; refine Lib.wpList_append_run _ rfl _ _ _ _ rfl _ _ rfl rfl _ _ (hrz _) ?_)
    go_ret
    exact ⟨_, rfl, hfin'.out, hB'.out⟩

theorem at_mid {w w' : World} {g off : Nat} {cs : List Value} (h : w.rangeAt g off cs) (hf : Fr [] w w') : ∀ j u, cs[j]? = some u → w'.cell? ((⟨g, off, none⟩ : Addr).add j) = some u := fun j u hj => by
  rw [Addr.add_mid]
  exact hf.cell (h j u hj) (by simp)

set_option maxRecDepth 100000 in
set_option maxHeartbeats 1600000 in
theorem concat_rows {w : World} {sb c g1 o1 n1 c1 g2 o2 n2 c2 : Nat} {x1 x2 : List Value} (hsb : w.heap[sb]? = some (.cells #[.slice (some ⟨g1, o1, none⟩) n1 c1, .slice (some ⟨g2, o2, none⟩) n2 c2] 22 (0, 0)))
    (h1 : w.rangeAt g1 o1 x1) (h2 : w.rangeAt g2 o2 x2) (l1 : x1.length = n1 * 24) (l2 : x2.length = n2 * 24) (e1 : ∀ u ∈ x1, u.oneCell' = true) (e2 : ∀ u ∈ x2, u.oneCell' = true) (h47 : (n1 + n2) * 96 ≤ 140737488355328) :
    Calls Try.prog 51 #[.slice (some ⟨sb, 0, none⟩) 2 c] w fun e w' => ∃ v, e = .returned v ∧ w'.ownsRow w.heap.size 34 24 v (n1 + n2) (x1 ++ x2) ∧ Below w.heap.size w w' := by
  obtain ⟨i0, hi0, hz0, hz1, hz2⟩ := info_parts Try.info34
  have d0 : w.cell? ⟨sb, 0, none⟩ = some (.slice (some ⟨g1, o1, none⟩) n1 c1) := by rw [cell_of_row w _ 0 _ _ _ hsb]; rfl
  have d1 : w.cell? ⟨sb, 1, none⟩ = some (.slice (some ⟨g2, o2, none⟩) n2 c2) := by rw [cell_of_row w _ 1 _ _ _ hsb]; rfl
  have hw1 : wrap64 ((n1 : Int) + (n2 : Int)) = ((n1 + n2 : Nat) : Int) := wrap64_add (by omega)
  have hw0 : wrap64 (n1 : Int) = (n1 : Int) := wrap64_nat (by omega)
  have hg := grow_rows (n1 + n2) h47 w
  obtain ⟨N, hN⟩ : ∃ N, N = n1 + n2 := ⟨_, rfl⟩
  rw [← hN] at hw1 hg
  have hN' := Lib.hid hN
  have h47' := Lib.hid h47
  have l1' := Lib.hid l1
  have l2' := Lib.hid l2
  have h1' := Lib.hid h1
  have h2' := Lib.hid h2
  clear hN h47 l1 l2 h1 h2 hsb
  go_enter Try.func51, Try.ntmps51
  go_wp2_with fail
  refine wp_loop_rounds 3 ?_
  rw [rounds_succ]
  go_wp2_with fail
  rw [rounds_succ]
  go_wp2_with fail
  rw [rounds_succ]
  go_wp2_with fail
  rw [hw1]
  refine hg.mono ?_
  rintro e w1 ⟨v1, rfl, hv1, hB1⟩
  have hF1 := Below.fr hB1 []
  have d0' := hF1.cell d0 (by simp)
  have d1' := hF1.cell d1 (by simp)
  obtain ⟨a1, k1, rfl⟩ := owns_slice hv1
  have D1 := Lib.hid d1
  clear d0 d1 hg
  go_wp2_with fail
  refine wp_loop_rounds 3 ?_
  rw [rounds_succ]
  have hm1 := Lib.hid (show 0 + n1 ≤ maxLen by have := h47'.out; unfold maxLen; omega)
  have hm2 := Lib.hid (show (0 + n1) * 96 ≤ 140737488355328 by have := h47'.out; omega)
  go_wp2_with (at_builtin; (refine wpList_append_own_at _ rfl (.tmp 31) (.tmp 32) 22 rfl w.heap.size 34 i0 (rowV zeroRow) 24 96 Try.underlying22 hi0 hz0 hz1 hz2 rfl (by omega) (.slice a1 0 k1) 0 [] rfl hv1 ⟨g1, o1, none⟩ n1 c1 x1 rfl l1'.out (at_mid h1'.out hF1) e1 hm1.out hm2.out hB1.size ?_); intro v2 w2 hv2 hgr2 _ hat2)
  have hF2 : Fr [] w w2 := hF1.trans (Fr.of_grown hgr2) (fun x hx => Or.inr (by
    have := hv1.lt x (by simpa using hx)
    omega))
  have d1'' := hF2.cell D1.out (by simp)
  rw [Nat.zero_add, List.nil_append] at hv2
  obtain ⟨a2, k2, rfl⟩ := owns_slice hv2
  clear d0' d1' hv1 hgr2 hat2
  go_wp2_with fail
  rw [rounds_succ]
  have hm3 := Lib.hid (show n1 + n2 ≤ maxLen by have := h47'.out; unfold maxLen; omega)
  go_wp2_with (at_builtin; (refine wpList_append_own_at _ rfl (.tmp 31) (.tmp 32) 22 rfl w.heap.size 34 i0 (rowV zeroRow) 24 96 Try.underlying22 hi0 hz0 hz1 hz2 rfl (by omega) (.slice a2 n1 k2) n1 x1 rfl hv2 ⟨g2, o2, none⟩ n2 c2 x2 rfl l2'.out (at_mid h2'.out hF2) e2 hm3.out h47'.out hF2.size ?_); intro v3 w3 hv3 hgr3 _ hat3)
  have hF3 : Fr [] w w3 := hF2.trans (Fr.of_grown hgr3) (fun x hx => Or.inr (by
    have := hv2.lt x (by simpa using hx)
    omega))
  have hfin := Lib.hid (show w3.ownsRow w.heap.size 34 24 v3 (n1 + n2) (x1 ++ x2) ∧ Below w.heap.size w w3 from ⟨hv3, hF3.below (fun _ h => by cases h) (Nat.le_refl _)⟩)
  clear d1'' hv2 hgr3 hat3 hv3 hF3 hF2
  go_wp2_with fail
  rw [rounds_succ]
  go_wp2_with fail
  go_ret
  exact ⟨v3, rfl, hfin.out⟩
end Go.Proofs.Ytepimaghpjkibaa

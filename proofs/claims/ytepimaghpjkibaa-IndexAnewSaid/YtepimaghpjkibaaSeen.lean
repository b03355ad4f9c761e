/-
  A book's Seen; SameMasks of one mask.
-/
import Derived.Test.YtepimaghpjkibaaMasks4
import Derived.Test.YtepimaghpjkibaaLow
import Derived.Deep.CutBlock
import Derived.Deep.DeepCutAuto
namespace Go.Proofs.Ytepimaghpjkibaa
open Go.RowKit

set_option maxRecDepth 100000 in
set_option maxHeartbeats 400000 in
theorem book_Seen_yes {w : World} {B : BkD} {R : RelD} {m : Nat} {x : Ixr} (hB : BkAt w B R) (hx : (m, x) ∈ B.tab) :
    Calls Try.prog 20 #[.pointer (some ⟨B.b, 0, none⟩), .int .u32 (m : Int)] w fun e w' => e = .returned (.int .i64 x.seen) ∧ w = w' := by
  obtain ⟨j, hj⟩ := List.getElem?_of_mem hx
  have c1 := hB.c1
  have x1 := (hB.ix _ hx).c1
  have hl := mask_look hB.hm hB.lt hB.nd hj false
  clear hB hx hj
  go_enter Try.func20, Try.ntmps20
  go_wp2
  go_ret
  exact ⟨rfl, rfl⟩

set_option maxRecDepth 100000 in
set_option maxHeartbeats 400000 in
theorem book_Seen_no {w : World} {B : BkD} {R : RelD} {m : Nat} (hB : BkAt w B R) (hm : m < 4294967296) (hno : m ∉ B.tab.map (·.1)) :
    Calls Try.prog 20 #[.pointer (some ⟨B.b, 0, none⟩), .int .u32 (m : Int)] w fun e w' => e = .returned (.int .i64 0) ∧ w = w' := by
  have c1 := hB.c1
  have hl := mask_none hB.hm hB.lt hm hno false
  clear hB hm hno
  go_enter Try.func20, Try.ntmps20
  go_wp2
  go_ret
  exact ⟨rfl, rfl⟩

set_option maxRecDepth 100000 in
set_option maxHeartbeats 400000 in
theorem same_mask_one {w : World} {g1 o1 c1 g2 o2 c2 m : Nat} (h1 : w.cell? ⟨g1, o1, none⟩ = some (.int .u32 (m : Int))) (h2 : w.cell? ⟨g2, o2, none⟩ = some (.int .u32 (m : Int))) :
    Calls Try.prog 22 #[.slice (some ⟨g1, o1, none⟩) 1 c1, .slice (some ⟨g2, o2, none⟩) 1 c2] w fun e w' => e = .returned (.bool true) ∧ Below w.heap.size w w' := by
  go_enter Try.func22, Try.ntmps22
  go_wp2_with fail
  refine wp_loop_rounds 2 ?_
  rw [rounds_succ]
  go_upto_region 6 with (fail)
  refine region_text [] 9 [true, true, true, true, true, true, true, true, true] (by kernel_rfl) (by kernel_rfl) (by intro c a d v w h; cases d <;> exact h) ?_
  intro W1 hWh hF1
  have f1 : ∀ W', Fr [] W1 W' → W'.cell? ⟨g1, o1, none⟩ = some (.int .u32 (m : Int)) := fun W' h' => (hF1.trans' h').cell h1 (by simp)
  have f2 : ∀ W', Fr [] W1 W' → W'.cell? ⟨g2, o2, none⟩ = some (.int .u32 (m : Int)) := fun W' h' => (hF1.trans' h').cell h2 (by simp)
  clear hWh h1 h2
  repeat (refine lex_quiet ?_ (fun W' hW' => ?_) ?_; rotate_left; (go_simp; first | done | rfl); (try simp only [Act.put, List.setIfInBounds_toArray, List.set_cons_succ, List.set_cons_zero]))
  refine lex_tail ?_
  clear f1 f2
  go_wp2_with fail
  rw [rounds_succ]
  go_wp2_with fail
  go_ret
  exact ⟨rfl, hF1.below (fun _ h => by cases h) (Nat.le_refl _)⟩
end Go.Proofs.Ytepimaghpjkibaa

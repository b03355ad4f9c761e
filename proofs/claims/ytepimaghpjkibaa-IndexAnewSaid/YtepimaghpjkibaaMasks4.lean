/-
  A book's Masks: of none, of one that New has not made, of one with one mask at most.
-/
import Derived.Test.YtepimaghpjkibaaMasks3
namespace Go.Proofs.Ytepimaghpjkibaa
open Go.RowKit Go.Shelf
open Go.Maps (Keyed)

set_option maxRecDepth 100000 in
set_option maxHeartbeats 400000 in
theorem masks_nil (w : World) : Calls Try.prog 19 #[.pointer none] w fun e w' => e = .returned (.slice none 0 0) ∧ w = w' := by
  go_enter Try.func19, Try.ntmps19
  go_wp2
  go_ret
  exact ⟨rfl, rfl⟩

theorem masks_of {w : World} {p : Nat} {mb : Option Nat} {ms : List Nat} (hc : w.cell? ⟨p, 1, none⟩ = some (.map mb))
    (hs : Calls Try.prog 40 #[.func (.func 55) #[] #[.pointer (some ⟨w.heap.size, 0, none⟩)]] (w.alloc (.cells #[.map mb] 94)) fun e w' => ∃ v, e = .returned v ∧ w'.ownsRow (w.heap.size + 1) 24 1 v ms.length (maskCells ms) ∧ Below (w.heap.size + 1) (w.alloc (.cells #[.map mb] 94)) w') :
    Calls Try.prog 19 #[.pointer (some ⟨p, 0, none⟩)] w fun e w' => ∃ v, e = .returned v ∧ w'.ownsRow w.heap.size 24 1 v ms.length (maskCells ms) ∧ Below w.heap.size w w' := by
  have hk := maps_Keys mb w
  go_enter Try.func19, Try.ntmps19
  go_wp2_with fail
  refine hk.mono ?_
  rintro e w1 ⟨rfl, rfl⟩
  clear hk
  go_wp2_with fail
  refine hs.mono ?_
  rintro e w1 ⟨v, rfl, hown, hb⟩
  go_wp2_with fail
  go_ret
  refine ⟨v, rfl, ⟨hown.1, hown.2.imp id fun ⟨g, cap, cur, h1, h2, h3⟩ => ⟨g, cap, cur, h1, by omega, h3⟩⟩, ?_⟩
  exact ((Below.refl _ _).alloc (Nat.le_refl _) _).trans (hb.mono (by omega))

set_option maxRecDepth 100000 in
/-- Of a book that New has not made. -/
theorem masks_zero {w : World} {p : Nat} (hc : w.cell? ⟨p, 1, none⟩ = some (.map none)) :
    Calls Try.prog 19 #[.pointer (some ⟨p, 0, none⟩)] w fun e w' => ∃ v, e = .returned v ∧ w'.ownsRow w.heap.size 24 1 v 0 (maskCells []) ∧ Below w.heap.size w w' := by
  refine masks_of (ms := []) hc ?_
  have hb : (w.alloc (.cells #[.map none] 94)).cell? ⟨w.heap.size, 0, none⟩ = some (.map none) := by rw [cell_of_row _ _ 0 _ _ _ (heap_alloc_new w _)]; rfl
  have := sorted_small (enters_of Try.func55 (by kernel_rfl) rfl) (ms := []) (N := 0) (by simp) (by simp) (keys_stops_nil 3 w.heap.size hb)
  simpa using this

set_option maxRecDepth 100000 in
/-- Of a book with one mask at most. -/
theorem masks_one {w : World} {B : BkD} {R : RelD} (hB : BkAt w B R) (hl : (B.tab.map (·.1)).length ≤ 1) :
    Calls Try.prog 19 #[.pointer (some ⟨B.b, 0, none⟩)] w fun e w' => ∃ v, e = .returned v ∧ w'.ownsRow w.heap.size 24 1 v (B.tab.map (·.1)).length (maskCells (B.tab.map (·.1))) ∧ Below w.heap.size w w' := by
  refine masks_of hB.c1 ?_
  have hb : (w.alloc (.cells #[.map (some B.m)] 94)).cell? ⟨w.heap.size, 0, none⟩ = some (.map (some B.m)) := by rw [cell_of_row _ _ 0 _ _ _ (heap_alloc_new w _)]; rfl
  have hF : Fr [] w (w.alloc (.cells #[.map (some B.m)] 94)) := (Fr.refl _ _).alloc _
  have hs := keys_stops (hB.hm.fr hF (by simp)) (ms := B.tab.map (·.1)) (by simp [BkD.kv, Function.comp_def]) (fun m hm => by obtain ⟨p, hp, rfl⟩ := List.mem_map.1 hm; exact hB.lt p hp) hB.nd (by unfold maxLen; omega) 3 (by omega) w.heap.size hb
  have := sorted_small (enters_of Try.func55 (by kernel_rfl) rfl) hl (by omega) hs
  simpa using this
end Go.Proofs.Ytepimaghpjkibaa

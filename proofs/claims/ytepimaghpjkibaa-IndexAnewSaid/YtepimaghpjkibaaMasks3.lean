import Derived.Test.YtepimaghpjkibaaMasks2
namespace Go.Proofs.Ytepimaghpjkibaa
open Go.RowKit Go.Shelf
open Go.Maps (Keyed)

set_option maxRecDepth 100000 in
set_option maxHeartbeats 400000 in
theorem bits_small (n : Nat) (hn : n ≤ 1) (w : World) : Calls Try.prog 62 #[.int .u64 (n : Int)] w fun e w' => (∃ k : Int, e = .returned (.int .i64 k)) ∧ w = w' := by
  rcases (show n = 0 ∨ n = 1 by omega) with rfl | rfl
  · go_enter Try.func62, Try.ntmps62
    go_wp2
    go_ret
    exact ⟨⟨_, rfl⟩, rfl⟩
  · go_enter Try.func62, Try.ntmps62
    go_wp2
    go_ret
    exact ⟨⟨_, rfl⟩, rfl⟩

set_option maxRecDepth 100000 in
set_option maxHeartbeats 400000 in
theorem insert_small (a : Option Addr) (c n : Nat) (hn : n ≤ 1) (w : World) : Calls Try.prog 63 #[.slice a n c, .int .i64 0, .int .i64 (n : Int)] w fun e w' => e = .returned (.tuple #[]) ∧ w = w' := by
  have hnI : (n : Int) ≤ 1 := by omega
  go_enter Try.func63, Try.ntmps63
  go_wp2_with fail
  refine wp_loop_rounds 1 ?_
  rw [rounds_succ]
  go_wp2_with fail
  go_end0
  exact ⟨rfl, rfl⟩

set_option maxRecDepth 100000 in
set_option maxHeartbeats 400000 in
theorem pdq_small (a : Option Addr) (c n : Nat) (k : Int) (hn : n ≤ 1) (w : World) : Calls Try.prog 61 #[.slice a n c, .int .i64 0, .int .i64 (n : Int), .int .i64 k] w fun e w' => e = .returned (.tuple #[]) ∧ w = w' := by
  have hnI : (n : Int) ≤ 1 := by omega
  have hi := insert_small a c n hn
  go_enter Try.func61, Try.ntmps61
  go_wp2_with fail
  refine wp_loop_rounds 1 ?_
  rw [rounds_succ]
  go_wp2_with (go_at_call 63; refine (hi _).mono ?_; rintro e w' ⟨rfl, rfl⟩)
  refine bodyPost_ret (results_none rfl _ _ _) rfl ?_
  exact ⟨rfl, rfl⟩

set_option maxRecDepth 100000 in
set_option maxHeartbeats 400000 in
theorem sort_small (a : Option Addr) (c n : Nat) (hn : n ≤ 1) (w : World) : Calls Try.prog 54 #[.slice a n c] w fun e w' => e = .returned (.tuple #[]) ∧ w = w' := by
  have hnI : (n : Int) ≤ 1 := by omega
  have hb := bits_small n hn
  have hp := fun k => pdq_small a c n k hn
  go_enter Try.func54, Try.ntmps54
  go_wp2_with (first | (go_at_call 62; refine (hb _).mono ?_; rintro e w' ⟨⟨k, rfl⟩, rfl⟩) | (go_at_call 61; refine (hp _ _).mono ?_; rintro e w' ⟨rfl, rfl⟩))
  go_end0
  exact ⟨rfl, rfl⟩

set_option maxRecDepth 100000 in
set_option maxHeartbeats 400000 in
/-- slices.Sorted over whatever gives these masks, one at most. -/
theorem sorted_small {w : World} {g : Nat} {lb : Array Value} {ms : List Nat} {N : Nat} (hg : ∀ args w, (callFunc g args).run Try.prog w = .ok (.enter g args) w) (hms : ms.length ≤ 1) (hN : N * 4 ≤ 140737488355328)
    (hseq : SeqStopsK Fence.wide 3 Try.prog g lb (fun m : Nat => #[.int .u32 (m : Int)]) KeepsWalks (fun xs => xs.Perm ms) (fun _ => True) N w) :
    Calls Try.prog 40 #[.func (.func g) #[] lb] w fun e w' => ∃ v, e = .returned v ∧ w'.ownsRow w.heap.size 24 1 v ms.length (maskCells ms) ∧ Below w.heap.size w w' := by
  have ha := append_seq hg hN hseq
  have hms' := Lib.hid hms
  clear hN hseq hg hms
  have hc : Calls Try.prog 53 #[.func (.func g) #[] lb] w fun e w' => ∃ v, e = .returned v ∧ w'.ownsRow w.heap.size 24 1 v ms.length (maskCells ms) ∧ Below w.heap.size w w' := by
    go_enter Try.func53, Try.ntmps53
    go_wp2_with fail
    refine ha.mono ?_
    rintro e w1 ⟨v, xs, rfl, hp, hown, hb⟩
    go_wp2_with fail
    go_ret
    have hx : xs = ms := by
      have hl := hp.length_eq
      cases ms with
      | nil => exact List.length_eq_zero_iff.1 hl
      | cons m r =>
        have : r = [] := List.length_eq_zero_iff.1 (by have := hms'.out; simp at this; exact List.length_eq_zero_iff.2 this)
        subst this
        exact List.perm_singleton.1 hp
    rw [← hx]
    exact ⟨v, rfl, hown, hb⟩
  clear ha
  go_enter Try.func40, Try.ntmps40
  go_wp2_with fail
  refine hc.mono ?_
  rintro e w1 ⟨v, rfl, hown, hb⟩
  obtain ⟨a, c, rfl⟩ := owns_slice hown
  clear hc
  go_wp2_with (go_at_call 54; refine (sort_small a c ms.length hms'.out _).mono ?_; rintro e w' ⟨rfl, rfl⟩)
  go_ret
  exact ⟨_, rfl, hown, hb⟩
end Go.Proofs.Ytepimaghpjkibaa

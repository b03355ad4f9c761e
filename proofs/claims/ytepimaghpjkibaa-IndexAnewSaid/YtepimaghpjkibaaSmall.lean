/-
  The small calls of package index: is there a relation, has it the mask's columns, a book made, a list cloned.
-/
import Derived.Test.YtepimaghpjkibaaGroups
import Derived.Test.YtepimaghpjkibaaKey
import Derived.Test.YtepimaghpjkibaaClone
namespace Go.Proofs.Ytepimaghpjkibaa
open Go.RowKit

set_option maxHeartbeats 400000 in
theorem under_there {w : World} {p : Option Addr} :
    Calls Try.prog 42 #[.agg #[.pointer p]] w fun e w' => e = .returned (.bool p.isSome) ∧ Below w.heap.size w w' := by
  go_enter Try.func42, Try.ntmps42
  go_wp2
  go_ret
  exact ⟨rfl, (Below.refl _ _).alloc (Nat.le_refl _) _⟩

theorem shr_zero (m a : Nat) : ((m : Int) / 2 ^ a == 0) = decide (m < 2 ^ a) := by
  rw [show (m : Int) / 2 ^ a = ((m / 2 ^ a : Nat) : Int) by simp]
  have h2 : (m / 2 ^ a = 0) ↔ m < 2 ^ a := by rw [Nat.div_eq_zero_iff]; have := Nat.two_pow_pos a; omega
  by_cases h : m < 2 ^ a
  · rw [h2.2 h]; simp [h]
  · have h3 : m / 2 ^ a ≠ 0 := fun e => h (h2.1 e)
    simp only [decide_eq_false h, beq_eq_false_iff_ne]
    omega

set_option maxHeartbeats 400000 in
theorem under_holds {w : World} {R : RelD} (hR : RelAt w R) (m : Nat) :
    Calls Try.prog 43 #[.agg #[.pointer (some ⟨R.p, 0, none⟩)], .int .u32 m] w fun e w' => e = .returned (.bool (decide (m < 2 ^ R.arity))) ∧ Below w.heap.size w w' := by
  have hz := Lib.hid (shr_zero m R.arity)
  have ha : (R.arity : Int) ≤ 24 := by have := hR.ar; omega
  have hA := rel_Arity (hR.below ((Below.refl _ w).alloc (Nat.le_refl _) (.cells #[.pointer (some ⟨R.p, 0, none⟩)] 93)))
  have hR' := Lib.hid hR
  clear hR
  go_enter Try.func43, Try.ntmps43
  go_wp2_with (go_at_call 56; refine hA.mono ?_; rintro e w' ⟨rfl, rfl⟩)
  go_ret
  refine ⟨?_, (Below.refl _ _).alloc (Nat.le_refl _) _⟩
  rw [← hz.out]
  rfl

set_option maxRecDepth 100000 in
set_option maxHeartbeats 400000 in
theorem rel_At_neg {w : World} {R : RelD} (h : RelAt w R) :
    Calls Try.prog 10 #[.pointer (some ⟨R.p, 0, none⟩), .int .i64 (-1)] w fun e w' => e = .returned (.tuple #[rowV zeroRow, .int .i64 1]) ∧ Below w.heap.size w w' := by
  have c2 := h.c2
  have d0 := h.d0
  go_enter Try.func10, Try.ntmps10
  go_wp2_with (first | (go_at_call 26; refine (rel_there (h.below ((Below.refl _ _).alloc (Nat.le_refl _) _))).mono ?_; rintro e w' ⟨rfl, rfl⟩) | (refine row_build0 rfl rfl ?_) | (refine row_store_new rfl _ _ rfl rfl zeroRow zeroRow_is rfl rfl ?_))
  refine bodyPost_ret (results_row_tmp rfl _ _ w.heap.size zeroRow zeroRow_is rfl (rangeAt_new _ _ _)) rfl ⟨?_, ?_⟩
  · rfl
  · exact (Below.refl _ _).alloc (Nat.le_refl _) _

set_option maxRecDepth 100000 in
set_option maxHeartbeats 400000 in
theorem book_New {w : World} {R : RelD} (h : RelAt w R) :
    Calls Try.prog 15 #[.pointer (some ⟨R.p, 0, none⟩)] w fun e w' => ∃ B : BkD, e = .returned (.tuple #[.pointer (some ⟨B.b, 0, none⟩), .int .i64 0]) ∧ BkAt w' B R ∧ B.tab = [] ∧ (∀ c ∈ B.foot, w.heap.size ≤ c) ∧ Below w.heap.size w w' := by
  have hA := rel_At_neg h
  have hmm := @run_makeMap Try.prog
  have hlt := Lib.hid h.lt
  clear h
  go_enter Try.func15, Try.ntmps15
  go_wp2_with (first | (go_at_call 10; refine hA.mono ?_; rintro e w1 ⟨rfl, hB1⟩) | (refine row_store_new rfl _ _ rfl rfl zeroRow zeroRow_is rfl rfl ?_))
  go_ret2
  have hs1 := hB1.size
  refine ⟨⟨w1.heap.size + 1 + 1, w1.heap.size + 1, []⟩, rfl, ⟨?_, ?_, by simp, by simp, by simp, by simp, by simp, ?_, by simp⟩, rfl, ?_, ?_⟩
  · simp only [heap_at, World.size_alloc, if_true]
  · exact ⟨#[], 0, by simp only [heap_at, World.size_alloc]; rw [if_neg (by omega)]; simp only [if_true], rfl, by simp, by simp⟩
  · intro c hc hR
    have := hlt.out c hR
    simp [BkD.foot] at hc
    omega
  · intro c hc
    simp [BkD.foot] at hc
    omega
  · exact ((hB1.alloc hB1.size _).alloc (by simp; omega) _).alloc (by simp; omega) _

set_option maxRecDepth 100000 in
set_option maxHeartbeats 400000 in
theorem clone_ints {w : World} {v : Value} {n : Nat} {xs : List Value} (hown : w.ownsRow 0 3 1 v n xs) (h47 : n * 8 ≤ 140737488355328) (hone : ∀ u ∈ xs, u.oneCell' = true) :
    Calls Try.prog 28 #[v] w fun e w' => ∃ v', e = .returned v' ∧ w'.ownsRow w.heap.size 3 1 v' n xs ∧ Below w.heap.size w w' := by
  obtain ⟨i0, hi0, hz0, hz1, hz2⟩ := info_parts Try.info3
  have hlen : xs.length = n * 1 := hown.1
  have h47' := Lib.hid h47
  clear h47
  rcases hown.2 with ⟨rfl, rfl⟩ | ⟨g, cap, cur, rfl, _, hg, hnc, hcm, hcs, htk⟩
  · have hn := fun w => Lib.run_eql_slice_nil (P := Try.prog) w 38 3 none 0 0 0 0 Try.underlying38
    have hx : xs = [] := List.length_eq_zero_iff.1 (by omega)
    subst hx
    clear hown hlen
    go_enter Try.func28, Try.ntmps28
    go_wp2_with fail
    go_ret
    exact ⟨_, rfl, World.ownsRow_nil _ _ _ _, Below.refl _ _⟩
  · have hn := fun w => Lib.run_eql_slice_nil (P := Try.prog) w 38 3 (some ⟨g, 0, none⟩) n cap 0 0 Try.underlying38
    have lg := (Array.getElem?_eq_some_iff.1 hg).1
    have hB1 : Below w.heap.size w (w.alloc (.cells #[] 3)) := (Below.refl _ w).alloc (Nat.le_refl _) _
    have hown0 : (w.alloc (.cells #[] 3)).ownsRow w.heap.size 3 1 (.slice (some ⟨w.heap.size, 0, none⟩) 0 0) 0 [] :=
      ⟨by simp, .inr ⟨w.heap.size, 0, #[], rfl, Nat.le_refl _, heap_alloc_new w _, Nat.le_refl _, Nat.zero_le _, by simp, by simp⟩⟩
    have hnews : ∀ j u, xs[j]? = some u → (w.alloc (.cells #[] 3)).cell? ((⟨g, 0, none⟩ : Addr).add j) = some u := fun j u hu => by
      have := hown.cells (g := g) rfl j u hu
      rw [Addr.add_mid] at this ⊢
      exact (hB1.cell (p := ⟨g, 0 + j, none⟩) lg).trans this
    have hml' := Lib.hid (show 0 + n ≤ maxLen by have := h47'.out; unfold maxLen; omega)
    have hby' := Lib.hid (show (0 + n) * 8 ≤ 140737488355328 by have := h47'.out; omega)
    clear hg hnc hcm hcs htk hown
    go_enter Try.func28, Try.ntmps28
    go_wp2_with (at_builtin; (refine wpList_append_own_at _ rfl (.tmp 5) (.tmp 6) 38 rfl w.heap.size 3 i0 (.int .i64 0) 1 8 Try.underlying38 hi0 hz0 hz1 hz2 rfl (by omega) (.slice (some ⟨w.heap.size, 0, none⟩) 0 0) 0 [] rfl hown0 ⟨g, 0, none⟩ n cap xs rfl hlen hnews hone hml'.out hby'.out (by simp) ?_); intro v' w1 hown1 hgrow _ hat)
    go_ret
    refine ⟨v', rfl, by simpa using hown1, ?_⟩
    exact ((Below.fr hB1 []).trans (Fr.of_grown hgrow) (fun x hx => Or.inr (by simp [Value.ownBlock] at hx; omega))).below (fun _ h => by cases h) (Nat.le_refl _)

end Go.Proofs.Ytepimaghpjkibaa

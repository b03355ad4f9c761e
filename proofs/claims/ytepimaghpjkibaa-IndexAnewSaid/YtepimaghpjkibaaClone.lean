import Derived.Test.YtepimaghpjkibaaRel
import Derived.Test.YtepimaghpjkibaaKey
import Derived.Test.YtepimaghpjkibaaRound
import Derived.Deep.DeepMust
namespace Go.Proofs.Ytepimaghpjkibaa
open Go.RowKit

set_option maxRecDepth 100000 in
set_option maxHeartbeats 400000 in
theorem clone_rows {w : World} {g off cap : Nat} {k : Nat} {cs : List Value} (hk : 0 < k) (hlen : cs.length = k * 24) (hone : ∀ u ∈ cs, u.oneCell' = true) (hcs : w.rangeAt g off cs) (h47 : k * 96 ≤ 140737488355328) :
    Calls Try.prog 58 #[.slice (some ⟨g, off, none⟩) k cap] w fun e w' => ∃ G cap' cur, e = .returned (.slice (some ⟨G, 0, none⟩) k cap') ∧ w'.heap[G]? = some (.cells cur 34 (0, 0)) ∧ cur.toList.take (k * 24) = cs ∧ Below w.heap.size w w' := by
  have h47' := Lib.hid h47
  clear h47
  have hn := fun w => Lib.run_eql_slice_nil (P := Try.prog) w 22 34 (some ⟨g, off, none⟩) k cap 0 0 Try.underlying22
  obtain ⟨i0, hi0, hz0, hz1, hz2⟩ := info_parts Try.info34
  go_enter Try.func58, Try.ntmps58
  have lg := World.block_lt_of_cell? w _ (hcs 0 _ (List.getElem?_eq_getElem (show 0 < cs.length by omega)))
  have hB1 : Below w.heap.size w (w.alloc (.cells #[] 34)) := (Below.refl _ w).alloc (Nat.le_refl _) _
  have hown : (w.alloc (.cells #[] 34)).ownsRow w.heap.size 34 24 (.slice (some ⟨w.heap.size, 0, none⟩) 0 0) 0 [] :=
    ⟨by simp, .inr ⟨w.heap.size, 0, #[], rfl, Nat.le_refl _, heap_alloc_new w _, Nat.le_refl _, Nat.zero_le _, by simp, by simp⟩⟩
  have hnews : ∀ j u, cs[j]? = some u → (w.alloc (.cells #[] 34)).cell? ((⟨g, off, none⟩ : Addr).add j) = some u := fun j u hu => by
    rw [Addr.add_mid]; exact (hB1.cell (p := ⟨g, off + j, none⟩) lg).trans (hcs j u hu)
  have hml : 0 + k ≤ maxLen := by have := h47'.out; unfold maxLen; omega
  have hby : (0 + k) * 96 ≤ 140737488355328 := by have := h47'.out; omega
  have hml' := Lib.hid hml
  have hby' := Lib.hid hby
  clear hml hby
  go_wp2_with (at_builtin; go_must (refine wpList_append_lies _ rfl (.tmp 5) (.tmp 6) 22 rfl w.heap.size 34 i0 (rowV zeroRow) 24 96 Try.underlying22 hi0 hz0 hz1 hz2 rfl (by omega) (.slice (some ⟨w.heap.size, 0, none⟩) 0 0) 0 [] rfl hown ⟨g, off, none⟩ k cap cs rfl hlen hnews hone hk hml'.out hby'.out (by simp) (w.heap.size + 1) (by simp) ?_); intro G cap' w1 hown1 hgrow hat hlt)
  go_ret
  obtain ⟨_, h | ⟨g', c', cur, he, hg', hh, _, _, _, htk⟩⟩ := hown1
  · exact absurd h.1 (by simp)
  · simp only [Value.slice.injEq, Option.some.injEq, Addr.mk.injEq] at he
    obtain ⟨⟨rfl, _⟩, _, rfl⟩ := he
    refine ⟨G, ⟨_, rfl⟩, cur, hh, by simpa using htk, ?_⟩
    exact ((Below.fr hB1 []).trans (Fr.of_grown hgrow) (fun x hx => Or.inr (by simp [Value.ownBlock] at hx; omega))).below (fun _ h => by cases h) (Nat.le_refl _)

theorem range_make {w : World} (R : Addr) (i j : Nat) :
    Calls Try.prog 45 #[.pointer (some R), .int .i64 i, .int .i64 j] w fun e w' => e = .returned (.func (.func 57) #[] #[.pointer (some ⟨w.heap.size, 0, none⟩), .pointer (some ⟨w.heap.size + 1, 0, none⟩), .pointer (some ⟨w.heap.size + 2, 0, none⟩)]) ∧
      w' = ((w.alloc (.cells #[.pointer (some R)] 26)).alloc (.cells #[.int .i64 i] 3)).alloc (.cells #[.int .i64 j] 3) := by
  go_enter Try.func45, Try.ntmps45
  go_wp2
  go_ret
  exact ⟨rfl, rfl⟩

end Go.Proofs.Ytepimaghpjkibaa

/-
  A book over a relation that grows; 'lives': a book finds two of three rows.
-/
import Derived.Test.YtepimaghpjkibaaFit
namespace Go.Proofs.Ytepimaghpjkibaa
open Go.RowKit

theorem addRow_more (rows : List Row) (x : Row) : ∃ l, addRow rows x = rows ++ l := by
  unfold addRow
  split
  · exact ⟨[], by simp⟩
  · exact ⟨[x], rfl⟩

/-- A row added to the relation under a book. -/
theorem BkAt.added {w w' : World} {B : BkD} {R : RelD} (h : BkAt w B R) {x : Row} {sv : Value} (hf : Fr R.inner w w') (hsv : ∀ k, sv.ownBlock = some k → R.sv.ownBlock = some k ∨ w.heap.size ≤ k) : BkAt w' B { R with rows := addRow R.rows x, sv := sv } := by
  obtain ⟨l, hl⟩ := addRow_more R.rows x
  refine (h.fr hf (fun c hc hc' => h.apR c hc (R.inner_foot c hc'))).rel rfl (fun c hc hc' => ?_) (fun p hp => (h.inv p hp).more rfl hl)
  simp only [RelD.foot, List.mem_cons, Option.mem_toList] at hc'
  have hlt := h.flt c hc
  rcases hc' with e | e | e | e
  · exact h.apR c hc (by simp [RelD.foot, e])
  · exact h.apR c hc (by simp [RelD.foot, e])
  · exact h.apR c hc (by simp [RelD.foot, e])
  · rcases hsv c e with e' | e'
    · exact h.apR c hc (by simp [RelD.foot, e'])
    · omega

section
variable {ops : Array Oper} {rest : List Oper} {o : Oper} {a : Act} {w : World} {Q : Exit → Act → World → Prop}
theorem row_build (hgd : o.guard = none) (parts : Array (Nat × Operand)) (ho : o.op = .build 34 parts) (r : Row) (hrun : (Instr.build 34 (parts.map fun p => (p.1, a.eval p.2))).run Try.prog w = .ok (rowV r) w)
    (h : wpList Try.prog ops Q rest (a.put o.dst (rowV r)) w) : wpList Try.prog ops Q (o :: rest) a w := by
  refine wpList_plain hgd fun K hK => ?_
  unfold Oper.wp execOp
  simp only [ho, Sem.run_bind, Sem.run_pure]
  have : (Instr.build 34 (parts.map fun p => (p.1, a.eval p.2))).run Try.prog w = .ok (rowV r) w := hrun
  simp only [this, Result.andThen_ok]
  exact hK _ _ h
end

def lit (l : List Int) : Row := l ++ List.replicate (24 - l.length) 0

theorem lit_is {l : List Int} (h : l.length ≤ 24) (hl : ∀ y ∈ l, -2147483648 ≤ y ∧ y ≤ 2147483647) : IsRow (lit l) := by
  refine ⟨by simp [lit]; omega, fun y hy => ?_⟩
  rcases List.mem_append.1 hy with hy | hy
  · exact hl y hy
  · have := (List.mem_replicate.1 hy).2
    omega

theorem lit_good {l : List Int} (a : Nat) (h : l.length ≤ a) (ha : a ≤ 24) (hl : ∀ y ∈ l, 0 ≤ y ∧ y ≤ 2147483647) : GoodRow a (lit l) := by
  refine ⟨lit_is (by omega) (fun y hy => by have := hl y hy; omega), fun i => ?_, fun i hi => ?_⟩
  · rw [List.getD_eq_getElem?_getD]
    cases e : (lit l)[i]? with
    | none => simp
    | some y =>
      rcases List.mem_append.1 (List.mem_of_getElem? e) with hy | hy
      · exact (hl y hy).1
      · have := (List.mem_replicate.1 hy).2
        simp [this]
  · rw [List.getD_eq_getElem?_getD, lit, List.getElem?_append_right (by omega), List.getElem?_replicate]
    split <;> simp

theorem inner_ge {n : Nat} {R : RelD} {rows : List Row} {sv : Value} (hft : ∀ b ∈ R.foot, n ≤ b) (hs : ∀ k, sv.ownBlock = some k → n ≤ k) : ∀ c ∈ RelD.inner { R with rows := rows, sv := sv }, n ≤ c := fun c hc => by
  simp only [RelD.inner, List.mem_cons, Option.mem_toList] at hc
  rcases hc with e | e | e
  · exact hft c (by simp [RelD.foot, e])
  · exact hft c (by simp [RelD.foot, e])
  · exact hs c e

theorem ints_of_own {w : World} {b : Nat} {v : Value} {l : List Nat} (h : w.ownsRow b 3 1 v l.length (ints l)) : IntsAt w v l := by
  rcases h.2 with ⟨h1, h2⟩ | ⟨g, cap, cur, h1, _, _, h3, _⟩
  · exact ⟨none, 0, by rw [h1, h2], by omega, Or.inl (List.length_eq_zero_iff.1 h2)⟩
  · refine ⟨_, cap, h1, h3, Or.inr ⟨g, 0, rfl, fun i hi => ?_⟩⟩
    have := h.cells (g := g) (by rw [h1]; rfl) i (.int .i64 ((l.getD i 0 : Nat) : Int)) (by simp [ints, List.getD_eq_getElem?_getD, List.getElem?_eq_getElem hi])
    rw [Addr.add_mid] at this
    exact this

theorem IntsAt.fr {S : List Nat} {w w' : World} {v : Value} {l : List Nat} (h : IntsAt w v l) (hf : Fr S w w') (hS : ∀ k, v.ownBlock = some k → k ∉ S) : IntsAt w' v l := by
  obtain ⟨a, c, rfl, hc, h⟩ := h
  rcases h with h | ⟨g, o, rfl, h'⟩
  · exact ⟨a, c, rfl, hc, Or.inl h⟩
  · exact ⟨_, c, rfl, hc, Or.inr ⟨g, o, rfl, fun i hi => hf.cell (h' i hi) (hS g rfl)⟩⟩

theorem ints_new (w : World) (l : List Nat) (t : TypeId) : IntsAt (w.alloc (.cells (ints l).toArray t)) (.slice (some ⟨w.heap.size, 0, none⟩) l.length l.length) l := by
  refine ⟨_, _, rfl, Nat.le_refl _, Or.inr ⟨_, 0, rfl, fun i hi => ?_⟩⟩
  rw [cell_of_row _ _ _ _ _ _ (heap_alloc_new w _)]
  simp [ints, List.getD_eq_getElem?_getD, List.getElem?_eq_getElem hi]

set_option maxRecDepth 100000 in
set_option maxHeartbeats 400000 in
theorem lives_true (w : World) : Calls Try.prog 6 #[] w fun e w' => e = .returned (.bool true) ∧ Below w.heap.size w w' := by
  have hN := rel_New 2 w (by omega)
  have l1 : (1 : Nat) * 96 ≤ 140737488355328 := by decide
  have l1 := Lib.hid l1
  go_enter Try.func6, Try.ntmps6
  go_wp2_with (go_at_call 23; refine hN.mono ?_; rintro e w1 ⟨R, rfl, hR, ha, hg, hrs, hft, hB1⟩)
  have hA1 := rel_Add hR (x := lit [1, 2]) (by rw [ha]; exact lit_good 2 (by decide) (by decide) (by decide)) (by rw [hrs]; decide)
  refine hA1.mono ?_
  rintro e w2 ⟨b2, sv2, rfl, hR2, hsv2, hF2⟩
  rw [hrs] at hR2
  have e2 : addRow [] (lit [1, 2]) = [lit [1, 2]] := rfl
  rw [e2] at hR2
  go_wp2_with fail
  have hA2 := rel_Add hR2 (x := lit [4, 2]) (by show GoodRow R.arity _; rw [ha]; exact lit_good 2 (by decide) (by decide) (by decide)) (by show 2 * 96 ≤ _; decide)
  refine hA2.mono ?_
  rintro e w3 ⟨b3, sv3, rfl, hR3, hsv3, hF3⟩
  have e3 : addRow [lit [1, 2]] (lit [4, 2]) = [lit [1, 2], lit [4, 2]] := by decide
  simp only [e3] at hR3
  go_wp2_with fail
  refine (book_New hR3).mono ?_
  rintro e w4 ⟨B, rfl, hB4, htab, hft4, hBl4⟩
  have hR4 := hR3.below hBl4
  go_wp2_with fail
  have hC := book_Count (r := lit [0, 2]) (m := 2) (lit_is (by decide) (by decide)) hB4 hR4 (by show 2 < 2 ^ R.arity; rw [ha]; decide) (by show 2 * 96 ≤ _; decide)
  refine hC.mono ?_
  rintro e w5 ⟨B5, rfl, hT5⟩
  have hc : (idxs 2 [lit [1, 2], lit [4, 2]] (keyR 2 (lit [0, 2]))).length = 2 := by decide
  simp only [hc]
  go_wp2_with fail
  have hA3 := rel_Add hT5.rl (x := lit [1, 3]) (by show GoodRow R.arity _; rw [ha]; exact lit_good 2 (by decide) (by decide) (by decide)) (by show 3 * 96 ≤ _; decide)
  refine hA3.mono ?_
  rintro e w6 ⟨b6, sv6, rfl, hR6, hsv6, hF6⟩
  have hB6 := hT5.bk.added (x := lit [1, 3]) hF6 hsv6
  have e6 : addRow [lit [1, 2], lit [4, 2]] (lit [1, 3]) = [lit [1, 2], lit [4, 2], lit [1, 3]] := by decide
  simp only [e6] at hR6 hB6
  go_wp2_with fail
  have hL := book_Look (r := lit [1]) (m := 1) (lit_is (by decide) (by decide)) hB6 hR6 (by show 1 < 2 ^ R.arity; rw [ha]; decide) (by show 3 * 96 ≤ _; decide)
  rw [hT5.eb] at hL
  refine hL.mono ?_
  rintro e w7 ⟨B7, v, rfl, hT7, hv, hvf⟩
  have hi : idxs 1 [lit [1, 2], lit [4, 2], lit [1, 3]] (keyR 1 (lit [1])) = [0, 2] := by decide
  simp only [hi] at hv
  obtain ⟨va, vc, rfl⟩ := owns_slice hv
  go_wp2_with fail
  have hI1 := (ints_of_own (l := [0, 2]) hv).fr (Fr.mono ((Fr.refl [] w7).alloc (.cells #[.int .i64 0, .int .i64 2] 3)) (fun _ h => h)) (by simp)
  have hI2 : IntsAt (w7.alloc (.cells #[.int .i64 0, .int .i64 2] 3)) (.slice (some ⟨w7.heap.size, 0, none⟩) 2 2) [0, 2] := ints_new w7 [0, 2] 3
  refine (same_ints hI1 hI2 (by decide)).mono ?_
  rintro e w8 ⟨rfl, hB8⟩
  have hs1 : ∀ k, R.sv.ownBlock = some k → w.heap.size ≤ k := fun k hk => hft k (by simp [RelD.foot, hk])
  have hs2 : ∀ k, sv2.ownBlock = some k → w.heap.size ≤ k := fun k hk => (hsv2 k hk).elim (hs1 k) (fun h => Nat.le_trans hB1.size h)
  have f2 := (Below.fr hB1 []).trans hF2 (fun c hc => Or.inr (hft c (R.inner_foot c hc)))
  have hs3 : ∀ k, sv3.ownBlock = some k → w.heap.size ≤ k := fun k hk => (hsv3 k hk).elim (hs2 k) (fun h => Nat.le_trans f2.size h)
  have f3 := f2.trans hF3 (fun c hc => Or.inr (inner_ge hft hs2 c hc))
  have f4 := f3.trans' (Below.fr hBl4 [])
  have f5 := f4.trans hT5.fr (fun c hc => Or.inr (Nat.le_trans f3.size (hft4 c hc)))
  have hb5 : ∀ c ∈ B5.foot, w.heap.size ≤ c := fun c hc => (hT5.foot c hc).elim (fun h => Nat.le_trans f3.size (hft4 c h)) (fun h => Nat.le_trans f4.size h)
  have f6 := f5.trans hF6 (fun c hc => Or.inr (inner_ge hft hs3 c hc))
  have f7 := f6.trans hT7.fr (fun c hc => Or.inr (hb5 c hc))
  have f8 := (f7.alloc (.cells #[.int .i64 0, .int .i64 2] 3)).trans' (Below.fr hB8 [])
  have hfin := f8.below (fun _ h => by cases h) (Nat.le_refl _)
  clear hI1 hI2 hL hA3 hA2 hA1 hC hN f2 f3 f4 f5 f6 f7 f8
  go_wp2_with fail
  go_ret
  exact ⟨rfl, hfin⟩
end Go.Proofs.Ytepimaghpjkibaa

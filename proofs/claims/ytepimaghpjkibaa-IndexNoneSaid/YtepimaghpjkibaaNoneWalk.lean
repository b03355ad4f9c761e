/-
  The walk of IndexNone.
-/
import Derived.Test.YtepimaghpjkibaaAsksNone
namespace Go.Proofs.Ytepimaghpjkibaa
open Go.RowKit

theorem Try.size47 : (Try.prog.info? 47).map (·.size) = some 28 := by kernel_rfl

section
variable {ops : Array Oper} {rest : List Oper} {o : Oper} {a : Act} {w : World} {Q : Exit → Act → World → Prop}
theorem op_load (hgd : o.guard = none) (x : Operand) (ho : o.op = .load 47 x) (b : Nat) (hx : a.eval x = .pointer (some ⟨b, 0, none⟩)) {kind on book : Int} {m : Nat} {r : Row} (hr : IsRow r) (hc : w.rangeAt b 0 (opCells kind on book m r))
    (h : wpList Try.prog ops Q rest (a.put o.dst (opV kind on book m r)) w) : wpList Try.prog ops Q (o :: rest) a w :=
  wpList_load_mid hgd 47 x ho b 0 hx (opCells kind on book m r) _ hc Try.underlying47 rfl (by rw [Try.size47]; simp [opCells, rowCells_length, hr.1]) h

/-- .. guarded. -/
theorem op_loadG (hw : Region.wanted o (yielded ops a.tmps) = true) (x : Operand) (ho : o.op = .load 47 x) (b : Nat) (hx : a.eval x = .pointer (some ⟨b, 0, none⟩)) {kind on book : Int} {m : Nat} {r : Row} (hr : IsRow r) (hc : w.rangeAt b 0 (opCells kind on book m r))
    (h : wpList Try.prog ops Q rest (a.put o.dst (opV kind on book m r)) w) : wpList Try.prog ops Q (o :: rest) a w := by
  unfold wpList
  rw [if_pos hw]
  exact Or.inl (wp_load_mid 47 x ho b 0 hx (opCells kind on book m r) _ hc Try.underlying47 rfl (by rw [Try.size47]; simp [opCells, rowCells_length, hr.1]) h)
end

set_option maxRecDepth 100000 in
set_option maxHeartbeats 1600000 in
theorem none_true (w : World) (kind on book : Int) (m : Nat) (r : Row) (hm : m < 4294967296) (hr : IsRow r) :
    Calls Try.prog 4 #[opV kind on book m r] w fun e w' => e = .returned (.bool true) ∧ Below w.heap.size w w' := by
  have hN1 := fun W => New_none (rel_At_nil W)
  have hlv := lives_true
  have hm' := Lib.hid hm
  clear hm
  go_enter Try.func4, Try.ntmps4
  go_wp2_with fail
  have hB0 : Below w.heap.size w ((w.alloc (.cells (opCells kind on book m r).toArray 47)).alloc (.cells (keptCells 0 (.slice none 0 0) (.slice none 0 0)) 80)) := ((Below.refl _ _).alloc (Nat.le_refl _) _).alloc (by simp) _
  have hop0 : ((w.alloc (.cells (opCells kind on book m r).toArray 47)).alloc (.cells (keptCells 0 (.slice none 0 0) (.slice none 0 0)) 80)).rangeAt w.heap.size 0 (opCells kind on book m r) :=
    rangeAt_below ((Below.refl _ _).alloc (Nat.le_refl _) _) (rangeAt_new w 47 (opCells kind on book m r))
  have hk0 : KeptAt ((w.alloc (.cells (opCells kind on book m r).toArray 47)).alloc (.cells (keptCells 0 (.slice none 0 0) (.slice none 0 0)) 80)) ⟨w.heap.size + 1, 0, .slice none 0 0, [], .slice none 0 0, []⟩ := by
    refine ⟨?_, World.ownsRow_nil _ _ _ _, World.ownsRow_nil _ _ _ _, by simp [KeptD.foot, Value.ownBlock]⟩
    have := heap_alloc_new (w.alloc (.cells (opCells kind on book m r).toArray 47)) (.cells (keptCells 0 (.slice none 0 0) (.slice none 0 0)) 80)
    rwa [World.size_alloc] at this
  refine (hN1 _).mono ?_
  rintro e w1 ⟨rfl, hB1⟩
  change Below ((w.alloc (.cells (opCells kind on book m r).toArray 47)).alloc (.cells (keptCells 0 (.slice none 0 0) (.slice none 0 0)) 80)).heap.size ((w.alloc (.cells (opCells kind on book m r).toArray 47)).alloc (.cells (keptCells 0 (.slice none 0 0) (.slice none 0 0)) 80)) w1 at hB1
  generalize (w.alloc (.cells (opCells kind on book m r).toArray 47)).alloc (.cells (keptCells 0 (.slice none 0 0) (.slice none 0 0)) 80) = W0 at hB0 hop0 hk0 hB1
  have hF1 := Below.fr hB1 []
  have hk1 := hk0.fr hF1 (by simp)
  have hop1 := range_fr hop0 hF1 (by simp)
  go_wp2_with fail
  have hz : ZeroRel (w1.alloc (.cells #[.int .i64 0, .int .i64 0, .pointer none] 85)) w1.heap.size := by
    unfold ZeroRel
    rw [cell_of_row _ _ 2 _ _ _ (heap_alloc_new w1 _)]
    rfl
  refine (New_none (rel_At_zero hz)).mono ?_
  rintro e w2 ⟨rfl, hB2⟩
  have hF2 := ((Fr.refl [] w1).alloc (.cells #[.int .i64 0, .int .i64 0, .pointer none] 85)).trans' (Below.fr hB2 [])
  have hk2 := hk1.fr hF2 (by simp)
  have hop2 := range_fr hop1 hF2 (by simp)
  clear hk0 hop0 hk1 hop1 hz hN1
  have hF3 : Fr [] w2 (w2.alloc (.cells #[.bool false, .int .i64 0, .slice none 0 0] 90)) := (Fr.refl _ _).alloc _
  have hop3 := range_fr hop2 hF3 (by simp)
  have hw3 : NoWant (w2.alloc (.cells #[.bool false, .int .i64 0, .slice none 0 0] 90)) w2.heap.size := heap_alloc_new _ _
  have hk3 := hk2.fr hF3 (by simp)
  go_wp2_with (first | (refine op_load rfl _ rfl w.heap.size rfl hr hop3 ?_))
  have ha1 := asks_none (on := on) (book := book) (kind := kind) hm'.out hr (v := .pointer none) (Or.inl rfl) hw3 hk3 ⟨by simp, by simp, by simp⟩
  refine ha1.mono ?_
  rintro e w4 ⟨rfl, K4, hk4⟩
  have hop4 := range_fr hop3 hk4.fr (by simp [KeptD.foot, Value.ownBlock])
  have e4 := hk4.eb
  have hK4 := hk4.at_
  have hrm : Room K4 2 := by
    have h1 := hk4.n
    have h2 := hk4.is
    have h3 := hk4.ms
    simp at h1 h2 h3
    exact ⟨by omega, by omega, by omega⟩
  have hf4 := hk4.foot
  have hfr4 := hk4.fr
  clear ha1 hop3 hw3 hop2 hk2 hk4
  have hF5 : Fr [] w4 ((w4.alloc (.cells #[.pointer none, .map none] 96)).alloc (.cells #[.bool false, .int .i64 0, .slice none 0 0] 90)) := ((Fr.refl _ _).alloc _).alloc _
  have hop5 := range_fr hop4 hF5 (by simp)
  have hw5 : NoWant ((w4.alloc (.cells #[.pointer none, .map none] 96)).alloc (.cells #[.bool false, .int .i64 0, .slice none 0 0] 90)) (w4.heap.size + 1) := by
    have := heap_alloc_new (w4.alloc (.cells #[.pointer none, .map none] 96)) (.cells #[.bool false, .int .i64 0, .slice none 0 0] 90)
    rwa [World.size_alloc] at this
  have hb5 : NoBook ((w4.alloc (.cells #[.pointer none, .map none] 96)).alloc (.cells #[.bool false, .int .i64 0, .slice none 0 0] 90)) (.pointer (some ⟨w4.heap.size, 0, none⟩)) :=
    Or.inr ⟨_, rfl, ((Fr.refl [] _).alloc _).heap (heap_alloc_new w4 _) (by simp)⟩
  have hK5 := hK4.fr hF5 (by simp)
  go_wp2_with (first | (refine op_loadG (by rfl) _ rfl w.heap.size rfl hr hop5 ?_))
  have ha2 := asks_none (on := on) (book := book) (kind := kind) hm'.out hr hb5 hw5 hK5 hrm
  rw [e4] at ha2
  refine ha2.mono ?_
  rintro e w6 ⟨rfl, K6, hk6⟩
  have hfr6 := hk6.fr
  clear ha2 hop5 hw5 hb5 hK5 hK4 hop4 hk6
  go_wp2_with (go_at_call 6; refine (hlv _).mono ?_; rintro e w7 ⟨rfl, hB7⟩)
  go_ret
  refine ⟨rfl, ?_⟩
  have f0 : Fr [] w W0 := Below.fr hB0 []
  have f3 := ((f0.trans' hF1).trans' hF2).trans' hF3
  have hs3 : w.heap.size ≤ w2.heap.size := ((f0.trans' hF1).trans' hF2).size
  have f4 := f3.trans hfr4 (fun c hc => Or.inr (by simp [KeptD.foot, Value.ownBlock] at hc; omega))
  have f6 := (f4.trans' hF5).trans hfr6 (fun c hc => (hf4 c hc).elim (fun h => Or.inr (by simp [KeptD.foot, Value.ownBlock] at h; omega)) (fun h => Or.inr (by simp at h; omega)))
  exact (f6.trans' (Below.fr hB7 [])).below (fun _ h => by cases h) (Nat.le_refl _)
end Go.Proofs.Ytepimaghpjkibaa

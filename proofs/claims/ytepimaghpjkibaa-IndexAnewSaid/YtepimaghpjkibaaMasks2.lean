import Derived.Test.YtepimaghpjkibaaMasks1
import Derived.RangeFuncBox
import Derived.Maps.AppendAt
namespace Go.Proofs.Ytepimaghpjkibaa
open Go.RowKit Go.Shelf
open Go.Maps (Keyed)
open Go.WideShapes Go.ChangeMaps
attribute [local go_sem] Oper.semAt_some

theorem Try.info24 : (Try.prog.info? 24).map (fun i => (i.zero, i.size, i.bytes)) = some (some (.int .u32 0), 1, 4) := by kernel_rfl

/-- The cells of a list of masks. -/
def maskCells (l : List Nat) : List Value := l.map fun (m : Nat) => Value.int .u32 (m : Int)

set_option maxRecDepth 100000 in
set_option maxHeartbeats 1000000 in
/-- slices.AppendSeq at nil, over whatever gives these masks. -/
theorem append_seq {w : World} {g : Nat} {lb : Array Value} {ms : List Nat} {N : Nat} (hg : ∀ args w, (callFunc g args).run Try.prog w = .ok (.enter g args) w) (hN : N * 4 ≤ 140737488355328)
    (hseq : SeqStopsK Fence.wide 3 Try.prog g lb (fun m : Nat => #[.int .u32 (m : Int)]) KeepsWalks (fun xs => xs.Perm ms) (fun _ => True) N w) :
    Calls Try.prog 60 #[.slice none 0 0, .func (.func g) #[] lb] w fun e w' => ∃ v xs, e = .returned v ∧ xs.Perm ms ∧ w'.ownsRow w.heap.size 24 1 v xs.length (maskCells xs) ∧ Below w.heap.size w w' := by
  refine (callsIn_wide (n := 4)).1 ?_
  obtain ⟨i0, hi, hz0, hz1, hz2⟩ := info_parts Try.info24
  refine callsIn_of_wp_marks Try.func60 rfl trivial ?_ rfl
  simp only [Try.ntmps60, List.size_toArray, List.length_cons, List.length_nil, Nat.reduceAdd, Nat.reduceSub, Array.replicate_succ, Array.replicate_zero, List.push_toArray, List.append_toArray, List.nil_append, List.cons_append]
  gi_wp2
  have bO := Boxed.new w 101 (.slice none 0 0)
  have hB0 : Below w.heap.size w (w.alloc (.cells #[.slice none 0 0] 101)) := (Below.refl _ w).alloc (Nat.le_refl _) _
  have hN' := Lib.hid hN
  clear hN
  refine wpIn_rangeFunc_ownG rfl (by decide) (gf := g) (lb := lb) rfl trivial hg hseq walksK_t walksK_b hB0 (fun _ => rfl)
    (fun pre W => (∃ v, Boxed W w.heap.size 101 v ∧ W.ownsRow w.heap.size 24 1 v pre.length (maskCells pre) ∧ True) ∧ Below w.heap.size w W)
    (fun _ _ _ => False)
    (OwnFrom.and (Own.from (holdsRow_own w.heap.size w.heap.size 101 24 1 (fun pre : List Nat => pre.length) (fun pre => maskCells pre) (fun _ _ => True)) _) (ownFrom_below (Nat.le_refl _) (by simp)))
    (fun _ _ _ _ _ hs _ _ => hs)
    ⟨⟨_, bO, World.ownsRow_nil _ _ _ _, trivial⟩, hB0⟩
    ?a1 ?assign ?body ?done ?stop
  case assign =>
    intro l x W K hK
    gi_wp2
    exact hK
  case body =>
    rintro l pre x W ⟨⟨v, hv, hrow, _⟩, hB⟩ hlt
    have hc := hv.cell
    have hb1 := Lib.hid (show pre.length + 1 ≤ maxLen by have := hN'.out; unfold maxLen; omega)
    have hb2 := Lib.hid (show (pre.length + 1) * 4 ≤ 140737488355328 by have := hN'.out; omega)
    gi_wp2_with (gi_at_builtin; refine wpListIn_append_own _ rfl _ _ 101 rfl w.heap.size 24 i0 (.int .u32 0) 1 4 Try.underlying101 hi hz0 hz1 hz2 rfl (by decide) _ _ _ rfl (hrow.alloc _) ⟨W.heap.size, 0, none⟩ 1 1 [.int .u32 (x : Int)] rfl rfl (cell_one_new _ _ _) (by simp [Value.oneCell']) hb1.out hb2.out (by have := hB.size; simp; omega) ?_; intro v' w1 hown' hgrow _; obtain ⟨g', cap', rfl⟩ := ownsRow_succ hown'; obtain ⟨hv1, hv2, hr2, hk2, hb2'⟩ := hv.appended (by decide) hrow hB.size (Nat.le_refl _) hown' hgrow; have hc1 := hv1.cell; have hf1 := hv1.frozen)
    exact ⟨hk2.from _, hk2.walks, ⟨⟨_, hv2, by simpa [maskCells] using hr2, trivial⟩, hB.trans hb2'⟩⟩
  case done =>
    rintro D ys W hD hS ⟨⟨v, hv, hrow, _⟩, hB⟩ hK
    have hc := hv.cell
    gi_wp2
    refine ⟨by simp, .inl ⟨_, _, rfl, run_takeDeferred hK, ?_⟩⟩
    exact ⟨_, results_tmp rfl _ _ _, v, ys, rfl, hS, ownsRow_putObj hrow _ hK rfl, hB.trans (belowK_b (w := w) (Nat.le_refl _) W D _ _ (by simp at hD; omega) hK rfl rfl)⟩
  case stop =>
    rintro D c pre W _ _ h _
    exact h.elim
end Go.Proofs.Ytepimaghpjkibaa

/-
  IndexNone returns true for every input and leaves its argument as it was. No condition.
-/
import Derived.Test.YtepimaghpjkibaaNoneWalk
import Derived.Test.YtepimaghpjkibaaLaw
namespace Go.Proofs.Ytepimaghpjkibaa
open Go.ChangeShapes Go.WideShapes Go.ChangeAt Go.RowKit

theorem Try.cellsOp : Try.prog.cellsOf 47 = 28 := by kernel_rfl
theorem Try.cellsInt : Try.prog.cellsOf 3 = 1 := by kernel_rfl
theorem Try.cellsMask : Try.prog.cellsOf 24 = 1 := by kernel_rfl

theorem drop_take_one {l : List Value} {i : Nat} {c : Value} (h : (l.drop i).take 1 = [c]) : l.drop i = c :: l.drop (i + 1) := by
  cases e : l.drop i with
  | nil => rw [e] at h; cases h
  | cons x r =>
    rw [e] at h
    simp at h
    subst h
    have : l.drop (i + 1) = (l.drop i).drop 1 := by rw [List.drop_drop]
    rw [this, e]
    rfl

set_option maxRecDepth 10000 in
/-- A call that was read. -/
theorem op_read {H : Type} {enc : TypeId × Value → H} {w : World} {base b0 : Nat} {spare : Nat → Bool} {held : Bool} {v : Value} {d : DataW H} {p : List MemPlace} (hv : Value.okWide Try.prog w .any b0 47 v)
    (h : DataW.Trod enc Try.prog w base spare held 47 v d p) : ∃ (kind on book : Int) (m : Nat) (r : Row), v = opV kind on book m r ∧ m < 4294967296 ∧ IsRow r := by
  obtain ⟨cs, rfl, hsz⟩ := okWide_struct Try.underlying47 hv
  obtain ⟨fuel, hf⟩ := h
  obtain ⟨xs, n, _, _, hl, hlen, hg⟩ := DataW.trod_struct Try.underlying47 hf
  rw [Try.cellsOp] at hl
  match xs, hlen with
  | [y0, y1, y2, y3, y4], _ =>
    have g0 : DataW.trod enc Try.prog w base spare held n 3 ((cs.toList.drop 0).take (Try.prog.cellsOf 3)) = some y0 := hg 0 _ rfl
    have g1 : DataW.trod enc Try.prog w base spare held n 3 ((cs.toList.drop 1).take (Try.prog.cellsOf 3)) = some y1 := hg 1 _ rfl
    have g2 : DataW.trod enc Try.prog w base spare held n 3 ((cs.toList.drop 2).take (Try.prog.cellsOf 3)) = some y2 := hg 2 _ rfl
    have g3 : DataW.trod enc Try.prog w base spare held n 24 ((cs.toList.drop 3).take (Try.prog.cellsOf 24)) = some y3 := hg 3 _ rfl
    have g4 : DataW.trod enc Try.prog w base spare held n 34 ((cs.toList.drop 4).take (Try.prog.cellsOf 34)) = some y4 := hg 4 _ rfl
    rw [Try.cellsInt] at g0 g1 g2
    rw [Try.cellsMask] at g3
    rw [Try.rowCellsOf] at g4
    have hl28 : cs.toList.length = 28 := hl
    obtain ⟨k, e0, _, _⟩ := DataW.trod_int Try.underlying3 g0
    obtain ⟨on, e1, _, _⟩ := DataW.trod_int Try.underlying3 g1
    obtain ⟨bk, e2, _, _⟩ := DataW.trod_int Try.underlying3 g2
    obtain ⟨m, e3, _, wm⟩ := DataW.trod_int Try.underlying24 g3
    obtain ⟨r, hr, e4⟩ := row_read g4
    obtain ⟨m0, m1⟩ := wf_u32 wm
    obtain ⟨m, rfl⟩ := Int.eq_ofNat_of_zero_le m0
    refine ⟨k, on, bk, m, r, ?_, by omega, hr⟩
    have e4' : cs.toList.drop 4 = rowCells r := by
      rw [← e4]
      exact (List.take_of_length_le (by rw [List.length_drop]; omega)).symm
    have : cs.toList = opCells k on bk m r := by
      have d0 := drop_take_one e0
      have d1 := drop_take_one e1
      have d2 := drop_take_one e2
      have d3 := drop_take_one e3
      rw [List.drop_zero] at d0
      rw [d0, d1, d2, d3, e4']
      rfl
    show Value.agg cs = .agg (opCells k on bk m r).toArray
    rw [← this]

set_option maxRecDepth 100000 in
theorem none_lifted (os : Os) (started : os.Started) (H : Type) (enc : TypeId × Value → H) :
    ReturnsInHanded {} Try.checked os 4 .any (Rows.indexNoneSpec.pre6 enc Try.prog Try.f4 Rows.indexNoneRow.domain false) (Rows.indexNoneSpec.post enc Try.prog Try.f4 false true false false) := by
  refine law_lifted (C := Try.checked) (tb := 4) Try.own started (by kernel_rfl) Try.func4
    (ChangeSpec.witness6 (enc := enc) (C := Try.checked) false ⟨#[], #[.agg (#[.int .i64 0, .int .i64 0, .int .i64 0, .int .u32 0] ++ Array.replicate 24 (.int .i32 0))], []⟩ 8 (by kernel_rfl) (by kernel_rfl) (by kernel_rfl) (by kernel_rfl))
    Try.laidOut (by kernel_rfl) (by kernel_rfl) Try.underlying4 rfl ?_ ?_
  · intro W args ds p hA0
    have hA : DataW.TrodAll enc Try.prog W 0 (fun _ => true) true Try.f4.params.toList args.toList ds p := hA0
    rw [Try.params4] at hA
    obtain ⟨v0, d0, rfl, rfl, h0⟩ := trodAll_one hA
    rfl
  · intro W base args ds p hval0 hA0 hlt hsz0
    have hval : ∀ (j : Nat) t v, Try.f4.params[j]? = some t → args[j]? = some v → Value.okWide Try.prog W .any base t v := hval0
    have hA : DataW.TrodAll enc Try.prog W 0 (fun _ => true) true Try.f4.params.toList args.toList ds p := hA0
    rw [Try.params4] at hA hval
    obtain ⟨v0, d0, rfl, rfl, h0⟩ := trodAll_one hA
    obtain ⟨kind, on, book, m, r, rfl, hm, hr⟩ := op_read (hval 0 _ v0 rfl rfl) h0
    exact none_true W kind on book m r hm hr

theorem IndexNone_holds : Rows.IndexNoneSaid :=
  OpenClaim.holds_of_wide 4 Try.f4 rfl rfl rfl rfl rfl rfl rfl ⟨rfl, rfl, rfl, rfl, rfl⟩ rfl rfl rfl rfl rfl (by kernel_rfl) Try.func4 (by kernel_rfl)
    (of_decide_eq_true (by kernel_rfl)) (by unfold Func.isWrapper; rw [if_neg (by decide +kernel)]; exact ⟨rfl, rfl⟩)
    (fun os started H enc _ => none_lifted os started H enc)
end Go.Proofs.Ytepimaghpjkibaa

/-
  IndexAnew returns true for every input and leaves its arguments as they were. No condition.
-/
import Derived.Test.YtepimaghpjkibaaAnewWalk
import Derived.Test.YtepimaghpjkibaaLaw
namespace Go.Proofs.Ytepimaghpjkibaa
open Go.ChangeShapes Go.WideShapes Go.ChangeAt Go.RowKit

theorem Try.cellsNum : Try.prog.cellsOf 3 = 1 := by kernel_rfl
theorem Try.bytesNum : Try.prog.bytesOf 3 = 8 := by kernel_rfl

set_option maxRecDepth 10000 in
theorem row_agg {w : World} {b0 : Nat} {v : Value} (h : Value.okWide Try.prog w .any b0 34 v) : ∃ cs, v = .agg cs := by
  simp only [Value.okWide, Try.underlying34] at h
  obtain ⟨cs, h1, _⟩ := h
  exact ⟨cs, h1⟩

section
variable {H : Type} {enc : TypeId × Value → H} {w : World} {base b0 : Nat}

set_option maxRecDepth 10000 in
/-- A slice of numbers that was read. -/
theorem nums_read {v : Value} {d : DataW H} {p : List MemPlace} (hv : Value.okWide Try.prog w .any b0 38 v) (h : DataW.Trod enc Try.prog w base (fun _ => true) true 38 v d p) :
    ∃ zs : List Int, NumsAt w v zs ∧ (zs = [] ∨ ∃ es sp, d = .slice es sp ∧ es.length = zs.length) := by
  obtain ⟨fuel, hf⟩ := h
  rcases Deep.open_slice1 Try.underlying38 Try.cellsNum hf with ⟨hcs, hx⟩ | ⟨a, len, cap, m, n, V, D, Pl, hcs, _, hlc, hcm, hm, hx, hi⟩
  · have hv' : v = .slice none 0 0 := by
      cases v <;> simp_all [Value.cells]
      simp [Value.okWide, Try.underlying38, Cell.okWide, Cell.ok] at hv
    subst hv'
    exact ⟨[], ⟨none, 0, rfl, Nat.le_refl _, Or.inl rfl⟩, Or.inl rfl⟩
  · have hv' : v = .slice (some a) len cap := by
      cases v <;> simp_all [Value.cells]
      simp [Value.okWide, Try.underlying38, Cell.okWide, Cell.ok] at hv
    subst hv'
    simp only [if_true] at hm
    subst hm
    have hd : d = _ := congrArg Prod.fst hx
    by_cases hl0 : len = 0
    · exact ⟨[], ⟨some a, m, by rw [hl0]; rfl, by simp, Or.inl rfl⟩, Or.inr ⟨_, _, hd, by simp [hl0]⟩⟩
    · have hsp := World.cell?_spot (hi 0 (by omega)).1
      obtain ⟨b, o, sp⟩ := a
      simp only [Addr.add] at hsp
      subst hsp
      have hr : ∀ i, i < len → ∃ z : Int, w.cell? ⟨b, o + i, none⟩ = some (.int .i64 z) := fun i hil => by
        obtain ⟨hc, ht⟩ := hi i (by omega)
        obtain ⟨z, hz, _, _⟩ := DataW.trod_int Try.underlying3 ht
        simp only [List.cons.injEq, and_true] at hz
        rw [Addr.add_mid, hz] at hc
        exact ⟨z, hc⟩
      obtain ⟨f, hf'⟩ := Deep.choose_lt hr
      refine ⟨(List.range len).map f, ⟨some ⟨b, o, none⟩, m, by simp, by simpa using hlc, Or.inr ⟨b, o, rfl, fun i hil => ?_⟩⟩, Or.inr ⟨_, _, hd, by simp⟩⟩
      have hil' : i < len := by simpa using hil
      rw [hf' i hil']
      simp [hil']
end

set_option maxRecDepth 100000 in
theorem anew_lifted (os : Os) (started : os.Started) (H : Type) (enc : TypeId × Value → H) :
    ReturnsInHanded {} Try.checked os 5 .any (Rows.indexAnewSpec.pre6 enc Try.prog Try.f5 Rows.indexAnewRow.domain false) (Rows.indexAnewSpec.post enc Try.prog Try.f5 false true false false) := by
  refine law_lifted (C := Try.checked) (tb := 4) Try.own started (by kernel_rfl) Try.func5
    (ChangeSpec.witness6 (enc := enc) (C := Try.checked) false ⟨#[], #[.int .u8 0, .slice none 0 0, .slice none 0 0, .int .u32 0, .agg (Array.replicate 24 (.int .i32 0))], []⟩ 8 (by kernel_rfl) (by kernel_rfl) (by kernel_rfl) (by kernel_rfl))
    Try.laidOut (by kernel_rfl) (by kernel_rfl) Try.underlying4 rfl ?_ ?_
  · intro W args ds p hA0
    have hA : DataW.TrodAll enc Try.prog W 0 (fun _ => true) true Try.f5.params.toList args.toList ds p := hA0
    rw [Try.params5] at hA
    obtain ⟨v0, vs, d0, ds1, p0, q0, _, rfl, rfl, h0, hA⟩ := trodAll_cons hA
    obtain ⟨v1, vs, d1, ds1, p1, q1, rfl, rfl, rfl, h1, hA⟩ := trodAll_cons hA
    obtain ⟨v2, vs, d2, ds1, p2, q2, rfl, rfl, rfl, h2, hA⟩ := trodAll_cons hA
    obtain ⟨v3, vs, d3, ds1, p3, q3, rfl, rfl, rfl, h3, hA⟩ := trodAll_cons hA
    obtain ⟨v4, vs, d4, ds1, p4, q4, rfl, rfl, rfl, h4, hA⟩ := trodAll_cons hA
    obtain ⟨rfl, rfl, rfl⟩ := trodAll_nil hA
    rfl
  · intro W base args ds p hval0 hA0 hlt hsz0
    have hval : ∀ (j : Nat) t v, Try.f5.params[j]? = some t → args[j]? = some v → Value.okWide Try.prog W .any base t v := hval0
    have hA : DataW.TrodAll enc Try.prog W 0 (fun _ => true) true Try.f5.params.toList args.toList ds p := hA0
    have hsz : (DataW.weightsEach Try.prog (Try.f5.params.toList ++ Rows.indexAnewSpec.plain.varTypes Try.prog) (ds ++ [])).all (· ≤ reachBytes) = true := hsz0
    rw [Try.params5] at hA hval hsz
    obtain ⟨v0, vs, d0, ds1, p0, q0, ea, rfl, rfl, h0, hA⟩ := trodAll_cons hA
    obtain ⟨v1, vs, d1, ds1, p1, q1, rfl, rfl, rfl, h1, hA⟩ := trodAll_cons hA
    obtain ⟨v2, vs, d2, ds1, p2, q2, rfl, rfl, rfl, h2, hA⟩ := trodAll_cons hA
    obtain ⟨v3, vs, d3, ds1, p3, q3, rfl, rfl, rfl, h3, hA⟩ := trodAll_cons hA
    obtain ⟨v4, vs, d4, ds1, p4, q4, rfl, rfl, rfl, h4, hA⟩ := trodAll_cons hA
    obtain ⟨rfl, rfl, rfl⟩ := trodAll_nil hA
    obtain rfl : args = #[v0, v1, v2, v3, v4] := by
      apply Array.toList_inj.1
      rw [ea]
    obtain ⟨c, rfl, rfl, rfl, wc⟩ := open_int Try.underlying5 (hval 0 _ v0 rfl rfl) h0
    obtain ⟨l, hl, hd⟩ := rows_read Try.underlying22 (hval 1 _ v1 rfl rfl) h1
    obtain ⟨zs, hz, hzd⟩ := nums_read (hval 2 _ v2 rfl rfl) h2
    obtain ⟨m, rfl, rfl, rfl, wm⟩ := open_int Try.underlying24 (hval 3 _ v3 rfl rfl) h3
    obtain ⟨cs, rfl⟩ := row_agg (hval 4 _ v4 rfl rfl)
    obtain ⟨fuel4, hf4⟩ := h4
    obtain ⟨x0, hx0, hx⟩ := row_read hf4
    have h47 : l.length * 96 ≤ 140737488355328 := by
      rcases hd with rfl | ⟨es, sp, rfl, he⟩
      · simp
      · have := sized_slice hsz (j := 1) (t := 22) (e := 34) rfl rfl Try.underlying22
        rw [Try.bytesRow] at this
        simp only [reachBytes] at this
        omega
    have hzl : zs.length + 2 ≤ 140737488355328 := by
      rcases hzd with rfl | ⟨es, sp, rfl, he⟩
      · simp
      · have := sized_slice hsz (j := 2) (t := 38) (e := 3) rfl rfl Try.underlying38
        rw [Try.bytesNum] at this
        simp only [reachBytes] at this
        omega
    obtain ⟨c0, c1⟩ := wf_u8 wc
    obtain ⟨m0, m1⟩ := wf_u32 wm
    obtain ⟨c, rfl⟩ := Int.eq_ofNat_of_zero_le c0
    obtain ⟨m, rfl⟩ := Int.eq_ofNat_of_zero_le m0
    have hx' : cs.toList = rowCells x0 := hx
    have hv4 : Value.agg cs = rowV x0 := by
      show Value.agg cs = Value.agg (rowCells x0).toArray
      rw [← hx']
    rw [hv4]
    exact anew_true c m (by omega) (by omega) hl hz hx0 h47 hzl

theorem IndexAnew_holds : Rows.IndexAnewSaid :=
  OpenClaim.holds_of_wide 5 Try.f5 rfl rfl rfl rfl rfl rfl rfl ⟨rfl, rfl, rfl, rfl, rfl⟩ rfl rfl rfl rfl rfl (by kernel_rfl) Try.func5 (by kernel_rfl)
    (of_decide_eq_true (by kernel_rfl)) (by unfold Func.isWrapper; rw [if_neg (by decide +kernel)]; exact ⟨rfl, rfl⟩)
    (fun os started H enc _ => anew_lifted os started H enc)
end Go.Proofs.Ytepimaghpjkibaa

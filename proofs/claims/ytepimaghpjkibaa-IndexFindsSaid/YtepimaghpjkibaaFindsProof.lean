/-
  IndexFinds returns true for every input and leaves its arguments as they were. No condition.
-/
import Derived.Test.YtepimaghpjkibaaFinds
import Derived.Test.YtepimaghpjkibaaLaw
namespace Go.Proofs.Ytepimaghpjkibaa
open Go.ChangeShapes Go.WideShapes Go.ChangeAt Go.RowKit

theorem Try.own : ownKnob Try.prog.godebug = none := by kernel_rfl

theorem wf_u8 {n : Int} (h : (Lit.int .u8 n).wf = true) : 0 ≤ n ∧ n < 256 := by
  simp [Lit.wf, IntKind.min, IntKind.max, IntKind.signed, IntKind.bits] at h
  omega
theorem wf_u32 {n : Int} (h : (Lit.int .u32 n).wf = true) : 0 ≤ n ∧ n < 4294967296 := by
  simp [Lit.wf, IntKind.min, IntKind.max, IntKind.signed, IntKind.bits] at h
  omega
theorem Try.bytesRow : Try.prog.bytesOf 34 = 96 := by kernel_rfl

set_option maxRecDepth 100000 in
theorem finds_lifted (os : Os) (started : os.Started) (H : Type) (enc : TypeId × Value → H) :
    ReturnsInHanded {} Try.checked os 3 .any (Rows.indexFindsSpec.pre6 enc Try.prog Try.f3 Rows.indexFindsRow.domain false) (Rows.indexFindsSpec.post enc Try.prog Try.f3 false true false false) := by
  refine law_lifted (C := Try.checked) (tb := 4) Try.own started (by kernel_rfl) Try.func3
    (ChangeSpec.witness6 (enc := enc) (C := Try.checked) false ⟨#[], #[.int .u8 0, .slice none 0 0, .int .u32 0, .int .u32 0], []⟩ 8 (by kernel_rfl) (by kernel_rfl) (by kernel_rfl) (by kernel_rfl))
    Try.laidOut (by kernel_rfl) (by kernel_rfl) Try.underlying4 rfl ?_ ?_
  · intro W args ds p hA0
    have hA : DataW.TrodAll enc Try.prog W 0 (fun _ => true) true Try.f3.params.toList args.toList ds p := hA0
    rw [Try.params3] at hA
    obtain ⟨v0, v1, v2, v3, d0, d1, d2, d3, p0, p1, p2, p3, rfl, rfl, rfl, h0, h1, h2, h3⟩ := trodAll_four hA
    rfl
  · intro W base args ds p hval0 hA0 hlt hsz0
    have hval : ∀ (j : Nat) t v, Try.f3.params[j]? = some t → args[j]? = some v → Value.okWide Try.prog W .any base t v := hval0
    have hA : DataW.TrodAll enc Try.prog W 0 (fun _ => true) true Try.f3.params.toList args.toList ds p := hA0
    have hsz : (DataW.weightsEach Try.prog (Try.f3.params.toList ++ Rows.indexFindsSpec.plain.varTypes Try.prog) (ds ++ [])).all (· ≤ reachBytes) = true := hsz0
    rw [Try.params3] at hA hval hsz
    obtain ⟨v0, v1, v2, v3, d0, d1, d2, d3, p0, p1, p2, p3, rfl, rfl, rfl, h0, h1, h2, h3⟩ := trodAll_four hA
    obtain ⟨c, rfl, rfl, rfl, wc⟩ := open_int Try.underlying5 (hval 0 _ v0 rfl rfl) h0
    obtain ⟨l, hl, hd⟩ := rows_read Try.underlying22 (hval 1 _ v1 rfl rfl) h1
    obtain ⟨m, rfl, rfl, rfl, wm⟩ := open_int Try.underlying24 (hval 2 _ v2 rfl rfl) h2
    obtain ⟨n, rfl, rfl, rfl, wn⟩ := open_int Try.underlying24 (hval 3 _ v3 rfl rfl) h3
    have h47 : l.length * 96 ≤ 140737488355328 := by
      rcases hd with rfl | ⟨es, sp, rfl, he⟩
      · simp
      · have := sized_slice hsz (j := 1) (t := 22) (e := 34) rfl rfl Try.underlying22
        rw [Try.bytesRow] at this
        simp only [reachBytes] at this
        omega
    obtain ⟨c0, c1⟩ := wf_u8 wc
    obtain ⟨m0, m1⟩ := wf_u32 wm
    obtain ⟨n0, n1⟩ := wf_u32 wn
    obtain ⟨c, rfl⟩ := Int.eq_ofNat_of_zero_le c0
    obtain ⟨m, rfl⟩ := Int.eq_ofNat_of_zero_le m0
    obtain ⟨n, rfl⟩ := Int.eq_ofNat_of_zero_le n0
    exact finds_true c m n (by omega) (by omega) (by omega) hl h47

theorem IndexFinds_holds : Rows.IndexFindsSaid :=
  OpenClaim.holds_of_wide 3 Try.f3 rfl rfl rfl rfl rfl rfl rfl ⟨rfl, rfl, rfl, rfl, rfl⟩ rfl rfl rfl rfl rfl (by kernel_rfl) Try.func3 (by kernel_rfl)
    (of_decide_eq_true (by kernel_rfl)) (by unfold Func.isWrapper; rw [if_neg (by decide +kernel)]; exact ⟨rfl, rfl⟩)
    (fun os started H enc _ => finds_lifted os started H enc)
end Go.Proofs.Ytepimaghpjkibaa

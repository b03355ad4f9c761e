/-
  The walk of IndexAnew.
-/
import Derived.Test.YtepimaghpjkibaaRemove
import Derived.Test.YtepimaghpjkibaaSeen
import Derived.Test.YtepimaghpjkibaaFilled
namespace Go.Proofs.Ytepimaghpjkibaa
open Go.RowKit

/-- A slice of these numbers. -/
def NumsAt (w : World) (v : Value) (l : List Int) : Prop :=
  ∃ sa c, v = .slice sa l.length c ∧ l.length ≤ c ∧ (l = [] ∨ ∃ g o, sa = some ⟨g, o, none⟩ ∧ ∀ i, i < l.length → w.cell? ⟨g, o + i, none⟩ = some (.int .i64 (l.getD i 0)))

theorem Fr.setRow {S : List Nat} {a w : World} (h : Fr S a w) {b : Nat} (hb : b ∈ S ∨ a.heap.size ≤ b) (cs : Array Value) : Fr S a (w.setRow b cs) :=
  h.trans (T := [b]) ⟨rfl, rfl, rfl, by simp, fun k _ hk => setRow_other w b k cs (by simpa using hk)⟩ (fun x hx => by simp at hx; subst hx; exact hb)

/-- A row taken out under a book. -/
theorem BkAt.removed {w w' : World} {B : BkD} {R : RelD} (h : BkAt w B R) {i : Nat} {sv : Value} (hf : Fr [R.p, R.q, R.m] w w') (hsv : ∀ k, sv.ownBlock = some k → w.heap.size ≤ k) :
    BkAt w' B { R with rows := R.rows.eraseIdx i, gone := R.gone + 1, sv := sv } := by
  refine (h.fr hf (fun c hc hc' => h.apR c hc ?_)).rel rfl (fun c hc hc' => ?_) (fun p hp => (h.inv p hp).less rfl)
  · simp only [RelD.foot, List.mem_cons, List.not_mem_nil, or_false] at hc' ⊢
    rcases hc' with e | e | e
    · exact Or.inl e
    · exact Or.inr (Or.inl e)
    · exact Or.inr (Or.inr (Or.inl e))
  · have := h.flt c hc
    simp only [RelD.foot, List.mem_cons, Option.mem_toList] at hc'
    rcases hc' with e | e | e | e
    · exact h.apR c hc (by simp [RelD.foot, e])
    · exact h.apR c hc (by simp [RelD.foot, e])
    · exact h.apR c hc (by simp [RelD.foot, e])
    · have := hsv c e
      omega

/-- What holds between two turns: X: the variable's cell; a: how many columns; N: how many rows at most. -/
structure Anew (w wr : World) (X a N k : Nat) (R : RelD) (B : BkD) (x : Row) : Prop where
  rl : RelAt wr R
  bk : BkAt wr B R
  ar : R.arity = a
  gn : R.gone ≤ k
  ln : R.rows.length ≤ N
  good : ∀ y ∈ R.rows, GoodRow a y
  ix : IsRow x
  box : wr.heap[X]? = some (.cells (rowCells x).toArray 34 (0, 0))
  fR : ∀ c ∈ R.foot, X < c
  fB : ∀ c ∈ B.foot, X < c
  lo : w.heap.size ≤ X
  bl : Below w.heap.size w wr

/-- A turn that ends with the variable set. -/
theorem Anew.turn {w wr W : World} {X a N k : Nat} {R R2 : RelD} {B : BkD} {x y : Row} {old : Array Value} (h : Anew w wr X a N k R B x) (hR : RelAt W R2) (hB : BkAt W B R2) (har : R2.arity = R.arity) (hgn : R2.gone ≤ k + 1) (hln : R2.rows.length ≤ N)
    (hgood : ∀ q ∈ R2.rows, GoodRow a q) (hy : IsRow y) (hX : W.heap[X]? = some (.cells old 34 (0, 0))) (hfR : ∀ c ∈ R2.foot, X < c) (hfB : ∀ c ∈ B.foot, X < c) (hF : Fr [] w W) : Anew w (W.setRow X (rowCells y).toArray) X a N (k + 1) R2 B y := by
  have hFS : Fr [X] W (W.setRow X (rowCells y).toArray) := (Fr.refl _ _).setRow (Or.inl (by simp)) _
  refine ⟨hR.fr hFS (fun c hc hm => by simp at hm; subst hm; exact Nat.lt_irrefl _ (hfR _ hc)), hB.fr hFS (fun c hc hm => by simp at hm; subst hm; exact Nat.lt_irrefl _ (hfB _ hc)), har.trans h.ar, hgn, hln, hgood, hy, setRow_heap W X _ _ _ _ hX, hfR, hfB, h.lo, ?_⟩
  exact (hF.trans hFS (fun c hc => Or.inr (by simp at hc; subst hc; exact h.lo))).below (fun _ h => by cases h) (Nat.le_refl _)

theorem tmod_at {z : Int} {n : Nat} (hn : 0 < n) : -(n : Int) < z.tmod n ∧ z.tmod n < n := by
  have hpos : (0 : Int) < n := by omega
  constructor
  · have := Int.lt_tmod_of_pos z hpos
    omega
  · exact Int.tmod_lt_of_pos z hpos

theorem fitAll_good {a : Nat} {l : List Row} (h : ∀ x ∈ l, IsRow x) : ∀ y ∈ fitAll a l, GoodRow a y := by
  induction l using list_snoc with
  | h0 => intro y hy; cases hy
  | h1 l x ih =>
    intro y hy
    rw [fitAll_snoc, addRow] at hy
    have hl := ih (fun z hz => h z (by simp [hz]))
    split at hy
    · exact hl y hy
    · rcases List.mem_append.1 hy with hy | hy
      · exact hl y hy
      · simp at hy
        subst hy
        exact fit_good (h x (by simp)) a

theorem RowsAt.fr {w w' : World} {v : Value} {l : List Row} (h : RowsAt w v l) (hf : Fr [] w w') : RowsAt w' v l := by
  obtain ⟨sa, c, h1, h2, h3, h4⟩ := h
  refine ⟨sa, c, h1, h2, ?_, h4⟩
  rcases h3 with h3 | ⟨g, o, h5, h6, h7⟩
  · exact Or.inl h3
  · exact Or.inr ⟨g, o, h5, Nat.lt_of_lt_of_le h6 hf.size, fun i x hi => range_fr (h7 i x hi) hf (by simp)⟩

theorem RowsAt.ok {w : World} {v : Value} {l : List Row} (h : RowsAt w v l) : ∀ x ∈ l, IsRow x := by
  obtain ⟨_, _, _, _, _, h4⟩ := h
  exact h4

set_option maxRecDepth 100000 in
set_option maxHeartbeats 4000000 in
theorem anew_true {w : World} {v va : Value} {l : List Row} {zs : List Int} {x0 : Row} (c m : Nat) (hc : c < 256) (hm : m < 4294967296) (hl : RowsAt w v l) (hz : NumsAt w va zs) (hx0 : IsRow x0) (h47 : l.length * 96 ≤ 140737488355328) (hzl : zs.length + 2 ≤ 140737488355328) :
    Calls Try.prog 5 #[.int .u8 c, v, va, .int .u32 m, rowV x0] w fun e w' => e = .returned (.bool true) ∧ Below w.heap.size w w' := by
  have hcI : (c : Int) < 256 := by omega
  have hmod : ((c : Int)).tmod 25 = ((c % 25 : Nat) : Int) := by rw [Int.tmod_eq_emod_of_nonneg (by omega)]; omega
  have hmod2 : ((c : Int)) % 25 = ((c % 25 : Nat) : Int) := by omega
  have ha : c % 25 ≤ 24 := by omega
  obtain ⟨a, hac⟩ : ∃ a, a = c % 25 := ⟨_, rfl⟩
  rw [← hac] at hmod hmod2 ha
  have hm' := Lib.hid hm
  have h47' := Lib.hid h47
  have hzl' := Lib.hid hzl
  have hlv := lives_true (w.alloc (.cells (rowCells x0).toArray 34))
  have hB0 : Below w.heap.size w (w.alloc (.cells (rowCells x0).toArray 34)) := (Below.refl _ _).alloc (Nat.le_refl _) _
  have hX0 := heap_alloc_new w (.cells (rowCells x0).toArray 34)
  obtain ⟨sa, sc, rfl, hzc, hzs⟩ := hz
  have hzs' := Lib.hid hzs
  obtain ⟨n, hn⟩ : ∃ n, n = zs.length := ⟨_, rfl⟩
  rw [← hn] at hzc ⊢
  have hn' := Lib.hid hn
  clear hm hac h47 hc hzl hzs hn
  go_enter Try.func5, Try.ntmps5
  go_wp2_with (go_at_call 6; refine hlv.mono ?_; rintro e w1 ⟨rfl, hB1⟩)
  have hF1 : Fr [] w w1 := (Below.fr hB0 []).trans' (Below.fr hB1 [])
  have hX1 := (Below.fr hB1 []).heap hX0 (by simp)
  have hs1 : w.heap.size < w1.heap.size := by have := hB1.size; simp at this; omega
  refine (filled_ok a ha (hl.fr hF1) h47'.out).mono ?_
  rintro e w2 ⟨R, B, rfl, hR, hB, hRa, hRg, hRr, htab, hRf, hBf, hB2⟩
  have hX2 := (Below.fr hB2 []).heap hX1 (by simp)
  have hF2 : Fr [] w w2 := hF1.trans' (Below.fr hB2 [])
  clear hlv hmod hmod2 hB0 hX0 hX1
  obtain ⟨mL, hmL⟩ : ∃ mL, mL = m % 2 ^ a := ⟨_, rfl⟩
  have hlo := low_any m a w2 hm'.out ha
  rw [← hmL] at hlo
  have hmLt : mL < 2 ^ a := by rw [hmL]; exact Nat.mod_lt _ (Nat.two_pow_pos a)
  have h24 : 2 ^ a ≤ 16777216 := Nat.le_trans (Nat.pow_le_pow_right (by omega) ha) (by decide)
  have hmLt' := Lib.hid hmLt
  have hm32 := Lib.hid (show mL < 4294967296 by omega)
  clear hmL hmLt h24
  obtain ⟨N, hN⟩ : ∃ N, N = l.length := ⟨_, rfl⟩
  have hN47 := Lib.hid (show N * 96 ≤ 140737488355328 by rw [hN]; exact h47'.out)
  have hA0 : Anew w w2 w.heap.size a N 0 R B x0 := by
    refine ⟨hR, hB, hRa, by omega, by rw [hRr, hN]; exact fitAll_len a l, ?_, hx0, hX2, fun c hc => Nat.lt_of_lt_of_le hs1 (hRf c hc), fun c hc => Nat.lt_of_lt_of_le hs1 (hBf c hc), Nat.le_refl _, hF2.below (fun _ h => by cases h) (Nat.le_refl _)⟩
    rw [hRr]
    exact fitAll_good hl.ok
  have hA0' := Lib.hid hA0
  obtain ⟨X, hX⟩ : ∃ X, X = w.heap.size := ⟨_, rfl⟩
  obtain ⟨p0, hp0⟩ : ∃ p0, p0 = R.p := ⟨_, rfl⟩
  obtain ⟨b0, hb0⟩ : ∃ b0, b0 = B.b := ⟨_, rfl⟩
  rw [← hp0, ← hb0]
  have hX' := Lib.hid hX
  have hp0' := Lib.hid hp0
  have hb0' := Lib.hid hb0
  clear hX hp0 hb0 hA0 hR hB hRa hRg hRr htab hRf hBf hB2 hX2 hF1 hF2 hs1 hN hl hx0
  go_wp2_with fail
  refine hlo.mono ?_
  rintro e w3 ⟨rfl, rfl⟩
  clear hlo hcI
  go_wp2_with fail
  rw [← hX'.out]
  go_loopw [14] (fun ix wr => ∃ (k : Nat) (Rk : RelD) (Bk : BkD) (xk : Row), k ≤ n + 1 ∧ ((k = 0 ∧ ix = .int .i64 (-1)) ∨ ∃ j : Nat, k = j + 1 ∧ ix = .int .i64 (j : Int)) ∧ Anew w wr X a N k Rk Bk xk ∧ Rk.p = p0 ∧ Bk.b = b0) (fun i _ => ((n : Int) - intOf i).toNat)
  case atStart => exact ⟨0, R, B, x0, by omega, Or.inl ⟨rfl, rfl⟩, by rw [hX'.out]; exact hA0'.out, hp0'.out.symm, hb0'.out.symm⟩
  case round =>
    obtain ⟨k, Rk, Bk, xk, hk, hix, hA, hRp, hBb⟩ := hrel
    have hA' := Lib.hid hA
    clear hA
    rcases hix with ⟨rfl, rfl⟩ | ⟨j, rfl, rfl⟩
    · have hlt : (-1 : Int) < n := by omega
      obtain rfl := hRp
      obtain rfl := hBb
      have hNew := book_New hA'.out.rl
      go_wp2_with fail
      refine hNew.mono ?_
      rintro e w4 ⟨Bf, rfl, hBf, hft, hff, hB4⟩
      clear hNew
      have hF4 := Below.fr hB4 []
      have hMz := masks_one hBf (by rw [hft]; simp)
      simp only [hft, List.map_nil, List.length_nil] at hMz
      have hft' := Lib.hid hft
      have hff' := Lib.hid hff
      clear hft hff
      go_wp2_with fail
      refine hMz.mono ?_
      rintro e w5 ⟨vz, rfl, hvz, hB5⟩
      obtain ⟨az, cz, rfl⟩ := owns_slice hvz
      have hF5 := hF4.trans' (Below.fr hB5 [])
      have hBf5 := hBf.fr (Below.fr hB5 []) (by simp)
      clear hMz hvz hBf
      have hSz := book_Seen_no hBf5 hm32.out (by rw [hft'.out]; simp)
      go_wp2_with fail
      refine hSz.mono ?_
      rintro e w6 ⟨rfl, rfl⟩
      clear hSz
      have hX5 := hF5.heap hA'.out.box (by simp)
      have hR5 := hA'.out.rl.fr hF5 (by simp)
      have hBk5 := hA'.out.bk.fr hF5 (by simp)
      have hxr := hA'.out.ix
      have h96 := Lib.hid (show Rk.rows.length * 96 ≤ 140737488355328 by have := hA'.out.ln; have := hN47.out; omega)
      have hmA := Lib.hid (show mL < 2 ^ Rk.arity by rw [hA'.out.ar]; exact hmLt'.out)
      have hra5 := rangeAt_of_heap hX5
      have hXB : X ∉ Bk.foot := fun h => Nat.lt_irrefl _ (hA'.out.fB X h)
      obtain ⟨G, hG⟩ : ∃ G, G = idxs mL Rk.rows (keyR mL xk) := ⟨_, rfl⟩
      have hL1 := book_Look (r := xk) (m := mL) hxr hBk5 hR5 hmA.out h96.out
      rw [← hG] at hL1
      have hG' := Lib.hid hG
      clear hG
      go_wp2_with (refine row_load rfl _ rfl X 0 rfl xk hxr hra5 ?_)
      refine hL1.mono ?_
      rintro e w7 ⟨B7, v1, rfl, hT7, hv1, hf1⟩
      have hra7 := range_fr hra5 hT7.fr hXB
      have hBBf : ∀ c ∈ Bf.foot, c ∉ Bk.foot := fun c hc hb => by have := hff'.out c hc; have := hA'.out.bk.flt c hb; omega
      have hBf7 := hBf5.fr hT7.fr hBBf
      have hL2 := book_Look (r := xk) (m := mL) hxr hBf7 hT7.rl hmA.out h96.out
      rw [← hG'.out] at hL2
      obtain ⟨a1, c1, rfl⟩ := owns_slice hv1
      clear hL1 hra5
      go_wp2_with (refine row_load rfl _ rfl X 0 rfl xk hxr hra7 ?_)
      refine hL2.mono ?_
      rintro e w8 ⟨B8, v2, rfl, hT8, hv2, hf2⟩
      obtain ⟨a2, c2, rfl⟩ := owns_slice hv2
      clear hL2 hra7
      have hBf5l := hBf5.flt
      have hI1 := (ints_of_own hv1).fr hT8.fr (fun k hk hb => by have := (hv1.lt k hk).1; have := hBf5l k hb; omega)
      have hI2 := ints_of_own hv2
      have hlen8 := Lib.hid (show G.length ≤ 140737488355328 by rw [hG'.out]; have := idxs_le mL Rk.rows (keyR mL xk); have := h96.out; omega)
      clear hv1 hv2 hf1 hf2
      go_wp2_with (go_at_call 21; refine (same_ints hI1 hI2 hlen8.out).mono ?_; rintro e w9 ⟨rfl, hB9⟩)
      clear hI1 hI2
      have hs7 := hT7.fr.size
      have hs8 := hT8.fr.size
      have hs9 := hB9.size
      have hB7l := hT7.bk.flt
      have hB8l := hT8.bk.flt
      have hd78 : ∀ c ∈ B7.foot, c ∉ Bf.foot := fun c hc hb => by
        rcases hT7.foot c hc with h | h
        · exact hBBf c hb h
        · have := hBf5l c hb; omega
      have hB79 := (hT7.bk.fr hT8.fr hd78).fr (Below.fr hB9 []) (by simp)
      have hB89 := hT8.bk.fr (Below.fr hB9 []) (by simp)
      have hR9 := hT8.rl.fr (Below.fr hB9 []) (by simp)
      obtain ⟨ix, hix, hse⟩ := hT7.seen
      have hS := book_Seen_yes hB79 hix
      rw [hse, hT7.eb] at hS
      have hLen := rel_Len hR9
      clear hix hse
      have hD1 := book_Distinct (m := mL) hB79 hR9 hmA.out h96.out
      rw [hT7.eb] at hD1
      obtain ⟨d1, hd1⟩ : ∃ d1, d1 = (grp mL Rk.rows).length := ⟨_, rfl⟩
      rw [← hd1] at hD1
      obtain ⟨Nr, hNr⟩ : ∃ Nr, Nr = Rk.rows.length := ⟨_, rfl⟩
      rw [← hNr] at hS hLen
      have hd1' := Lib.hid hd1
      clear hd1 hNr
      go_wp2_with (first | (go_at_call 20; refine hS.mono ?_; rintro e w10 ⟨rfl, rfl⟩) | (go_at_call 9; refine hLen.mono ?_; rintro e w10 ⟨rfl, rfl⟩))
      refine hD1.mono ?_
      rintro e w12 ⟨B12, rfl, hT12⟩
      clear hD1 hS hLen
      have hd87 : ∀ c ∈ B8.foot, c ∉ B7.foot := fun c hc hb => by
        rcases hT8.foot c hc with h | h
        · exact hd78 c hb h
        · have := hB7l c hb; omega
      have hB812 := hB89.fr hT12.fr hd87
      have hD2 := book_Distinct (m := mL) hB812 hT12.rl hmA.out h96.out
      rw [hT8.eb, ← hd1'.out] at hD2
      go_wp2_with fail
      refine hD2.mono ?_
      rintro e w13 ⟨B13, rfl, hT13⟩
      clear hD2
      have hm8 : B8.tab.map (·.1) = [mL] := by rw [hT8.masks, hft'.out]; rfl
      have hm13 : B13.tab.map (·.1) = [mL] := by rw [hT13.masks, hm8]; simp [askMasks]
      have hM := masks_one hT13.bk (by rw [hm13]; simp)
      rw [hm13, hT13.eb, hT8.eb] at hM
      clear hm8 hm13
      go_wp2_with fail
      refine hM.mono ?_
      rintro e w14 ⟨vm, rfl, hvm, hB14⟩
      clear hM
      have hvc := fun g => hvm.cells (g := g)
      obtain ⟨gm, capm, rfl, _, hgm⟩ := hvm.form (by simp)
      have hc1 : w14.cell? ⟨gm, 0, none⟩ = some (.int .u32 (mL : Int)) := by
        have := hvc gm rfl 0 (.int .u32 (mL : Int)) rfl
        simpa [Addr.add] using this
      have hFA : Fr [] w14 (w14.alloc (.cells #[.int .u32 (mL : Int)] 24)) := (Fr.refl _ _).alloc _
      have hc1' := hFA.cell hc1 (by simp)
      have hc2' : (w14.alloc (.cells #[.int .u32 (mL : Int)] 24)).cell? ⟨w14.heap.size, 0, none⟩ = some (.int .u32 (mL : Int)) := by rw [cell_of_row _ _ 0 _ _ _ (heap_alloc_new w14 _)]; rfl
      have hsm := same_mask_one (c1 := capm) (c2 := 1) hc1' hc2'
      clear hc1 hc1' hc2' hvm hvc
      have hF13 : Fr [] w13 w14 := Below.fr hB14 []
      have f7 : Fr Bk.foot wr w7 := (hF5.mono (fun _ h => by cases h)).trans' hT7.fr
      have hs5 := hF5.size
      have f8 := f7.trans hT8.fr (fun c hc => Or.inr (hff'.out c hc))
      have f9 := f8.trans' ((Below.fr hB9 []).mono (fun _ h => by cases h))
      have f12 := f9.trans hT12.fr (fun c hc => (hT7.foot c hc).imp id fun h => Nat.le_trans hs5 h)
      have f13 := f12.trans hT13.fr (fun c hc => (hT8.foot c hc).elim (fun h => Or.inr (hff'.out c h)) (fun h => Or.inr (by omega)))
      have hd128 : ∀ c ∈ B12.foot, c ∉ B8.foot := fun c hc hb => by
        rcases hT12.foot c hc with h | h
        · exact hd87 c hb h
        · have := hB8l c hb; omega
      have hB1213 := hT12.bk.fr hT13.fr hd128
      have hR13 := hT13.rl
      have hXw : X < wr.heap.size := (Array.getElem?_eq_some_iff.1 hA'.out.box).1
      have hfB12 : ∀ c ∈ B12.foot, X < c := fun c hc => by
        rcases hT12.foot c hc with h | h
        · rcases hT7.foot c h with h | h
          · exact hA'.out.fB c h
          · omega
        · omega
      have heb : B12.b = Bk.b := by rw [hT12.eb, hT7.eb]
      clear hT7 hT8 hT12 hT13 hB79 hB89 hB812 hR9 hBf5 hBf7 hBf5l hB7l hB8l hd78 hd87 hd128 hBBf hR5 hBk5 hX5
      go_wp2_with (go_at_call 22; refine hsm.mono ?_; rintro e w15 ⟨rfl, hB15⟩)
      have hF15 : Fr [] w13 w15 := (hF13.trans' hFA).trans' (Below.fr hB15 [])
      have f15 := f13.trans' (hF15.mono (fun _ h => by cases h))
      have hfin : Anew w w15 X a N 1 Rk B12 xk := by
        refine ⟨hR13.fr hF15 (by simp), hB1213.fr hF15 (by simp), hA'.out.ar, by have := hA'.out.gn; omega, hA'.out.ln, hA'.out.good, hxr, f15.heap hA'.out.box hXB, hA'.out.fR, hfB12, hA'.out.lo, ?_⟩
        exact ((Below.fr hA'.out.bl []).trans f15 (fun c hc => Or.inr (by have := hA'.out.fB c hc; have := hA'.out.lo; omega))).below (fun _ h => by cases h) (Nat.le_refl _)
      go_roundw
      case rel => exact ⟨1, Rk, B12, xk, by omega, Or.inr ⟨0, rfl, rfl⟩, hfin, rfl, heb⟩
      case measure => simp only [intOf]; omega
    · by_cases hlt : j < n
      · have hltI : (j : Int) < n := by omega
        obtain rfl := hRp
        obtain rfl := hBb
        obtain ⟨g, o, rfl, hcs⟩ := hzs'.out.resolve_left (fun e => by have := hn'.out; rw [e] at this; simp at this; omega)
        obtain ⟨z, hz⟩ : ∃ z, z = zs.getD j 0 := ⟨_, rfl⟩
        have hcz0 := hcs j (by rw [← hn'.out]; exact hlt)
        rw [← hz] at hcz0
        have hcz := Lib.hid hcz0
        clear hcz0 hcs hz
        have hLen := rel_Len hA'.out.rl
        obtain ⟨Nr, hNr⟩ : ∃ Nr, Nr = Rk.rows.length := ⟨_, rfl⟩
        rw [← hNr] at hLen
        have hNr' := Lib.hid hNr
        clear hNr
        obtain ⟨bp, hbp⟩ : ∃ bp, decide (0 < Nr) = bp := ⟨_, rfl⟩
        go_upto_if 54 with (go_at_call 9; refine hLen.mono ?_; rintro e w4 ⟨rfl, rfl⟩)
        go_cut [15, 16, 17] (fun _ _ _ wd => ∃ (R2 : RelD) (B2 : BkD) (x2 : Row), Anew w wd X a N (j + 2) R2 B2 x2 ∧ R2.p = Rk.p ∧ B2.b = Bk.b)
        case first =>
          cases bp with
          | false =>
            have hAm : Anew w wr X a N (j + 2) Rk Bk xk := { hA'.out with gn := by have := hA'.out.gn; omega }
            go_wp2_with fail
            go_meet
            case rel => exact ⟨Rk, Bk, xk, hAm, rfl, rfl⟩
          | true =>
            have hpos : 0 < Nr := of_decide_eq_true hbp
            have hposI : (0 : Int) < Nr := by omega
            have hne0 : Nr ≠ 0 := by omega
            have hneI : (Nr : Int) ≠ 0 := by omega
            have hr := tmod_at (z := z) hpos
            have czr := (Below.fr hA'.out.bl []).cell hcz.out (by simp)
            obtain ⟨r0, hr0⟩ : ∃ r0, z.tmod (Nr : Int) = r0 := ⟨_, rfl⟩
            rw [hr0] at hr
            obtain ⟨hrl, hrh⟩ := hr
            go_wp2_with fail
            refine region_text [] 7 [true, true, true, true, true, false, true] (by kernel_rfl) (by kernel_rfl) (by intro c a d v w h; cases d <;> exact h) ?_
            intro W1 hWh hF1
            have f1 : ∀ W', Fr [] W1 W' → W'.cell? ⟨g, o + j, none⟩ = some (.int .i64 z) := fun W' h' => (hF1.trans' h').cell czr (by simp)
            have hR1 := hA'.out.rl.fr hF1 (by simp)
            have hLen1 := rel_Len hR1
            rw [← hNr'.out] at hLen1
            clear hWh czr
            repeat (refine lex_quiet ?_ (fun W' hW' => ?_) ?_; rotate_left; (go_simp; first | done | rfl); (try simp only [Act.put, List.setIfInBounds_toArray, List.set_cons_succ, List.set_cons_zero]))
            refine lex_held (fun K9 hK9 => ?_)
            go_wp2_with fail
            refine hLen1.mono ?_
            rintro e w4 ⟨rfl, rfl⟩
            go_wp2_with fail
            refine hK9 _ _ (Fr.refl _ _) ?_
            try simp only [Act.put, List.setIfInBounds_toArray, List.set_cons_succ, List.set_cons_zero]
            clear hK9 hLen1
            repeat (refine lex_quiet ?_ (fun W' hW' => ?_) ?_; rotate_left; (go_simp; first | done | rfl); (try simp only [Act.put, List.setIfInBounds_toArray, List.set_cons_succ, List.set_cons_zero]))
            refine lex_tail ?_
            clear f1
            go_upto_if 63 with (fail)
            go_cut [15] (fun s15 wd => ∃ kk : Nat, kk < Nr ∧ s15 = .int .i64 (kk : Int) ∧ wd = W1)
            case first =>
              have hLen2 := rel_Len hR1
              rw [← hNr'.out] at hLen2
              by_cases hneg : r0 < 0
              · have hwa : wrap64 (r0 + (Nr : Int)) = (((r0 + Nr).toNat : Nat) : Int) := by
                  have hb := hN47.out
                  have hb2 := hA'.out.ln
                  have hb3 := hNr'.out
                  rw [IntWalk.wrap64_in _ (by omega)]
                  omega
                have hwa' := Lib.hid hwa
                clear hwa
                go_wp2_with (go_at_call 9; refine hLen2.mono ?_; rintro e w5 ⟨rfl, rfl⟩)
                go_meet
                case rel => exact ⟨(r0 + Nr).toNat, by omega, by rw [hwa'.out], rfl⟩
              · obtain ⟨kk, rfl⟩ := Int.eq_ofNat_of_zero_le (show 0 ≤ r0 by omega)
                go_wp2_with fail
                go_meet
                case rel => exact ⟨kk, by omega, rfl, rfl⟩
            case rest =>
              obtain ⟨kk, hkk, rfl, rfl⟩ := hcut
              obtain ⟨y, hy⟩ : ∃ y, Rk.rows[kk]? = some y := ⟨_, List.getElem?_eq_getElem (by rw [← hNr'.out]; exact hkk)⟩
              have hyr := hR1.ok y (List.mem_of_getElem? hy)
              have hgy := hA'.out.good y (List.mem_of_getElem? hy)
              have hAt := rel_At_yes hR1 kk y hy
              have hy' := Lib.hid hy
              have hgy' := Lib.hid hgy
              have hB1k := hA'.out.bk.fr hF1 (by simp)
              clear hy hgy hr0 hrl hrh
              go_wp2_with (first | (go_at_call 10; refine hAt.mono ?_; rintro e w5 ⟨rfl, hB5⟩) | (refine row_store_new rfl _ _ rfl rfl y hyr rfl rfl ?_) | (refine row_load rfl _ rfl w5.heap.size 0 rfl y hyr (rangeAt_new _ _ _) ?_))
              have hF6 : Fr [] wr (w5.alloc (.cells (rowCells y).toArray 34)) := (hF1.trans' (Below.fr hB5 [])).alloc _
              have hR6 := hA'.out.rl.fr hF6 (by simp)
              have hB6 := hA'.out.bk.fr hF6 (by simp)
              have hY6 := rangeAt_new w5 34 (rowCells y)
              have hYs : wr.heap.size ≤ w5.heap.size := (hF1.trans' (Below.fr hB5 [])).size
              have hYX : X < w5.heap.size := Nat.lt_of_lt_of_le (Array.getElem?_eq_some_iff.1 hA'.out.box).1 hYs
              have hX6 := hF6.heap hA'.out.box (by simp)
              have hS6 : (w5.alloc (.cells (rowCells y).toArray 34)).heap.size = w5.heap.size + 1 := by simp
              have hg47 := Lib.hid (show Rk.gone + 1 ≤ 140737488355328 by have := hA'.out.gn; have := hzl'.out; have := hn'.out; omega)
              have h96 := Lib.hid (show Rk.rows.length * 96 ≤ 140737488355328 by have := hA'.out.ln; have := hN47.out; omega)
              generalize w5.alloc (.cells (rowCells y).toArray 34) = W6 at hF6 hR6 hB6 hY6 hX6 hS6 ⊢
              have hfl : ∀ c ∈ Rk.foot, c < wr.heap.size := hA'.out.rl.lt
              clear hAt hR1 hB1k
              refine (rel_Remove_yes hR6 hy'.out h96.out hg47.out).mono ?_
              rintro e w7 ⟨sv, rfl, hR7, hsv7, hF7⟩
              have hB7 := hB6.removed (i := kk) hF7 hsv7
              have hpqm : ∀ c ∈ [Rk.p, Rk.q, Rk.m], c ∈ Rk.foot := fun c hc => by
                simp only [List.mem_cons, List.not_mem_nil, or_false] at hc
                rcases hc with e | e | e
                · exact e ▸ (by simp [RelD.foot])
                · exact e ▸ (by simp [RelD.foot])
                · exact e ▸ (by simp [RelD.foot])
              have f6 : Fr [] w W6 := (Below.fr hA'.out.bl []).trans' hF6
              have f7 : Fr [] w w7 := f6.trans hF7 (fun c hc => Or.inr (by have := hA'.out.fR c (hpqm c hc); have := hA'.out.lo; omega))
              have cz7 := f7.cell hcz.out (by simp)
              have hXn : X ∉ [Rk.p, Rk.q, Rk.m] := fun hc => Nat.lt_irrefl _ (hA'.out.fR X (hpqm X hc))
              have hYn : w5.heap.size ∉ [Rk.p, Rk.q, Rk.m] := fun hc => by have := hfl _ (hpqm _ hc); omega
              have hX7 := hF7.heap hX6 hXn
              have hY7 := range_fr hY6 hF7 hYn
              have hs7 : W6.heap.size ≤ w7.heap.size := hF7.size
              have hfR7 : ∀ c ∈ RelD.foot { Rk with rows := Rk.rows.eraseIdx kk, gone := Rk.gone + 1, sv := sv }, X < c := fun c hc => by
                simp only [RelD.foot, List.mem_cons, Option.mem_toList] at hc
                rcases hc with e | e | e | e
                · exact hA'.out.fR c (by simp [RelD.foot, e])
                · exact hA'.out.fR c (by simp [RelD.foot, e])
                · exact hA'.out.fR c (by simp [RelD.foot, e])
                · have := hsv7 c e; omega
              have hgood7 : ∀ q ∈ Rk.rows.eraseIdx kk, GoodRow a q := fun q hq => hA'.out.good q (List.mem_of_mem_eraseIdx hq)
              have hlen7 : (Rk.rows.eraseIdx kk).length + 1 = Nr := by rw [List.length_eraseIdx, if_pos (by rw [← hNr'.out]; exact hkk), ← hNr'.out]; omega
              have hgood7' := Lib.hid hgood7
              have hlen7' := Lib.hid hlen7
              have hfR7' := Lib.hid hfR7
              clear hgood7 hlen7 hfR7 hF1 hB5 hpqm hfl hF7 hR6 hB6 hY6 hX6 hF6 f6
              by_cases h3 : z.tmod 3 = 0
              · have h3b : (z.tmod 3 == 0) = true := by simp [h3]
                have h3' := Lib.hid h3
                clear h3
                go_wp2_with (refine row_load rfl _ rfl w5.heap.size 0 rfl y hyr hY7 ?_)
                have hAdd := rel_Add hR7 (x := y) (by show GoodRow Rk.arity y; rw [hA'.out.ar]; exact hgy'.out) (by show ((Rk.rows.eraseIdx kk).length + 1) * 96 ≤ _; rw [hlen7'.out, hNr'.out]; exact h96.out)
                refine hAdd.mono ?_
                rintro e w8 ⟨b8, sv8, rfl, hR8, hsv8, hF8⟩
                clear hAdd
                have hB8 := hB7.added (x := y) hF8 hsv8
                have hinn : ∀ c ∈ RelD.inner { Rk with rows := Rk.rows.eraseIdx kk, gone := Rk.gone + 1, sv := sv }, X < c := fun c hc => hfR7'.out c (RelD.inner_foot _ c hc)
                have f8 : Fr [] w w8 := f7.trans hF8 (fun c hc => Or.inr (by have := hinn c hc; have := hA'.out.lo; omega))
                have hX8 := hF8.heap hX7 (fun hc => Nat.lt_irrefl _ (hinn X hc))
                have hY8 := range_fr hY7 hF8 (fun hc => by
                  simp only [RelD.inner, List.mem_cons, Option.mem_toList] at hc
                  rcases hc with e | e | e
                  · exact hYn (by rw [e]; simp)
                  · exact hYn (by rw [e]; simp)
                  · have := hsv7 _ e; omega)
                have hfR8 : ∀ c ∈ RelD.foot { Rk with rows := addRow (Rk.rows.eraseIdx kk) y, gone := Rk.gone + 1, sv := sv8 }, X < c := fun c hc => by
                  simp only [RelD.foot, List.mem_cons, Option.mem_toList] at hc
                  rcases hc with e | e | e | e
                  · exact hA'.out.fR c (by simp [RelD.foot, e])
                  · exact hA'.out.fR c (by simp [RelD.foot, e])
                  · exact hA'.out.fR c (by simp [RelD.foot, e])
                  · rcases hsv8 c e with e' | e'
                    · have := hsv7 c e'; omega
                    · omega
                have hgood8 : ∀ q ∈ addRow (Rk.rows.eraseIdx kk) y, GoodRow a q := fun q hq => by
                  unfold addRow at hq
                  split at hq
                  · exact hgood7'.out q hq
                  · rcases List.mem_append.1 hq with hq | hq
                    · exact hgood7'.out q hq
                    · simp at hq; rw [hq]; exact hgy'.out
                have hlen8 : (addRow (Rk.rows.eraseIdx kk) y).length ≤ N := by
                  have h1 := hlen7'.out
                  have h2 := hA'.out.ln
                  have h3 := hNr'.out
                  unfold addRow
                  split
                  · omega
                  · rw [List.length_append, List.length_singleton]; omega
                have hfin := Lib.hid (Anew.turn hA'.out hR8 hB8 rfl (by show Rk.gone + 1 ≤ _; have := hA'.out.gn; omega) hlen8 hgood8 hyr hX8 hfR8 hA'.out.fB f8)
                clear hgood8 hlen8 hfR8 hF8 hinn hR8 hB8 hR7 hB7 hsv8 hsv7 hX7 hY7 cz7 f7
                go_wp2_with (first | (refine row_load rfl _ rfl w5.heap.size 0 rfl y hyr hY8 ?_) | (refine row_store rfl _ _ rfl X rfl _ hX8 y hyr rfl (rowCells_size hA'.out.ix) ?_))
                go_meet
                case rel => exact ⟨_, Bk, y, hfin.out, rfl, rfl⟩
              · have h3b : (z.tmod 3 == 0) = false := by simp [h3]
                clear h3
                go_wp2_with (first | (refine row_load rfl _ rfl w5.heap.size 0 rfl y hyr hY7 ?_) | (refine row_store rfl _ _ rfl X rfl _ hX7 y hyr rfl (rowCells_size hA'.out.ix) ?_))
                go_meet
                case rel => exact ⟨_, Bk, y, Anew.turn hA'.out hR7 hB7 rfl (by show Rk.gone + 1 ≤ _; have := hA'.out.gn; omega) (by have := hlen7'.out; have := hA'.out.ln; have := hNr'.out; show (Rk.rows.eraseIdx kk).length ≤ N; omega) hgood7'.out hyr hX7 hfR7'.out hA'.out.fB f7, rfl, rfl⟩
        case rest =>
          obtain ⟨R2, B2, x2, hA2, hp2, hb2⟩ := hcut
          rw [← hp2, ← hb2]
          have hp2' := Lib.hid hp2
          have hb2' := Lib.hid hb2
          have hA2' := Lib.hid hA2
          have czc := (Below.fr hA2.bl []).cell hcz.out (by simp)
          have hwj := Lib.hid (wrap64_succ (a := j) (by have := hzl'.out; have := hn'.out; omega))
          clear hA2 hp2 hb2 hLen hbp
          by_cases h2 : z.tmod 2 = 0
          · have h2b : (z.tmod 2 == 0) = true := by simp [h2]
            clear h2
            go_wp2_with fail
            rw [hp2'.out, hb2'.out]
            go_roundw
            case rel => exact ⟨j + 2, R2, B2, x2, by omega, Or.inr ⟨j + 1, rfl, by rw [hwj.out]⟩, hA2'.out, hp2'.out, hb2'.out⟩
            case measure => rw [hwj.out]; simp only [intOf]; omega
          · have h2b : (z.tmod 2 == 0) = false := by simp [h2]
            clear h2
            have hNew := book_New hA2'.out.rl
            go_wp2_with fail
            refine hNew.mono ?_
            rintro e w4 ⟨Bf, rfl, hBf, hft, hff, hB4⟩
            clear hNew
            have hF4 := Below.fr hB4 []
            have hMz := masks_one hBf (by rw [hft]; simp)
            simp only [hft, List.map_nil, List.length_nil] at hMz
            have hft' := Lib.hid hft
            have hff' := Lib.hid hff
            clear hft hff
            go_wp2_with fail
            refine hMz.mono ?_
            rintro e w5 ⟨vz, rfl, hvz, hB5⟩
            obtain ⟨az, cz, rfl⟩ := owns_slice hvz
            have hF5 := hF4.trans' (Below.fr hB5 [])
            have hBf5 := hBf.fr (Below.fr hB5 []) (by simp)
            clear hMz hvz hBf
            have hSz := book_Seen_no hBf5 hm32.out (by rw [hft'.out]; simp)
            go_wp2_with fail
            refine hSz.mono ?_
            rintro e w6 ⟨rfl, rfl⟩
            clear hSz
            have hX5 := hF5.heap hA2'.out.box (by simp)
            have hR5 := hA2'.out.rl.fr hF5 (by simp)
            have hBk5 := hA2'.out.bk.fr hF5 (by simp)
            have hxr := hA2'.out.ix
            have h96 := Lib.hid (show R2.rows.length * 96 ≤ 140737488355328 by have := hA2'.out.ln; have := hN47.out; omega)
            have hmA := Lib.hid (show mL < 2 ^ R2.arity by rw [hA2'.out.ar]; exact hmLt'.out)
            have hra5 := rangeAt_of_heap hX5
            have hXB : X ∉ B2.foot := fun h => Nat.lt_irrefl _ (hA2'.out.fB X h)
            obtain ⟨G, hG⟩ : ∃ G, G = idxs mL R2.rows (keyR mL x2) := ⟨_, rfl⟩
            have hL1 := book_Look (r := x2) (m := mL) hxr hBk5 hR5 hmA.out h96.out
            rw [← hG] at hL1
            have hG' := Lib.hid hG
            clear hG
            go_wp2_with (refine row_load rfl _ rfl X 0 rfl x2 hxr hra5 ?_)
            refine hL1.mono ?_
            rintro e w7 ⟨B7, v1, rfl, hT7, hv1, hf1⟩
            have hra7 := range_fr hra5 hT7.fr hXB
            have hBBf : ∀ c ∈ Bf.foot, c ∉ B2.foot := fun c hc hb => by have := hff'.out c hc; have := hA2'.out.bk.flt c hb; omega
            have hBf7 := hBf5.fr hT7.fr hBBf
            have hL2 := book_Look (r := x2) (m := mL) hxr hBf7 hT7.rl hmA.out h96.out
            rw [← hG'.out] at hL2
            obtain ⟨a1, c1, rfl⟩ := owns_slice hv1
            clear hL1 hra5
            go_wp2_with (refine row_load rfl _ rfl X 0 rfl x2 hxr hra7 ?_)
            refine hL2.mono ?_
            rintro e w8 ⟨B8, v2, rfl, hT8, hv2, hf2⟩
            obtain ⟨a2, c2, rfl⟩ := owns_slice hv2
            clear hL2 hra7
            have hBf5l := hBf5.flt
            have hI1 := (ints_of_own hv1).fr hT8.fr (fun k hk hb => by have := (hv1.lt k hk).1; have := hBf5l k hb; omega)
            have hI2 := ints_of_own hv2
            have hlen8 := Lib.hid (show G.length ≤ 140737488355328 by rw [hG'.out]; have := idxs_le mL R2.rows (keyR mL x2); have := h96.out; omega)
            clear hv1 hv2 hf1 hf2
            go_wp2_with (go_at_call 21; refine (same_ints hI1 hI2 hlen8.out).mono ?_; rintro e w9 ⟨rfl, hB9⟩)
            clear hI1 hI2
            have hs7 := hT7.fr.size
            have hs8 := hT8.fr.size
            have hs9 := hB9.size
            have hB7l := hT7.bk.flt
            have hB8l := hT8.bk.flt
            have hd78 : ∀ c ∈ B7.foot, c ∉ Bf.foot := fun c hc hb => by
              rcases hT7.foot c hc with h | h
              · exact hBBf c hb h
              · have := hBf5l c hb; omega
            have hB79 := (hT7.bk.fr hT8.fr hd78).fr (Below.fr hB9 []) (by simp)
            have hB89 := hT8.bk.fr (Below.fr hB9 []) (by simp)
            have hR9 := hT8.rl.fr (Below.fr hB9 []) (by simp)
            obtain ⟨ix, hix, hse⟩ := hT7.seen
            have hS := book_Seen_yes hB79 hix
            rw [hse, hT7.eb] at hS
            have hLen := rel_Len hR9
            clear hix hse
            have hD1 := book_Distinct (m := mL) hB79 hR9 hmA.out h96.out
            rw [hT7.eb] at hD1
            obtain ⟨d1, hd1⟩ : ∃ d1, d1 = (grp mL R2.rows).length := ⟨_, rfl⟩
            rw [← hd1] at hD1
            obtain ⟨Nr, hNr⟩ : ∃ Nr, Nr = R2.rows.length := ⟨_, rfl⟩
            rw [← hNr] at hS hLen
            have hd1' := Lib.hid hd1
            clear hd1 hNr
            go_wp2_with (first | (go_at_call 20; refine hS.mono ?_; rintro e w10 ⟨rfl, rfl⟩) | (go_at_call 9; refine hLen.mono ?_; rintro e w10 ⟨rfl, rfl⟩))
            refine hD1.mono ?_
            rintro e w12 ⟨B12, rfl, hT12⟩
            clear hD1 hS hLen
            have hd87 : ∀ c ∈ B8.foot, c ∉ B7.foot := fun c hc hb => by
              rcases hT8.foot c hc with h | h
              · exact hd78 c hb h
              · have := hB7l c hb; omega
            have hB812 := hB89.fr hT12.fr hd87
            have hD2 := book_Distinct (m := mL) hB812 hT12.rl hmA.out h96.out
            rw [hT8.eb, ← hd1'.out] at hD2
            go_wp2_with fail
            refine hD2.mono ?_
            rintro e w13 ⟨B13, rfl, hT13⟩
            clear hD2
            have hm8 : B8.tab.map (·.1) = [mL] := by rw [hT8.masks, hft'.out]; rfl
            have hm13 : B13.tab.map (·.1) = [mL] := by rw [hT13.masks, hm8]; simp [askMasks]
            have hM := masks_one hT13.bk (by rw [hm13]; simp)
            rw [hm13, hT13.eb, hT8.eb] at hM
            clear hm8 hm13
            go_wp2_with fail
            refine hM.mono ?_
            rintro e w14 ⟨vm, rfl, hvm, hB14⟩
            clear hM
            have hvc := fun g => hvm.cells (g := g)
            obtain ⟨gm, capm, rfl, _, hgm⟩ := hvm.form (by simp)
            have hc1 : w14.cell? ⟨gm, 0, none⟩ = some (.int .u32 (mL : Int)) := by
              have := hvc gm rfl 0 (.int .u32 (mL : Int)) rfl
              simpa [Addr.add] using this
            have hFA : Fr [] w14 (w14.alloc (.cells #[.int .u32 (mL : Int)] 24)) := (Fr.refl _ _).alloc _
            have hc1' := hFA.cell hc1 (by simp)
            have hc2' : (w14.alloc (.cells #[.int .u32 (mL : Int)] 24)).cell? ⟨w14.heap.size, 0, none⟩ = some (.int .u32 (mL : Int)) := by rw [cell_of_row _ _ 0 _ _ _ (heap_alloc_new w14 _)]; rfl
            have hsm := same_mask_one (c1 := capm) (c2 := 1) hc1' hc2'
            clear hc1 hc1' hc2' hvm hvc
            have hF13 : Fr [] w13 w14 := Below.fr hB14 []
            have f7 : Fr B2.foot wc w7 := (hF5.mono (fun _ h => by cases h)).trans' hT7.fr
            have hs5 := hF5.size
            have f8 := f7.trans hT8.fr (fun c hc => Or.inr (hff'.out c hc))
            have f9 := f8.trans' ((Below.fr hB9 []).mono (fun _ h => by cases h))
            have f12 := f9.trans hT12.fr (fun c hc => (hT7.foot c hc).imp id fun h => Nat.le_trans hs5 h)
            have f13 := f12.trans hT13.fr (fun c hc => (hT8.foot c hc).elim (fun h => Or.inr (hff'.out c h)) (fun h => Or.inr (by omega)))
            have hd128 : ∀ c ∈ B12.foot, c ∉ B8.foot := fun c hc hb => by
              rcases hT12.foot c hc with h | h
              · exact hd87 c hb h
              · have := hB8l c hb; omega
            have hB1213 := hT12.bk.fr hT13.fr hd128
            have hR13 := hT13.rl
            have hXw : X < wc.heap.size := (Array.getElem?_eq_some_iff.1 hA2'.out.box).1
            have hfB12 : ∀ c ∈ B12.foot, X < c := fun c hc => by
              rcases hT12.foot c hc with h | h
              · rcases hT7.foot c h with h | h
                · exact hA2'.out.fB c h
                · omega
              · omega
            have heb : B12.b = B2.b := by rw [hT12.eb, hT7.eb]
            clear hT7 hT8 hT12 hT13 hB79 hB89 hB812 hR9 hBf5 hBf7 hBf5l hB7l hB8l hd78 hd87 hd128 hBBf hR5 hBk5 hX5
            go_wp2_with (go_at_call 22; refine hsm.mono ?_; rintro e w15 ⟨rfl, hB15⟩)
            have hF15 : Fr [] w13 w15 := (hF13.trans' hFA).trans' (Below.fr hB15 [])
            have f15 := f13.trans' (hF15.mono (fun _ h => by cases h))
            have hfin : Anew w w15 X a N (j + 2) R2 B12 x2 := by
              refine ⟨hR13.fr hF15 (by simp), hB1213.fr hF15 (by simp), hA2'.out.ar, by have := hA2'.out.gn; omega, hA2'.out.ln, hA2'.out.good, hxr, f15.heap hA2'.out.box hXB, hA2'.out.fR, hfB12, hA2'.out.lo, ?_⟩
              exact ((Below.fr hA2'.out.bl []).trans f15 (fun c hc => Or.inr (by have := hA2'.out.fB c hc; have := hA2'.out.lo; omega))).below (fun _ h => by cases h) (Nat.le_refl _)
            rw [hp2'.out, hb2'.out]
            go_roundw
            case rel => exact ⟨j + 2, R2, B12, x2, by omega, Or.inr ⟨j + 1, rfl, by rw [hwj.out]⟩, hfin, hp2'.out, by rw [heb, hb2'.out]⟩
            case measure => rw [hwj.out]; simp only [intOf]; omega
      · have hge : ¬ (j : Int) < n := by omega
        go_wp2_with fail
        go_ret
        exact ⟨rfl, hA'.out.bl⟩
end Go.Proofs.Ytepimaghpjkibaa

/-
  The plain law behind IndexFinds: the first rows of their keys, and the counts.
-/
import Derived.Test.YtepimaghpjkibaaPlain
namespace Go.Proofs.Ytepimaghpjkibaa

/-- The key of row number i. -/
def keyAt (m : Nat) (rows : List Row) (i : Nat) : Row := keyR m (rows.getD i [])
/-- The numbers of the rows with the key of row number i. -/
def mates (m : Nat) (rows : List Row) (i : Nat) : List Nat := idxs m rows (keyAt m rows i)
/-- Is row number i the first of its key? -/
def isFirst (m : Nat) (rows : List Row) (i : Nat) : Bool := decide ((mates m rows i).head? = some i)
def firsts (m : Nat) (rows : List Row) (k : Nat) : List Nat := (List.range k).filter (isFirst m rows)

theorem mem_idxs {m : Nat} {rows : List Row} {k : Row} {j : Nat} : j ∈ idxs m rows k ↔ j < rows.length ∧ keyR m (rows.getD j []) = k := by
  unfold idxs
  rw [List.mem_filter, List.mem_range]
  simp

theorem mem_mates {m : Nat} {rows : List Row} {i j : Nat} : j ∈ mates m rows i ↔ j < rows.length ∧ keyAt m rows j = keyAt m rows i := mem_idxs

theorem self_mate {m : Nat} {rows : List Row} {i : Nat} (h : i < rows.length) : i ∈ mates m rows i := mem_mates.2 ⟨h, rfl⟩

theorem idxs_sorted (m : Nat) (rows : List Row) (k : Row) : (idxs m rows k).Pairwise (· < ·) := List.Pairwise.filter _ List.pairwise_lt_range

/-- Nothing ahead of the first. -/
theorem first_iff {m : Nat} {rows : List Row} {i : Nat} (h : i < rows.length) : isFirst m rows i = true ↔ ∀ j, j < i → keyAt m rows j ≠ keyAt m rows i := by
  unfold isFirst
  rw [decide_eq_true_iff]
  have hs := idxs_sorted m rows (keyAt m rows i)
  have hm := self_mate (m := m) h
  constructor
  · intro he j hj e
    have hjm : j ∈ mates m rows i := mem_mates.2 ⟨by omega, e⟩
    unfold mates at he hjm
    cases hl : idxs m rows (keyAt m rows i) with
    | nil => rw [hl] at he; cases he
    | cons y r =>
      rw [hl] at he hs hjm
      simp at he
      subst he
      rcases List.mem_cons.1 hjm with e' | hr
      · omega
      · have := (List.pairwise_cons.1 hs).1 j hr
        omega
  · intro hno
    unfold mates at hm ⊢
    cases hl : idxs m rows (keyAt m rows i) with
    | nil => rw [hl] at hm; cases hm
    | cons y r =>
      have hy : y ∈ mates m rows i := by unfold mates; rw [hl]; simp
      rw [mem_mates] at hy
      rw [hl] at hs hm
      simp
      rcases List.mem_cons.1 hm with e | hr
      · exact e.symm
      · have := (List.pairwise_cons.1 hs).1 i hr
        exact absurd hy.2 (hno y this)

/-- More columns: no fewer first rows. -/
theorem first_more {m m' : Nat} {rows : List Row} (hsub : ∀ x y : Row, keyR m' x = keyR m' y → keyR m x = keyR m y) {i : Nat} (h : i < rows.length) (hf : isFirst m rows i = true) : isFirst m' rows i = true :=
  (first_iff h).2 fun j hj e => (first_iff h).1 hf j hj (hsub _ _ e)

theorem firsts_le {m m' : Nat} {rows : List Row} (hsub : ∀ x y : Row, keyR m' x = keyR m' y → keyR m x = keyR m y) : (firsts m rows rows.length).length ≤ (firsts m' rows rows.length).length := by
  unfold firsts
  rw [← List.countP_eq_length_filter, ← List.countP_eq_length_filter]
  exact List.countP_mono_left fun i hi h => first_more hsub (List.mem_range.1 hi) h

theorem keyAt_snoc (m : Nat) (a : List Row) (x : Row) {i : Nat} (h : i < a.length) : keyAt m (a ++ [x]) i = keyAt m a i := by
  unfold keyAt
  rw [List.getD_eq_getElem?_getD, List.getD_eq_getElem?_getD, List.getElem?_append_left h]
theorem keyAt_last (m : Nat) (a : List Row) (x : Row) : keyAt m (a ++ [x]) a.length = keyR m x := by
  unfold keyAt
  simp [List.getD_eq_getElem?_getD]

/-- The first rows are the groups' first numbers. -/
theorem firsts_grp (m : Nat) (rows : List Row) : firsts m rows rows.length = (grp m rows).map (fun p => p.2.headD 0) ∧ ∀ p ∈ grp m rows, p.2 ≠ [] := by
  induction rows using list_snoc with
  | h0 => simp [firsts, grp, grpFrom]
  | h1 a x ih =>
    obtain ⟨ih1, ih2⟩ := ih
    have hcongr : (List.range a.length).filter (isFirst m (a ++ [x])) = firsts m a a.length := by
      unfold firsts
      apply List.filter_congr
      intro i hi
      have hi' : i < a.length := List.mem_range.1 hi
      rw [Bool.eq_iff_iff, first_iff (by simp; omega), first_iff hi']
      constructor
      · intro h j hj e
        exact h j hj (by rw [keyAt_snoc m a x hi', keyAt_snoc m a x (by omega)]; exact e)
      · intro h j hj e
        rw [keyAt_snoc m a x hi', keyAt_snoc m a x (by omega)] at e
        exact h j hj e
    have hf : firsts m (a ++ [x]) (a ++ [x]).length = firsts m a a.length ++ [a.length].filter (isFirst m (a ++ [x])) := by
      unfold firsts at hcongr ⊢
      rw [List.length_append, List.length_singleton, List.range_succ, List.filter_append, hcongr]
    have hlast : isFirst m (a ++ [x]) a.length = true ↔ keyR m x ∉ (grp m a).map (·.1) := by
      rw [first_iff (by simp), mem_grp_keys]
      constructor
      · rintro h ⟨j, hj, e⟩
        exact h j hj (by rw [keyAt_last, keyAt_snoc m a x hj]; exact e)
      · intro h j hj e
        rw [keyAt_last, keyAt_snoc m a x hj] at e
        exact h ⟨j, hj, e⟩
    rw [hf, grp_snoc, ih1]
    by_cases hk : keyR m x ∈ (grp m a).map (·.1)
    · have hl : isFirst m (a ++ [x]) a.length = false := by
        cases h : isFirst m (a ++ [x]) a.length
        · rfl
        · exact absurd hk (hlast.1 h)
      obtain ⟨p, hp, hpk⟩ := List.mem_map.1 hk
      obtain ⟨j, hj⟩ := List.getElem?_of_mem hp
      have hj' : (grp m a)[j]? = some (keyR m x, p.2) := by rw [hj, ← hpk]
      rw [ins_at (grp_nodup m a) hj']
      have hne := ih2 p hp
      constructor
      · simp only [List.filter_cons, hl, List.filter_nil]
        simp only [Bool.false_eq_true, if_false, List.append_nil]
        rw [List.map_set]
        apply List.ext_getElem?
        intro i
        rw [List.getElem?_set]
        split
        · rename_i e
          subst e
          have hlt : j < (grp m a).length := (List.getElem?_eq_some_iff.1 hj').1
          have hv := (List.getElem?_eq_some_iff.1 hj').2
          simp [hlt, hv]
          cases hp2 : p.2 with
          | nil => exact absurd hp2 hne
          | cons y r => simp
        · rfl
      · intro q hq
        rcases List.mem_or_eq_of_mem_set hq with hq | rfl
        · exact ih2 q hq
        · simp
    · have hl := hlast.2 hk
      rw [ins_none (fun p hp e => hk (List.mem_map.2 ⟨p, hp, e⟩))]
      constructor
      · simp [hl]
      · intro q hq
        rcases List.mem_append.1 hq with hq | hq
        · exact ih2 q hq
        · simp at hq; subst hq; simp

theorem sum_ins (k : Row) (i : Nat) : ∀ g : Groups, ((ins k i g).map (fun p => p.2.length)).sum = (g.map (fun p => p.2.length)).sum + 1
  | [] => by simp [ins]
  | p :: r => by
    unfold ins
    split
    · simp; omega
    · simp [sum_ins k i r]; omega

theorem sum_grp (m : Nat) (rows : List Row) : ((grp m rows).map (fun p => p.2.length)).sum = rows.length := by
  induction rows using list_snoc with
  | h0 => simp [grp, grpFrom]
  | h1 a x ih => rw [grp_snoc, sum_ins, ih]; simp

/-- The counts of the first rows make up all. -/
theorem sum_firsts (m : Nat) (rows : List Row) : ((firsts m rows rows.length).map (fun i => (mates m rows i).length)).sum = rows.length := by
  rw [(firsts_grp m rows).1, List.map_map]
  conv => rhs; rw [← sum_grp m rows]
  congr 1
  apply List.map_congr_left
  intro p hp
  obtain ⟨j, hj⟩ := List.getElem?_of_mem hp
  have hlk : idxs m rows p.1 = p.2 := by rw [← look_grp]; exact look_at (grp_nodup m rows) (by rw [hj])
  have hne := (firsts_grp m rows).2 p hp
  have hh : p.2.headD 0 ∈ idxs m rows p.1 := by
    rw [hlk]
    cases h : p.2 with
    | nil => exact absurd h hne
    | cons y r => simp
  have hk := (mem_idxs.1 hh).2
  simp only [Function.comp]
  unfold mates keyAt
  rw [hk, hlk]

theorem count_firsts (m : Nat) (rows : List Row) : (firsts m rows rows.length).length = (grp m rows).length := by
  rw [(firsts_grp m rows).1, List.length_map]

/-- A mask with more columns. -/
theorem key_more {m n : Nat} (x y : Row) (h : keyR (m ||| n) x = keyR (m ||| n) y) : keyR m x = keyR m y :=
  keyR_eq_iff.2 fun i hi hb => keyR_eq_iff.1 h i hi (by rw [Nat.testBit_or, hb]; rfl)

theorem mates_more {m m' : Nat} {rows : List Row} (hsub : ∀ x y : Row, keyR m' x = keyR m' y → keyR m x = keyR m y) (i : Nat) : (mates m' rows i).length ≤ (mates m rows i).length := by
  unfold mates idxs
  rw [← List.countP_eq_length_filter, ← List.countP_eq_length_filter]
  refine List.countP_mono_left fun j _ h => ?_
  simp only [decide_eq_true_iff] at h ⊢
  exact hsub _ _ h
end Go.Proofs.Ytepimaghpjkibaa

/-
  Plain facts about rows, masks, keys and groups: lists and numbers alone, no program in sight.
-/
namespace Go.Proofs.Ytepimaghpjkibaa

abbrev Row := List Int

/-- A row of 24 numbers of 32 bits. -/
def IsRow (x : Row) : Prop := x.length = 24 ∧ ∀ y ∈ x, -2147483648 ≤ y ∧ y ≤ 2147483647

def zeroRow : Row := List.replicate 24 0

theorem zeroRow_is : IsRow zeroRow := by
  refine ⟨rfl, fun y hy => ?_⟩
  have := List.eq_of_mem_replicate hy
  omega

theorem zeroRow_getD (i : Nat) : zeroRow.getD i 0 = 0 := by
  unfold zeroRow
  rw [List.getD_eq_getElem?_getD, List.getElem?_replicate]
  split <;> rfl

theorem IsRow.getD {x : Row} (h : IsRow x) (i : Nat) : -2147483648 ≤ x.getD i 0 ∧ x.getD i 0 ≤ 2147483647 := by
  by_cases hi : i < x.length
  · have : x.getD i 0 ∈ x := by rw [List.getD_eq_getElem?_getD, List.getElem?_eq_getElem hi]; simp
    exact h.2 _ this
  · rw [List.getD_eq_getElem?_getD, List.getElem?_eq_none (by omega)]; simp

theorem row_ext {x y : Row} (hx : x.length = 24) (hy : y.length = 24) (h : ∀ i, i < 24 → x.getD i 0 = y.getD i 0) : x = y := by
  apply List.ext_getElem (by omega)
  intro i h1 h2
  have := h i (by omega)
  simpa [List.getD_eq_getElem?_getD, List.getElem?_eq_getElem h1, List.getElem?_eq_getElem h2] using this

/-- The key of a row under a mask: the other columns 0. -/
def keyR (m : Nat) (x : Row) : Row := (List.range 24).map fun i => if m.testBit i then x.getD i 0 else 0

theorem keyR_length (m : Nat) (x : Row) : (keyR m x).length = 24 := by simp [keyR]

theorem keyR_getD (m : Nat) (x : Row) {i : Nat} (h : i < 24) : (keyR m x).getD i 0 = if m.testBit i then x.getD i 0 else 0 := by
  simp [keyR, List.getD_eq_getElem?_getD, h]

theorem keyR_is {m : Nat} {x : Row} (h : IsRow x) : IsRow (keyR m x) := by
  refine ⟨keyR_length _ _, fun y hy => ?_⟩
  simp only [keyR, List.mem_map, List.mem_range] at hy
  obtain ⟨i, _, rfl⟩ := hy
  split
  · exact h.getD i
  · omega

/-- Two rows have one key just if they agree in the columns of the mask. -/
theorem keyR_eq_iff {m : Nat} {x y : Row} : keyR m x = keyR m y ↔ ∀ i, i < 24 → m.testBit i = true → x.getD i 0 = y.getD i 0 := by
  constructor
  · intro h i hi hb
    have h1 := keyR_getD m x hi
    have h2 := keyR_getD m y hi
    rw [h] at h1
    rw [h1] at h2
    simpa [hb] using h2
  · intro h
    refine row_ext (keyR_length _ _) (keyR_length _ _) fun i hi => ?_
    rw [keyR_getD _ _ hi, keyR_getD _ _ hi]
    split
    · rename_i hb; exact h i hi hb
    · rfl

/-! ### groups -/

abbrev Groups := List (Row × List Nat)

/-- One number more behind those of its key; a new key at the end. -/
def ins (k : Row) (i : Nat) : Groups → Groups
  | [] => [(k, [i])]
  | p :: r => if p.1 = k then (p.1, p.2 ++ [i]) :: r else p :: ins k i r

/-- What the groups hold for a key. -/
def look (k : Row) : Groups → List Nat
  | [] => []
  | p :: r => if p.1 = k then p.2 else look k r

theorem look_ins (k k' : Row) (i : Nat) : ∀ g : Groups, look k' (ins k i g) = if k = k' then look k' g ++ [i] else look k' g
  | [] => by simp [ins, look]
  | p :: r => by
    unfold ins
    by_cases h : p.1 = k
    · subst h
      by_cases h' : p.1 = k'
      · simp [look, h']
      · simp [look, h']
    · rw [if_neg h]
      unfold look
      rw [look_ins k k' i r]
      by_cases h' : p.1 = k'
      · have : ¬ k = k' := fun e => h (h'.trans e.symm)
        simp [h', this]
      · simp [h']

theorem look_none {k : Row} : ∀ {g : Groups}, (∀ p ∈ g, p.1 ≠ k) → look k g = []
  | [], _ => rfl
  | p :: r, h => by
    unfold look
    rw [if_neg (h p (by simp))]
    exact look_none fun q hq => h q (by simp [hq])

theorem ins_none {k : Row} {i : Nat} : ∀ {g : Groups}, (∀ p ∈ g, p.1 ≠ k) → ins k i g = g ++ [(k, [i])]
  | [], _ => rfl
  | p :: r, h => by
    unfold ins
    rw [if_neg (h p (by simp)), ins_none fun q hq => h q (by simp [hq])]
    rfl

/-- At the place of its key. -/
theorem ins_at {k : Row} {i : Nat} : ∀ {g : Groups} {j : Nat} {l : List Nat}, (g.map (·.1)).Nodup → g[j]? = some (k, l) → ins k i g = g.set j (k, l ++ [i])
  | p :: r, 0, l, _, h => by
    simp at h
    subst h
    simp [ins]
  | p :: r, j + 1, l, hn, h => by
    simp at h
    have hm : (k, l) ∈ r := List.mem_of_getElem? h
    simp only [List.map_cons, List.nodup_cons] at hn
    unfold ins
    rw [if_neg (fun e => hn.1 (by rw [e]; exact List.mem_map.2 ⟨_, hm, rfl⟩)), ins_at hn.2 h]
    simp

theorem look_at {k : Row} : ∀ {g : Groups} {j : Nat} {l : List Nat}, (g.map (·.1)).Nodup → g[j]? = some (k, l) → look k g = l
  | p :: r, 0, l, _, h => by
    simp at h
    subst h
    simp [look]
  | p :: r, j + 1, l, hn, h => by
    simp at h
    have hm : (k, l) ∈ r := List.mem_of_getElem? h
    simp only [List.map_cons, List.nodup_cons] at hn
    unfold look
    rw [if_neg (fun e => hn.1 (by rw [e]; exact List.mem_map.2 ⟨_, hm, rfl⟩))]
    exact look_at hn.2 h

theorem ins_keys (k : Row) (i : Nat) : ∀ g : Groups, (ins k i g).map (·.1) = if k ∈ g.map (·.1) then g.map (·.1) else g.map (·.1) ++ [k]
  | [] => by simp [ins]
  | p :: r => by
    unfold ins
    by_cases h : p.1 = k
    · simp [h]
    · rw [if_neg h]
      simp only [List.map_cons, ins_keys k i r, List.mem_cons]
      have h' : ¬ k = p.1 := fun e => h e.symm
      by_cases hm : k ∈ r.map (·.1)
      · rw [if_pos hm, if_pos (Or.inr hm)]
      · rw [if_neg hm, if_neg (fun e => e.elim h' hm)]
        rfl

theorem ins_nodup {k : Row} {i : Nat} {g : Groups} (h : (g.map (·.1)).Nodup) : ((ins k i g).map (·.1)).Nodup := by
  rw [ins_keys]
  split
  · exact h
  · rename_i hn
    rw [List.nodup_append]
    refine ⟨h, by simp, ?_⟩
    intro a ha b hb e
    simp at hb
    subst hb
    subst e
    exact hn ha

/-- The groups of rows under a mask, the rows' numbers from n on. -/
def grpFrom (m : Nat) (g : Groups) (n : Nat) : List Row → Groups
  | [] => g
  | x :: r => grpFrom m (ins (keyR m x) n g) (n + 1) r

def grp (m : Nat) (rows : List Row) : Groups := grpFrom m [] 0 rows

theorem grpFrom_append (m : Nat) : ∀ (a b : List Row) (g : Groups) (n : Nat), grpFrom m g n (a ++ b) = grpFrom m (grpFrom m g n a) (n + a.length) b
  | [], b, g, n => by simp [grpFrom]
  | x :: r, b, g, n => by
    simp only [List.cons_append, grpFrom, grpFrom_append m r b, List.length_cons]
    congr 1
    omega

theorem grp_append (m : Nat) (a b : List Row) : grp m (a ++ b) = grpFrom m (grp m a) a.length b := by
  unfold grp
  rw [grpFrom_append]
  simp

theorem grp_snoc (m : Nat) (a : List Row) (x : Row) : grp m (a ++ [x]) = ins (keyR m x) a.length (grp m a) := by
  rw [grp_append]
  rfl

/-- The numbers of the rows that have a key. -/
def idxs (m : Nat) (rows : List Row) (k : Row) : List Nat := (List.range rows.length).filter fun j => decide (keyR m (rows.getD j []) = k)

theorem idxs_snoc (m : Nat) (a : List Row) (x k : Row) : idxs m (a ++ [x]) k = if keyR m x = k then idxs m a k ++ [a.length] else idxs m a k := by
  unfold idxs
  have e1 : (List.range (a ++ [x]).length).filter (fun j => decide (keyR m ((a ++ [x]).getD j []) = k)) = (List.range a.length).filter (fun j => decide (keyR m (a.getD j []) = k)) ++ [a.length].filter (fun _ => decide (keyR m x = k)) := by
    rw [List.length_append, List.length_singleton, List.range_succ, List.filter_append]
    congr 1
    · apply List.filter_congr
      intro j hj
      have hj' : j < a.length := List.mem_range.1 hj
      rw [List.getD_eq_getElem?_getD, List.getD_eq_getElem?_getD, List.getElem?_append_left hj']
    · apply List.filter_congr
      intro j hj
      simp at hj
      subst hj
      simp [List.getD_eq_getElem?_getD]
  rw [e1]
  by_cases h : keyR m x = k
  · simp [h]
  · simp [h]

theorem list_snoc {α : Type} {P : List α → Prop} (h0 : P []) (h1 : ∀ a x, P a → P (a ++ [x])) (l : List α) : P l := by
  have : ∀ l : List α, P l.reverse := by
    intro l
    induction l with
    | nil => simpa using h0
    | cons x r ih => simpa using h1 _ x ih
  simpa using this l.reverse

theorem look_grp (m : Nat) (rows : List Row) (k : Row) : look k (grp m rows) = idxs m rows k := by
  induction rows using list_snoc with
  | h0 => rfl
  | h1 a x ih =>
    rw [grp_snoc, look_ins, idxs_snoc, ih]

theorem grp_nodup (m : Nat) (rows : List Row) : ((grp m rows).map (·.1)).Nodup := by
  induction rows using list_snoc with
  | h0 => simp [grp, grpFrom]
  | h1 a x ih =>
    rw [grp_snoc]
    exact ins_nodup ih

theorem mem_grp_keys (m : Nat) (rows : List Row) (k : Row) : k ∈ (grp m rows).map (·.1) ↔ ∃ j, j < rows.length ∧ keyR m (rows.getD j []) = k := by
  induction rows using list_snoc with
  | h0 => simp [grp, grpFrom]
  | h1 a x ih =>
    rw [grp_snoc, ins_keys]
    have hx : ∀ j, j < a.length → (a ++ [x]).getD j [] = a.getD j [] := fun j hj => by
      rw [List.getD_eq_getElem?_getD, List.getD_eq_getElem?_getD, List.getElem?_append_left hj]
    have hl : (a ++ [x]).getD a.length [] = x := by simp [List.getD_eq_getElem?_getD]
    have hr : (∃ j, j < (a ++ [x]).length ∧ keyR m ((a ++ [x]).getD j []) = k) ↔ (∃ j, j < a.length ∧ keyR m (a.getD j []) = k) ∨ keyR m x = k := by
      constructor
      · rintro ⟨j, hj, e⟩
        simp at hj
        by_cases hja : j < a.length
        · exact Or.inl ⟨j, hja, by rw [hx j hja] at e; exact e⟩
        · have : j = a.length := by omega
          subst this
          rw [hl] at e
          exact Or.inr e
      · rintro (⟨j, hj, e⟩ | e)
        · exact ⟨j, by simp; omega, by rw [hx j hj]; exact e⟩
        · exact ⟨a.length, by simp, by rw [hl]; exact e⟩
    rw [hr, ← ih]
    split
    · rename_i hm
      constructor
      · exact Or.inl
      · rintro (h | h)
        · exact h
        · rw [← h]; exact hm
    · rw [List.mem_append, List.mem_singleton]
      constructor
      · rintro (h | h)
        · exact Or.inl h
        · exact Or.inr h.symm
      · rintro (h | h)
        · exact Or.inl h
        · exact Or.inr h.symm

end Go.Proofs.Ytepimaghpjkibaa

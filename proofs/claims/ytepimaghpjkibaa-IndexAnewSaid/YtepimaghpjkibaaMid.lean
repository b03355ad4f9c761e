/-
  Between two statements of 'ask': what holds ('Mid').
-/
import Derived.Test.YtepimaghpjkibaaBook
namespace Go.Proofs.Ytepimaghpjkibaa
open Go.RowKit

theorem BkAt.c0 {w : World} {B : BkD} {R : RelD} (h : BkAt w B R) : w.cell? ⟨B.b, 0, none⟩ = some (.pointer (some ⟨R.p, 0, none⟩)) := by rw [cell_of_row w _ 0 _ _ _ h.hb]; rfl
theorem BkAt.c1 {w : World} {B : BkD} {R : RelD} (h : BkAt w B R) : w.cell? ⟨B.b, 1, none⟩ = some (.map (some B.m)) := by rw [cell_of_row w _ 1 _ _ _ h.hb]; rfl
theorem IxAt.c0 {w : World} {x : Ixr} (h : IxAt w x) : w.cell? ⟨x.rk, 0, none⟩ = some (.map (some x.km)) := by rw [cell_of_row w _ 0 _ _ _ h.hk]; rfl
theorem IxAt.c1 {w : World} {x : Ixr} (h : IxAt w x) : w.cell? ⟨x.rk, 1, none⟩ = some (.int .i64 x.seen) := by rw [cell_of_row w _ 1 _ _ _ h.hk]; rfl
theorem IxAt.c2 {w : World} {x : Ixr} (h : IxAt w x) : w.cell? ⟨x.rk, 2, none⟩ = some (.int .i64 x.gone) := by rw [cell_of_row w _ 2 _ _ _ h.hk]; rfl

/-- The masks that a book has an index for, a mask asked. -/
def askMasks (l : List Nat) (m : Nat) : List Nat := if m ∈ l then l else l ++ [m]

/-- What 'ask' leaves: the book with an index for the mask, of all the relation's rows. -/
structure AskedAt (w w' : World) (B : BkD) (R : RelD) (m : Nat) (B' : BkD) (j : Nat) (x : Ixr) : Prop where
  bk : BkAt w' B' R
  rl : RelAt w' R
  eb : B'.b = B.b
  em : B'.m = B.m
  at_ : B'.tab[j]? = some (m, x)
  seen : x.seen = R.rows.length
  gone : x.gone = R.gone
  cont : x.cont = grp m R.rows
  foot : ∀ c ∈ B'.foot, c ∈ B.foot ∨ w.heap.size ≤ c
  fr : Fr B.foot w w'
  masks : B'.tab.map (·.1) = askMasks (B.tab.map (·.1)) m
  rest : ∀ p ∈ B.tab, p.1 ≠ m → p ∈ B'.tab

/-- Between two statements: N: the variable's cell; M: the mask's cell. -/
structure Mid (w w' : World) (B : BkD) (R : RelD) (m M N : Nat) (B' : BkD) (j : Nat) (x : Ixr) : Prop where
  bk : BkAt w' B' R
  rl : RelAt w' R
  eb : B'.b = B.b
  em : B'.m = B.m
  at_ : B'.tab[j]? = some (m, x)
  box : w'.heap[N]? = some (.cells #[.pointer (some ⟨x.rk, 0, none⟩)] 114 (0, 0))
  msk : w'.heap[M]? = some (.cells #[.int .u32 m] 24 (0, 0))
  foot : ∀ c ∈ B'.foot, c ∈ B.foot ∨ w.heap.size ≤ c
  fr : Fr B.foot w w'
  nN : N ∉ B'.foot
  nM : M ∉ B'.foot
  lN : w.heap.size ≤ N
  masks : B'.tab.map (·.1) = askMasks (B.tab.map (·.1)) m
  rest : ∀ p ∈ B.tab, p.1 ≠ m → p ∈ B'.tab

theorem Mid.memb {w w' : World} {B : BkD} {R : RelD} {m M N : Nat} {B' : BkD} {j : Nat} {x : Ixr} (h : Mid w w' B R m M N B' j x) : (m, x) ∈ B'.tab := List.mem_of_getElem? h.at_

theorem Mid.ix {w w' : World} {B : BkD} {R : RelD} {m M N : Nat} {B' : BkD} {j : Nat} {x : Ixr} (h : Mid w w' B R m M N B' j x) : IxAt w' x := h.bk.ix _ h.memb

theorem Mid.inB {w w' : World} {B : BkD} {R : RelD} {m M N : Nat} {B' : BkD} {j : Nat} {x : Ixr} (h : Mid w w' B R m M N B' j x) : ∀ c ∈ x.foot, c ∈ B'.foot := fun _ hc => mem_bfoot.2 (Or.inr (Or.inr ⟨_, h.memb, hc⟩))

theorem Mid.below {w w' w2 : World} {B : BkD} {R : RelD} {m M N : Nat} {B' : BkD} {j : Nat} {x : Ixr} (h : Mid w w' B R m M N B' j x) (hf : Fr [] w' w2) : Mid w w2 B R m M N B' j x where
  bk := h.bk.fr hf (fun _ _ => List.not_mem_nil)
  rl := h.rl.fr hf (fun _ _ => List.not_mem_nil)
  eb := h.eb
  em := h.em
  at_ := h.at_
  box := hf.heap h.box List.not_mem_nil
  msk := hf.heap h.msk List.not_mem_nil
  foot := h.foot
  fr := h.fr.trans hf (fun _ hx => by cases hx)
  nN := h.nN
  nM := h.nM
  lN := h.lN
  masks := h.masks
  rest := h.rest

/-- The entry of the mask turned. -/
theorem Mid.step {w w' w2 : World} {B : BkD} {R : RelD} {m M N : Nat} {B' : BkD} {j : Nat} {x x' : Ixr} (h : Mid w w' B R m M N B' j x) (hf : Fr x.foot w' w2) (hx : IxAt w2 x') (hrk : x'.rk = x.rk)
    (hft : ∀ c ∈ x'.foot, c ∈ x.foot ∨ w'.heap.size ≤ c) (hinv : IxInv m x' R) : Mid w w2 B R m M N { B' with tab := B'.tab.set j (m, x') } j x' := by
  have hjl : j < B'.tab.length := (List.getElem?_eq_some_iff.1 h.at_).1
  have hfoot : ∀ c ∈ BkD.foot { B' with tab := B'.tab.set j (m, x') }, c ∈ B'.foot ∨ w'.heap.size ≤ c := fun c hc => by
    rcases mem_bfoot.1 hc with rfl | rfl | ⟨p, hp, hc⟩
    · exact Or.inl (mem_bfoot.2 (Or.inl rfl))
    · exact Or.inl (mem_bfoot.2 (Or.inr (Or.inl rfl)))
    · rcases List.mem_or_eq_of_mem_set hp with hp | rfl
      · exact Or.inl (mem_bfoot.2 (Or.inr (Or.inr ⟨p, hp, hc⟩)))
      · exact (hft c hc).imp (h.inB c) id
  have hlN := (Array.getElem?_eq_some_iff.1 h.box).1
  have hlM := (Array.getElem?_eq_some_iff.1 h.msk).1
  refine ⟨h.bk.set h.at_ hf hx hrk hft h.rl.lt hinv, h.rl.fr hf (fun c hc hc' => h.bk.apR c (h.inB c hc') hc), h.eb, h.em, by simp [hjl], ?_, ?_, ?_, ?_, ?_, ?_, h.lN, ?_, ?_⟩
  · rw [hrk]; exact hf.heap h.box (fun hc => h.nN (h.inB _ hc))
  · exact hf.heap h.msk (fun hc => h.nM (h.inB _ hc))
  · intro c hc
    rcases hfoot c hc with h1 | h1
    · exact h.foot c h1
    · exact Or.inr (Nat.le_trans h.fr.size h1)
  · exact h.fr.trans hf (fun c hc => h.foot c (h.inB c hc))
  · intro hc
    rcases hfoot _ hc with h1 | h1
    · exact h.nN h1
    · omega
  · intro hc
    rcases hfoot _ hc with h1 | h1
    · exact h.nM h1
    · omega
  · rw [← h.masks]
    show (B'.tab.set j (m, x')).map (·.1) = _
    rw [List.map_set]
    apply List.ext_getElem?
    intro i
    rw [List.getElem?_set]
    split
    · rename_i e
      subst e
      have := (List.getElem?_eq_some_iff.1 h.at_).2
      simp [hjl, this]
    · rfl
  · intro p hp hne
    obtain ⟨i, hi⟩ := List.getElem?_of_mem (h.rest p hp hne)
    have hij : j ≠ i := fun e => by
      subst e
      rw [h.at_] at hi
      cases hi
      exact hne rfl
    exact List.mem_of_getElem? (i := i) (by show (B'.tab.set j (m, x'))[i]? = _; rw [List.getElem?_set, if_neg hij]; exact hi)

theorem Mid.asked {w w' : World} {B : BkD} {R : RelD} {m M N : Nat} {B' : BkD} {j : Nat} {x : Ixr} (h : Mid w w' B R m M N B' j x) (h1 : x.seen = R.rows.length) (h2 : x.gone = R.gone) (h3 : x.cont = grp m R.rows) : AskedAt w w' B R m B' j x :=
  ⟨h.bk, h.rl, h.eb, h.em, h.at_, h1, h2, h3, h.foot, h.fr, h.masks, h.rest⟩
/-- A new entry's two blocks. -/
theorem new_world {wc : World} {N t : Nat} (hbx : wc.heap[N]? = some (.cells #[.pointer none] t (0, 0))) (g : Value) :
    let WA := ((wc.setCell ⟨N, 0, none⟩ (.pointer (some ⟨wc.heap.size + 1, 0, none⟩))).alloc (.map #[] 0)).alloc (.cells #[.map (some wc.heap.size), .int .i64 0, g] 120)
    Fr [N] wc WA ∧ WA.heap[N]? = some (.cells #[.pointer (some ⟨wc.heap.size + 1, 0, none⟩)] t (0, 0)) ∧ WA.heap[wc.heap.size]? = some (.map #[] 0) ∧
      WA.heap[wc.heap.size + 1]? = some (.cells #[.map (some wc.heap.size), .int .i64 0, g] 120 (0, 0)) := by
  intro WA
  have hlN := (Array.getElem?_eq_some_iff.1 hbx).1
  have hs : (wc.setCell ⟨N, 0, none⟩ (.pointer (some ⟨wc.heap.size + 1, 0, none⟩))).heap.size = wc.heap.size := by simp
  refine ⟨(((Fr.refl [N] wc).setCell (p := ⟨N, 0, none⟩) (Or.inl (by simp)) _).alloc _).alloc _, ?_, ?_, ?_⟩
  · simp only [WA, heap_at, World.size_alloc, hs]
    rw [if_neg (by omega), if_neg (by omega), heap_setCell_same wc N 0 _ _ _ hbx]
    rfl
  · simp only [WA, heap_at, World.size_alloc, hs]
    rw [if_neg (by omega)]; simp
  · simp only [WA, heap_at, World.size_alloc, hs]
    simp

/-- The book with a new entry. -/
theorem new_mid {w wc W9 : World} {B : BkD} {R : RelD} {m N : Nat} (hB : BkAt w B R) (hBc : BkAt wc B R) (hRc : RelAt wc R) (hF : Fr [] w wc) (hwN : w.heap.size ≤ N) (hno : m ∉ B.tab.map (·.1)) (hmlt : m < 4294967296)
    (hMc : wc.heap[w.heap.size]? = some (.cells #[.int .u32 m] 24 (0, 0))) (hNM : N ≠ w.heap.size) (hlN : N < wc.heap.size) (hNR' : ∀ c ∈ R.foot, c ≠ N)
    (hF9 : Fr [B.m, N] wc W9) (h1 : W9.heap[N]? = some (.cells #[.pointer (some ⟨wc.heap.size + 1, 0, none⟩)] 114 (0, 0))) (h2 : W9.heap[wc.heap.size]? = some (.map #[] 0))
    (h3 : W9.heap[wc.heap.size + 1]? = some (.cells #[.map (some wc.heap.size), .int .i64 0, .int .i64 R.gone] 120 (0, 0))) (hm9 : MapIs W9 B.m (B.kv ++ [(.int .u32 (m : Int), .pointer (some ⟨wc.heap.size + 1, 0, none⟩))])) :
    Mid w W9 B R m w.heap.size N { B with tab := B.tab ++ [(m, ⟨wc.heap.size + 1, wc.heap.size, 0, R.gone, []⟩)] } B.tab.length ⟨wc.heap.size + 1, wc.heap.size, 0, R.gone, []⟩ := by
  have hft : ∀ c ∈ (⟨wc.heap.size + 1, wc.heap.size, 0, R.gone, []⟩ : Ixr).foot, wc.heap.size ≤ c := fun c hc => by
    simp [Ixr.foot, Ixr.inner] at hc
    omega
  have hNB : ∀ c ∈ B.foot, c ≠ N := fun c hc e => by
    have := hB.flt c hc
    omega
  have hNR : ∀ c ∈ R.foot, c ∉ [B.m, N] := fun c hc h => by
    simp at h
    rcases h with rfl | rfl
    · exact hB.apR _ (mem_bfoot.2 (Or.inr (Or.inl rfl))) hc
    · exact hNR' c hc rfl
  have hfoot : ∀ c ∈ BkD.foot { B with tab := B.tab ++ [(m, ⟨wc.heap.size + 1, wc.heap.size, 0, R.gone, []⟩)] }, c ∈ B.foot ∨ wc.heap.size ≤ c := fun c hc => by
    rcases mem_bfoot.1 hc with rfl | rfl | ⟨p, hp, hc⟩
    · exact Or.inl (mem_bfoot.2 (Or.inl rfl))
    · exact Or.inl (mem_bfoot.2 (Or.inr (Or.inl rfl)))
    · rcases List.mem_append.1 hp with hp | hp
      · exact Or.inl (mem_bfoot.2 (Or.inr (Or.inr ⟨p, hp, hc⟩)))
      · simp at hp
        subst hp
        exact Or.inr (hft c hc)
  have hIx : IxAt W9 ⟨wc.heap.size + 1, wc.heap.size, 0, R.gone, []⟩ := ⟨h3, ⟨⟨#[], 0, h2, rfl, by simp, by simp⟩, by simp, by simp, by simp, by simp⟩⟩
  have hinv : IxInv m ⟨wc.heap.size + 1, wc.heap.size, 0, R.gone, []⟩ R := ⟨Nat.le_refl _, fun _ => ⟨Nat.zero_le _, by simp [Ixr.cont, grp, grpFrom]⟩⟩
  refine ⟨hBc.snoc (S := [B.m, N]) (fun c hc => ?_) hno hmlt hF9 hm9 hIx hft hRc.lt hinv, hRc.fr hF9 hNR, rfl, rfl, by simp, h1, ?_, ?_, ?_, ?_, ?_, hwN, ?_, ?_⟩
  · simp at hc
    rcases hc with rfl | rfl
    · exact Or.inl rfl
    · exact Or.inr fun h => hNB _ h rfl
  · refine hF9.heap hMc fun hc => ?_
    simp at hc
    rcases hc with e | e
    · have := hB.flt B.m (mem_bfoot.2 (Or.inr (Or.inl rfl)))
      omega
    · exact hNM e.symm
  · intro c hc
    rcases hfoot c hc with h | h
    · exact Or.inl h
    · exact Or.inr (Nat.le_trans hF.size h)
  · refine (hF.mono (fun _ h => by cases h)).trans hF9 fun c hc => ?_
    simp at hc
    rcases hc with rfl | rfl
    · exact Or.inl (mem_bfoot.2 (Or.inr (Or.inl rfl)))
    · exact Or.inr hwN
  · intro hc
    rcases hfoot _ hc with h | h
    · exact hNB _ h rfl
    · omega
  · intro hc
    have hMl := (Array.getElem?_eq_some_iff.1 hMc).1
    rcases hfoot _ hc with h | h
    · have := hB.flt _ h
      omega
    · omega
  · unfold askMasks
    rw [if_neg hno]
    simp
  · intro p hp _
    exact List.mem_append.2 (Or.inl hp)
end Go.Proofs.Ytepimaghpjkibaa

/-
  The list of lists that a law keeps ('pedigreelaw01.Book'): Ints and Masks.
-/
import Derived.Test.YtepimaghpjkibaaFilled
import Derived.Test.YtepimaghpjkibaaNums
namespace Go.Proofs.Ytepimaghpjkibaa
open Go.RowKit

structure KeptD where
  b : Nat
  n : Nat
  vi : Value
  is : List (Value × Nat)
  vm : Value
  ms : List (Value × Nat)

def keptCells (n : Nat) (vi vm : Value) : Array Value := #[.int .i64 n, .slice none 0 0, .slice none 0 0, .slice none 0 0, .slice none 0 0, .slice none 0 0, .slice none 0 0, .slice none 0 0, .slice none 0 0, .slice none 0 0, .slice none 0 0, .slice none 0 0, .slice none 0 0, .slice none 0 0, vi, .slice none 0 0, .slice none 0 0, .slice none 0 0, .slice none 0 0, .slice none 0 0, .slice none 0 0, .slice none 0 0, vm, .slice none 0 0, .slice none 0 0, .slice none 0 0, .slice none 0 0, .slice none 0 0, .slice none 0 0, .slice none 0 0, .slice none 0 0, .slice none 0 0]

def heldOf (p : Value × Nat) : List Value := [p.1, .slice none 0 0, .int .i64 p.2]

def KeptD.foot (K : KeptD) : List Nat := K.b :: (K.vi.ownBlock.toList ++ K.vm.ownBlock.toList)

structure KeptAt (w : World) (K : KeptD) : Prop where
  hb : w.heap[K.b]? = some (.cells (keptCells K.n K.vi K.vm) 80 (0, 0))
  oi : w.ownsRow 0 149 3 K.vi K.is.length (K.is.flatMap heldOf)
  om : w.ownsRow 0 151 3 K.vm K.ms.length (K.ms.flatMap heldOf)
  ap : K.foot.Nodup

theorem Try.info149 : (Try.prog.info? 149).map (fun i => (i.zero, i.size, i.bytes)) = some (some (.agg #[.slice none 0 0, .slice none 0 0, .int .i64 0]), 3, 56) := by kernel_rfl
theorem Try.info151 : (Try.prog.info? 151).map (fun i => (i.zero, i.size, i.bytes)) = some (some (.agg #[.slice none 0 0, .slice none 0 0, .int .i64 0]), 3, 56) := by kernel_rfl


set_option maxRecDepth 100000 in
set_option maxHeartbeats 1200000 in
theorem keep_int0 {w : World} {K : KeptD} (h : KeptAt w K) (a : Option Addr) (l c : Nat) (hb : (K.is.length + 1) * 56 ≤ 140737488355328) (hn : K.n + 1 ≤ 140737488355328) :
    Calls Try.prog 48 #[.pointer (some ⟨K.b, 0, none⟩), .slice a l c] w fun e w' => ∃ v', e = .returned (.tuple #[]) ∧ KeptAt w' { K with n := K.n + 1, vi := v', is := K.is ++ [(.slice a l c, K.n + 1)] } ∧
      (∀ k, v'.ownBlock = some k → K.vi.ownBlock = some k ∨ w.heap.size ≤ k) ∧ Fr (K.b :: K.vi.ownBlock.toList) w w' := by
  obtain ⟨i0, hi0, hz0, hz1, hz2⟩ := info_parts Try.info149
  have hw1 := wrap64_succ hn
  have lb := (Array.getElem?_eq_some_iff.1 h.hb).1
  have c0 : w.cell? ⟨K.b, 0, none⟩ = some (.int .i64 K.n) := by rw [cell_of_row w _ 0 _ _ _ h.hb]; rfl
  have z0 := fun j => frozen_of_row w K.b j _ _ h.hb
  have hb1 : (w.setCell ⟨K.b, 0, none⟩ (.int .i64 (K.n + 1 : Nat))).heap[K.b]? = some (.cells (keptCells (K.n + 1) K.vi K.vm) 80 (0, 0)) := heap_setCell_same w K.b 0 _ _ _ h.hb
  have hF1 : Fr [K.b] w (w.setCell ⟨K.b, 0, none⟩ (.int .i64 (K.n + 1 : Nat))) := (Fr.refl _ _).setCell (Or.inl (by simp)) _
  obtain ⟨W0, hW0⟩ : ∃ W0, W0 = w.setCell ⟨K.b, 0, none⟩ (.int .i64 (K.n + 1 : Nat)) := ⟨_, rfl⟩
  rw [← hW0] at hb1 hF1
  have hW0' := Lib.hid hW0
  have hn' := Lib.hid hn
  have hb' := Lib.hid hb
  have hw1' := Lib.hid hw1
  clear hW0 hn hb hw1
  go_enter Try.func48, Try.ntmps48
  go_wp2_with fail
  rw [hw1'.out, ← hW0'.out]
  have hap := h.ap
  have howi : ∀ k, K.vi.ownBlock = some k → k ≠ K.b ∧ k < w.heap.size := fun k hk => ⟨fun e => by subst e; simp [KeptD.foot, hk] at hap, (h.oi.lt k hk).2⟩
  have hown := hF1.ownsRow h.oi (fun k hk hm => (howi k hk).1 (by simpa using hm))
  obtain ⟨sa, sc, hsv⟩ := owns_slice hown
  refine region_lex K.vi.ownBlock.toList [true, true, true, true, true, true, true, true, true, true, true, false, false, false, true] (by kernel_rfl) (by kernel_rfl) (by intro c a d v w h; cases d <;> exact h) ?_
  intro W hWh hW
  have hq3 := hW.heap hb1 (by simp)
  have hKT : K.b ∉ K.vi.ownBlock.toList := fun hmem => (howi K.b (by simpa using hmem)).1 rfl
  have d0 : ∀ W', Fr K.vi.ownBlock.toList W W' → W'.cell? ⟨K.b, 0, none⟩ = some (.int .i64 (K.n + 1 : Nat)) := fun W' hW' => hW'.cell (by rw [cell_of_row W _ 0 _ _ _ hq3]; rfl) hKT
  have d1 : ∀ W', Fr K.vi.ownBlock.toList W W' → W'.cell? ⟨K.b, 14, none⟩ = some (.slice sa K.is.length sc) := fun W' hW' => hW'.cell (by rw [cell_of_row W _ 14 _ _ _ hq3, ← hsv]; rfl) hKT
  have hownW := hW.ownsRow hown (fun _ _ => List.not_mem_nil)
  have hbox := hownW.alloc (.cells #[.slice a l c, .slice none 0 0, .int .i64 (K.n + 1 : Nat)] 149)
  have hsT : Fr K.vi.ownBlock.toList W (W.alloc (.cells #[.slice a l c, .slice none 0 0, .int .i64 (K.n + 1 : Nat)] 149)) := (Fr.refl _ _).alloc _
  have hnews := World.news_of_block (heap_alloc_new W (.cells #[.slice a l c, .slice none 0 0, .int .i64 (K.n + 1 : Nat)] 149))
  have hob := Lib.hid (show K.vi.ownBlock = (Value.slice sa K.is.length sc).ownBlock by rw [hsv])
  have hsv' := Lib.hid hsv
  rw [hsv] at hbox
  have h' := Lib.hid h
  have hz3 := frozen_of_row W K.b 14 _ _ hq3
  clear hWh c0 z0 hsv h
  repeat (refine lex_quiet ?_ (fun W' hW' => ?_) ?_; rotate_left; (go_simp; first | done | rfl); (try simp only [Act.put, List.setIfInBounds_toArray, List.set_cons_succ, List.set_cons_zero]))
  clear d0 d1
  refine lex_held (fun K9 hK9 => ?_)
  go_wp2_with fail
  refine hK9 _ _ hsT ?_
  try simp only [Act.put, List.setIfInBounds_toArray, List.set_cons_succ, List.set_cons_zero]
  clear hK9
  refine lex_held (fun K9 hK9 => ?_)
  refine wpList_append_lies _ rfl (.tmp 15) (.tmp 22) 61 rfl 0 149 i0 _ 3 56 Try.underlying61 hi0 hz0 hz1 hz2 rfl (by omega) (.slice sa K.is.length sc) K.is.length (K.is.flatMap heldOf) rfl hbox ⟨W.heap.size, 0, none⟩ 1 1 [.slice a l c, .slice none 0 0, .int .i64 (K.n + 1 : Nat)] rfl rfl hnews (by simp [Value.oneCell']) (by omega) (by have := hb'.out; unfold maxLen; omega) (by have := hb'.out; omega) (by simp) (W.heap.size + 1) (by simp) ?_
  intro g cap w1 hown1 hgrow hat hlt
  rw [← hob.out] at hgrow hat
  have hFA : Fr K.vi.ownBlock.toList W w1 := ((Fr.refl _ W).alloc _).grown hgrow (fun k e => Or.inl (by rw [e]; simp))
  have hq4 := hFA.heap hq3 hKT
  have hz4 := frozen_of_row w1 K.b 14 _ _ hq4
  have d4 : w1.cell? ⟨K.b, 14, none⟩ = some (.slice sa K.is.length sc) := by rw [cell_of_row w1 _ 14 _ _ _ hq4, hsv'.out]; rfl
  refine hK9 _ _ hFA ?_
  try simp only [Act.put, List.setIfInBounds_toArray, List.set_cons_succ, List.set_cons_zero]
  clear hK9
  refine lex_held (fun K9 hK9 => ?_)
  go_wp2_with fail
  refine hK9 _ _ hFA ?_
  try simp only [Act.put, List.setIfInBounds_toArray, List.set_cons_succ, List.set_cons_zero]
  clear hK9
  repeat (refine lex_quiet ?_ (fun W' hW' => ?_) ?_; rotate_left; (go_simp; first | done | rfl); (try simp only [Act.put, List.setIfInBounds_toArray, List.set_cons_succ, List.set_cons_zero]))
  refine lex_tail ?_
  go_wp2_with fail
  go_end0
  have hFS : Fr [K.b] w1 (w1.setCell ⟨K.b, 14, none⟩ (.slice (some ⟨g, 0, none⟩) (K.is.length + 1) cap)) := (Fr.refl _ _).setCell (Or.inl (by simp)) _
  have hgb : g ≠ K.b ∧ ∀ k, K.vm.ownBlock = some k → g ≠ k := by
    have hs0 := hF1.size
    have hs1 := hW.size
    rcases hat with h1 | h1
    · exact ⟨(howi g h1).1, fun k hk e => by subst e; simp [KeptD.foot, h1, hk] at hap⟩
    · exact ⟨by omega, fun k hk e => by have := (h'.out.om.lt k hk).2; omega⟩
  have hoth : ∀ k, K.vm.ownBlock = some k → k ≠ K.b ∧ k ∉ K.vi.ownBlock.toList := fun k hk => ⟨fun e => by subst e; simp [KeptD.foot, hk] at hap, fun hm => by
    have hm' : K.vi.ownBlock = some k := by simpa using hm
    simp [KeptD.foot, hk, hm'] at hap⟩
  have hFall : Fr (K.b :: K.vi.ownBlock.toList) w (w1.setCell ⟨K.b, 14, none⟩ (.slice (some ⟨g, 0, none⟩) (K.is.length + 1) cap)) :=
    (((hF1.mono (fun y hy => by simp at hy; simp [hy])).trans' (hW.mono (fun y hy => by cases hy))).trans' (hFA.mono (fun y hy => List.mem_cons_of_mem _ hy))).trans' (hFS.mono (fun y hy => by simp at hy; simp [hy]))
  refine ⟨.slice (some ⟨g, 0, none⟩) (K.is.length + 1) cap, rfl, ⟨?_, ?_, ?_, ?_⟩, ?_, hFall⟩
  · exact heap_setCell_same w1 K.b 14 _ _ _ hq4
  · have := hFS.ownsRow hown1 (fun k hk => by simp [Value.ownBlock] at hk; subst hk; simpa using hgb.1)
    simpa [heldOf, List.flatMap_append] using this
  · exact ((((hF1.ownsRow h'.out.om (fun k hk hm => (hoth k hk).1 (by simpa using hm)))) |> fun o => hW.ownsRow o (fun _ _ => List.not_mem_nil)) |> fun o => hFA.ownsRow o (fun k hk => (hoth k hk).2)) |> fun o => hFS.ownsRow o (fun k hk hm => (hoth k hk).1 (by simpa using hm))
  · have hao := fun k (hk : K.vm.ownBlock = some k) => hoth k hk
    have h1 := hgb.1
    have h2 := hgb.2
    have h3 : ∀ k, K.vm.ownBlock = some k → k ≠ K.b := fun k hk => (hoth k hk).1
    unfold KeptD.foot
    cases hv : K.vm.ownBlock with
    | none => simp [Value.ownBlock]; exact Ne.symm h1
    | some k => have h4 := h2 k hv; have h5 := h3 k hv; simp [Value.ownBlock]; exact ⟨⟨by omega, by omega⟩, by omega⟩
  · intro k hk
    simp [Value.ownBlock] at hk
    subst hk
    rcases hat with h1 | h1
    · exact Or.inl h1
    · exact Or.inr (by have := hF1.size; have := hW.size; omega)

set_option maxRecDepth 100000 in
set_option maxHeartbeats 400000 in
theorem keep_int {w : World} {K : KeptD} (h : KeptAt w K) (a : Option Addr) (l c : Nat) (hb : (K.is.length + 1) * 56 ≤ 140737488355328) (hn : K.n + 1 ≤ 140737488355328) :
    Calls Try.prog 31 #[.pointer (some ⟨K.b, 0, none⟩), .slice a l c] w fun e w' => ∃ v', e = .returned (.tuple #[]) ∧ KeptAt w' { K with n := K.n + 1, vi := v', is := K.is ++ [(.slice a l c, K.n + 1)] } ∧
      (∀ k, v'.ownBlock = some k → K.vi.ownBlock = some k ∨ w.heap.size ≤ k) ∧ Fr (K.b :: K.vi.ownBlock.toList) w w' := by
  have hk := keep_int0 h a l c hb hn
  clear h hb hn
  go_enter Try.func31, Try.ntmps31
  go_wp2_with fail
  refine hk.mono ?_
  rintro e w1 ⟨v', rfl, h1, h2, h3⟩
  go_wp2_with fail
  go_end0
  exact ⟨v', rfl, h1, h2, h3⟩

set_option maxRecDepth 100000 in
set_option maxHeartbeats 1200000 in
theorem keep_mask0 {w : World} {K : KeptD} (h : KeptAt w K) (a : Option Addr) (l c : Nat) (hb : (K.ms.length + 1) * 56 ≤ 140737488355328) (hn : K.n + 1 ≤ 140737488355328) :
    Calls Try.prog 50 #[.pointer (some ⟨K.b, 0, none⟩), .slice a l c] w fun e w' => ∃ v', e = .returned (.tuple #[]) ∧ KeptAt w' { K with n := K.n + 1, vm := v', ms := K.ms ++ [(.slice a l c, K.n + 1)] } ∧
      (∀ k, v'.ownBlock = some k → K.vm.ownBlock = some k ∨ w.heap.size ≤ k) ∧ Fr (K.b :: K.vm.ownBlock.toList) w w' := by
  obtain ⟨i0, hi0, hz0, hz1, hz2⟩ := info_parts Try.info151
  have hw1 := wrap64_succ hn
  have lb := (Array.getElem?_eq_some_iff.1 h.hb).1
  have c0 : w.cell? ⟨K.b, 0, none⟩ = some (.int .i64 K.n) := by rw [cell_of_row w _ 0 _ _ _ h.hb]; rfl
  have z0 := fun j => frozen_of_row w K.b j _ _ h.hb
  have hb1 : (w.setCell ⟨K.b, 0, none⟩ (.int .i64 (K.n + 1 : Nat))).heap[K.b]? = some (.cells (keptCells (K.n + 1) K.vi K.vm) 80 (0, 0)) := heap_setCell_same w K.b 0 _ _ _ h.hb
  have hF1 : Fr [K.b] w (w.setCell ⟨K.b, 0, none⟩ (.int .i64 (K.n + 1 : Nat))) := (Fr.refl _ _).setCell (Or.inl (by simp)) _
  obtain ⟨W0, hW0⟩ : ∃ W0, W0 = w.setCell ⟨K.b, 0, none⟩ (.int .i64 (K.n + 1 : Nat)) := ⟨_, rfl⟩
  rw [← hW0] at hb1 hF1
  have hW0' := Lib.hid hW0
  have hn' := Lib.hid hn
  have hb' := Lib.hid hb
  have hw1' := Lib.hid hw1
  clear hW0 hn hb hw1
  go_enter Try.func50, Try.ntmps50
  go_wp2_with fail
  rw [hw1'.out, ← hW0'.out]
  have hap := h.ap
  have howi : ∀ k, K.vm.ownBlock = some k → k ≠ K.b ∧ k < w.heap.size := fun k hk => ⟨fun e => by subst e; simp [KeptD.foot, hk] at hap, (h.om.lt k hk).2⟩
  have hown := hF1.ownsRow h.om (fun k hk hm => (howi k hk).1 (by simpa using hm))
  obtain ⟨sa, sc, hsv⟩ := owns_slice hown
  refine region_lex K.vm.ownBlock.toList [true, true, true, true, true, true, true, true, true, true, true, false, false, false, true] (by kernel_rfl) (by kernel_rfl) (by intro c a d v w h; cases d <;> exact h) ?_
  intro W hWh hW
  have hq3 := hW.heap hb1 (by simp)
  have hKT : K.b ∉ K.vm.ownBlock.toList := fun hmem => (howi K.b (by simpa using hmem)).1 rfl
  have d0 : ∀ W', Fr K.vm.ownBlock.toList W W' → W'.cell? ⟨K.b, 0, none⟩ = some (.int .i64 (K.n + 1 : Nat)) := fun W' hW' => hW'.cell (by rw [cell_of_row W _ 0 _ _ _ hq3]; rfl) hKT
  have d1 : ∀ W', Fr K.vm.ownBlock.toList W W' → W'.cell? ⟨K.b, 22, none⟩ = some (.slice sa K.ms.length sc) := fun W' hW' => hW'.cell (by rw [cell_of_row W _ 22 _ _ _ hq3, ← hsv]; rfl) hKT
  have hownW := hW.ownsRow hown (fun _ _ => List.not_mem_nil)
  have hbox := hownW.alloc (.cells #[.slice a l c, .slice none 0 0, .int .i64 (K.n + 1 : Nat)] 151)
  have hsT : Fr K.vm.ownBlock.toList W (W.alloc (.cells #[.slice a l c, .slice none 0 0, .int .i64 (K.n + 1 : Nat)] 151)) := (Fr.refl _ _).alloc _
  have hnews := World.news_of_block (heap_alloc_new W (.cells #[.slice a l c, .slice none 0 0, .int .i64 (K.n + 1 : Nat)] 151))
  have hob := Lib.hid (show K.vm.ownBlock = (Value.slice sa K.ms.length sc).ownBlock by rw [hsv])
  have hsv' := Lib.hid hsv
  rw [hsv] at hbox
  have h' := Lib.hid h
  have hz3 := frozen_of_row W K.b 22 _ _ hq3
  clear hWh c0 z0 hsv h
  repeat (refine lex_quiet ?_ (fun W' hW' => ?_) ?_; rotate_left; (go_simp; first | done | rfl); (try simp only [Act.put, List.setIfInBounds_toArray, List.set_cons_succ, List.set_cons_zero]))
  clear d0 d1
  refine lex_held (fun K9 hK9 => ?_)
  go_wp2_with fail
  refine hK9 _ _ hsT ?_
  try simp only [Act.put, List.setIfInBounds_toArray, List.set_cons_succ, List.set_cons_zero]
  clear hK9
  refine lex_held (fun K9 hK9 => ?_)
  refine wpList_append_lies _ rfl (.tmp 15) (.tmp 22) 69 rfl 0 151 i0 _ 3 56 Try.underlying69 hi0 hz0 hz1 hz2 rfl (by omega) (.slice sa K.ms.length sc) K.ms.length (K.ms.flatMap heldOf) rfl hbox ⟨W.heap.size, 0, none⟩ 1 1 [.slice a l c, .slice none 0 0, .int .i64 (K.n + 1 : Nat)] rfl rfl hnews (by simp [Value.oneCell']) (by omega) (by have := hb'.out; unfold maxLen; omega) (by have := hb'.out; omega) (by simp) (W.heap.size + 1) (by simp) ?_
  intro g cap w1 hown1 hgrow hat hlt
  rw [← hob.out] at hgrow hat
  have hFA : Fr K.vm.ownBlock.toList W w1 := ((Fr.refl _ W).alloc _).grown hgrow (fun k e => Or.inl (by rw [e]; simp))
  have hq4 := hFA.heap hq3 hKT
  have hz4 := frozen_of_row w1 K.b 22 _ _ hq4
  have d4 : w1.cell? ⟨K.b, 22, none⟩ = some (.slice sa K.ms.length sc) := by rw [cell_of_row w1 _ 22 _ _ _ hq4, hsv'.out]; rfl
  refine hK9 _ _ hFA ?_
  try simp only [Act.put, List.setIfInBounds_toArray, List.set_cons_succ, List.set_cons_zero]
  clear hK9
  refine lex_held (fun K9 hK9 => ?_)
  go_wp2_with fail
  refine hK9 _ _ hFA ?_
  try simp only [Act.put, List.setIfInBounds_toArray, List.set_cons_succ, List.set_cons_zero]
  clear hK9
  repeat (refine lex_quiet ?_ (fun W' hW' => ?_) ?_; rotate_left; (go_simp; first | done | rfl); (try simp only [Act.put, List.setIfInBounds_toArray, List.set_cons_succ, List.set_cons_zero]))
  refine lex_tail ?_
  go_wp2_with fail
  go_end0
  have hFS : Fr [K.b] w1 (w1.setCell ⟨K.b, 22, none⟩ (.slice (some ⟨g, 0, none⟩) (K.ms.length + 1) cap)) := (Fr.refl _ _).setCell (Or.inl (by simp)) _
  have hgb : g ≠ K.b ∧ ∀ k, K.vi.ownBlock = some k → g ≠ k := by
    have hs0 := hF1.size
    have hs1 := hW.size
    rcases hat with h1 | h1
    · exact ⟨(howi g h1).1, fun k hk e => by subst e; simp [KeptD.foot, h1, hk] at hap⟩
    · exact ⟨by omega, fun k hk e => by have := (h'.out.oi.lt k hk).2; omega⟩
  have hoth : ∀ k, K.vi.ownBlock = some k → k ≠ K.b ∧ k ∉ K.vm.ownBlock.toList := fun k hk => ⟨fun e => by subst e; simp [KeptD.foot, hk] at hap, fun hm => by
    have hm' : K.vm.ownBlock = some k := by simpa using hm
    simp [KeptD.foot, hk, hm'] at hap⟩
  have hFall : Fr (K.b :: K.vm.ownBlock.toList) w (w1.setCell ⟨K.b, 22, none⟩ (.slice (some ⟨g, 0, none⟩) (K.ms.length + 1) cap)) :=
    (((hF1.mono (fun y hy => by simp at hy; simp [hy])).trans' (hW.mono (fun y hy => by cases hy))).trans' (hFA.mono (fun y hy => List.mem_cons_of_mem _ hy))).trans' (hFS.mono (fun y hy => by simp at hy; simp [hy]))
  refine ⟨.slice (some ⟨g, 0, none⟩) (K.ms.length + 1) cap, rfl, ⟨?_, ?_, ?_, ?_⟩, ?_, hFall⟩
  · exact heap_setCell_same w1 K.b 22 _ _ _ hq4
  · exact ((((hF1.ownsRow h'.out.oi (fun k hk hm => (hoth k hk).1 (by simpa using hm)))) |> fun o => hW.ownsRow o (fun _ _ => List.not_mem_nil)) |> fun o => hFA.ownsRow o (fun k hk => (hoth k hk).2)) |> fun o => hFS.ownsRow o (fun k hk hm => (hoth k hk).1 (by simpa using hm))
  · have := hFS.ownsRow hown1 (fun k hk => by simp [Value.ownBlock] at hk; subst hk; simpa using hgb.1)
    simpa [heldOf, List.flatMap_append] using this
  · have hao := fun k (hk : K.vi.ownBlock = some k) => hoth k hk
    have h1 := hgb.1
    have h2 := hgb.2
    have h3 : ∀ k, K.vi.ownBlock = some k → k ≠ K.b := fun k hk => (hoth k hk).1
    unfold KeptD.foot
    cases hv : K.vi.ownBlock with
    | none => simp [Value.ownBlock]; exact Ne.symm h1
    | some k => have h4 := h2 k hv; have h5 := h3 k hv; simp [Value.ownBlock]; exact ⟨⟨by omega, by omega⟩, by omega⟩
  · intro k hk
    simp [Value.ownBlock] at hk
    subst hk
    rcases hat with h1 | h1
    · exact Or.inl h1
    · exact Or.inr (by have := hF1.size; have := hW.size; omega)

set_option maxRecDepth 100000 in
set_option maxHeartbeats 400000 in
theorem keep_mask {w : World} {K : KeptD} (h : KeptAt w K) (a : Option Addr) (l c : Nat) (hb : (K.ms.length + 1) * 56 ≤ 140737488355328) (hn : K.n + 1 ≤ 140737488355328) :
    Calls Try.prog 35 #[.pointer (some ⟨K.b, 0, none⟩), .slice a l c] w fun e w' => ∃ v', e = .returned (.tuple #[]) ∧ KeptAt w' { K with n := K.n + 1, vm := v', ms := K.ms ++ [(.slice a l c, K.n + 1)] } ∧
      (∀ k, v'.ownBlock = some k → K.vm.ownBlock = some k ∨ w.heap.size ≤ k) ∧ Fr (K.b :: K.vm.ownBlock.toList) w w' := by
  have hk := keep_mask0 h a l c hb hn
  clear h hb hn
  go_enter Try.func35, Try.ntmps35
  go_wp2_with fail
  refine hk.mono ?_
  rintro e w1 ⟨v', rfl, h1, h2, h3⟩
  go_wp2_with fail
  go_end0
  exact ⟨v', rfl, h1, h2, h3⟩
end Go.Proofs.Ytepimaghpjkibaa

/-
  What a book tells: Look, Count, Distinct.
-/
import Derived.Test.YtepimaghpjkibaaAsk
namespace Go.Proofs.Ytepimaghpjkibaa
open Go.RowKit

/-- A look-up among the groups. -/
theorem groups_look {w : World} {x : Ixr} (h : GsAt w x) {k : Row} (hk : IsRow k) :
    ∃ v, (Instr.lookup 118 (.map (some x.km)) (rowV k) false).run Try.prog w = .ok v w ∧ w.ownsRow 0 3 1 v (look k x.cont).length (ints (look k x.cont)) := by
  obtain ⟨kl, hkl⟩ := row_keyOf hk
  by_cases hm : ∃ g ∈ x.gs, g.key = k
  · obtain ⟨g, hg, rfl⟩ := hm
    obtain ⟨j, hj⟩ := List.getElem?_of_mem hg
    have hkj : x.kv[j]? = some (rowV g.key, g.v) := by simp [Ixr.kv, hj]
    have hcj : x.cont[j]? = some (g.key, g.idx) := by simp [Ixr.cont, hj]
    rw [look_at (cont_nodup h.nd) hcj]
    exact ⟨g.v, h.hm.is.look_some Try.rowLaw Try.underlying118 (kv_keysOk h.ok) hkl (kv_keys_nodup h.nd) hkj false, h.own g hg⟩
  · have hno : ∀ p ∈ x.kv, p.1 ≠ rowV k := fun p hp e => by
      obtain ⟨g, hg, rfl⟩ := List.mem_map.1 hp
      exact hm ⟨g, hg, rowV_inj e⟩
    have hnoc : ∀ p ∈ x.cont, p.1 ≠ k := fun p hp e => by
      obtain ⟨g, hg, rfl⟩ := List.mem_map.1 hp
      exact hm ⟨g, hg, e⟩
    rw [look_none hnoc]
    exact ⟨_, h.hm.is.look_none Try.rowLaw Try.underlying118 (kv_keysOk h.ok) hkl hno (Try.zeroInts w) false, World.ownsRow_nil _ _ _ _⟩

/-- What a call of a book leaves: a book that differs by what it was asked. -/
structure TurnAt (w w' : World) (B : BkD) (R : RelD) (m : Nat) (B' : BkD) : Prop where
  bk : BkAt w' B' R
  rl : RelAt w' R
  eb : B'.b = B.b
  foot : ∀ c ∈ B'.foot, c ∈ B.foot ∨ w.heap.size ≤ c
  fr : Fr B.foot w w'
  masks : B'.tab.map (·.1) = askMasks (B.tab.map (·.1)) m
  seen : ∃ x, (m, x) ∈ B'.tab ∧ x.seen = R.rows.length
  rest : ∀ p ∈ B.tab, p.1 ≠ m → p ∈ B'.tab

theorem AskedAt.turn {w w' w2 : World} {B B' : BkD} {R : RelD} {m j : Nat} {x : Ixr} (h : AskedAt w w' B R m B' j x) (hf : Fr [] w' w2) : TurnAt w w2 B R m B' :=
  ⟨h.bk.fr hf (fun _ _ => List.not_mem_nil), h.rl.fr hf (fun _ _ => List.not_mem_nil), h.eb, h.foot, h.fr.trans hf (fun _ h => by cases h), h.masks, ⟨x, List.mem_of_getElem? h.at_, h.seen⟩, h.rest⟩

theorem TurnAt.fr0 {w0 w w' : World} {B B' : BkD} {R : RelD} {m : Nat} (h : TurnAt w w' B R m B') (hf : Fr [] w0 w) : TurnAt w0 w' B R m B' :=
  ⟨h.bk, h.rl, h.eb, fun c hc => (h.foot c hc).imp id fun h => Nat.le_trans hf.size h, (hf.mono (fun _ h => by cases h)).trans' h.fr, h.masks, h.seen, h.rest⟩

theorem AskedAt.ix {w w' : World} {B B' : BkD} {R : RelD} {m j : Nat} {x : Ixr} (h : AskedAt w w' B R m B' j x) : IxAt w' x := h.bk.ix _ (List.mem_of_getElem? h.at_)

theorem groups_look_all {w : World} {x : Ixr} (h : GsAt w x) {k : Row} (hk : IsRow k) :
    ∃ v, ∀ W', Fr [] w W' → (Instr.lookup 118 (.map (some x.km)) (rowV k) false).run Try.prog W' = .ok v W' ∧ W'.ownsRow 0 3 1 v (look k x.cont).length (ints (look k x.cont)) := by
  obtain ⟨kl, hkl⟩ := row_keyOf hk
  by_cases hm : ∃ g ∈ x.gs, g.key = k
  · obtain ⟨g, hg, rfl⟩ := hm
    obtain ⟨j, hj⟩ := List.getElem?_of_mem hg
    have hkj : x.kv[j]? = some (rowV g.key, g.v) := by simp [Ixr.kv, hj]
    have hcj : x.cont[j]? = some (g.key, g.idx) := by simp [Ixr.cont, hj]
    rw [look_at (cont_nodup h.nd) hcj]
    exact ⟨g.v, fun W' hf => ⟨(h.fr hf (by simp)).hm.is.look_some Try.rowLaw Try.underlying118 (kv_keysOk h.ok) hkl (kv_keys_nodup h.nd) hkj false, (h.fr hf (by simp)).own g hg⟩⟩
  · have hno : ∀ p ∈ x.kv, p.1 ≠ rowV k := fun p hp e => by
      obtain ⟨g, hg, rfl⟩ := List.mem_map.1 hp
      exact hm ⟨g, hg, rowV_inj e⟩
    have hnoc : ∀ p ∈ x.cont, p.1 ≠ k := fun p hp e => by
      obtain ⟨g, hg, rfl⟩ := List.mem_map.1 hp
      exact hm ⟨g, hg, e⟩
    rw [look_none hnoc]
    exact ⟨_, fun W' hf => ⟨(h.fr hf (by simp)).hm.is.look_none Try.rowLaw Try.underlying118 (kv_keysOk h.ok) hkl hno (Try.zeroInts W') false, World.ownsRow_nil _ _ _ _⟩⟩

theorem ints_cells {l : List Nat} : ∀ u ∈ ints l, u.oneCell' = true := fun u hu => by
  obtain ⟨i, _, rfl⟩ := List.mem_map.1 hu
  rfl

theorem idxs_le (m : Nat) (rows : List Row) (k : Row) : (idxs m rows k).length ≤ rows.length := by
  unfold idxs
  exact Nat.le_trans (List.length_filter_le _ _) (by simp)

theorem owns_slice {w : World} {b : Nat} {e : TypeId} {s : Nat} {v : Value} {n : Nat} {xs : List Value} (h : w.ownsRow b e s v n xs) : ∃ a c, v = .slice a n c := by
  rcases h.2 with ⟨h1, h2⟩ | ⟨g, cap, cur, h1, _⟩
  · exact ⟨none, 0, by rw [h1, h2]⟩
  · exact ⟨_, _, h1⟩

section
variable {ops : Array Oper} {rest : List Oper} {o : Oper} {a : Act} {w : World} {Q : Exit → Act → World → Prop}
theorem list_maplen (hgd : o.guard = none) (x : Operand) (ho : o.op = .call { callee := .builtin .len, args := #[x], argTypes := #[118] }) (b : Nat) (hx : a.eval x = .map (some b)) (v : Value)
    (hrun : (Builtin.len_ #[118] o.type #[.map (some b)]).run Try.prog w = .ok v w) (h : wpList Try.prog ops Q rest (a.put o.dst v) w) : wpList Try.prog ops Q (o :: rest) a w := by
  refine wpList_plain hgd fun K hK => ?_
  unfold Oper.wp execOp
  simp only [ho, resolve, invoke, builtin, Sem.run_bind, Sem.run_pure, Result.andThen_ok, List.map_toArray, List.map_cons, List.map_nil, hx, hrun]
  exact hK _ _ h
end

set_option maxRecDepth 100000 in
set_option maxHeartbeats 400000 in
theorem book_Distinct {w : World} {B : BkD} {R : RelD} {m : Nat} (hB : BkAt w B R) (hR : RelAt w R) (hm : m < 2 ^ R.arity) (h47 : R.rows.length * 96 ≤ 140737488355328) :
    Calls Try.prog 14 #[.pointer (some ⟨B.b, 0, none⟩), .int .u32 m] w fun e w' => ∃ B' : BkD, e = .returned (.tuple #[.int .i64 (grp m R.rows).length, .int .i64 0]) ∧ TurnAt w w' B R m B' := by
  have hA := ask_ok hB hR hm h47
  clear h47 hm hB hR
  go_enter Try.func14, Try.ntmps14
  go_wp2_with (first | (go_at_call 27; refine hA.mono ?_; rintro e w' ⟨B', j, x, rfl, hAt⟩; have x0 := hAt.ix.c0; have hl := fun ty => hAt.ix.gs.hm.is.len (P := Try.prog) (ty := ty) Try.underlying118; have hcont := Lib.hid hAt.cont) | (refine list_maplen rfl _ rfl x.km rfl _ (hl _) ?_))
  go_ret2
  refine ⟨B', ?_, hAt.turn (Fr.refl _ _)⟩
  rw [← hcont.out]
  simp [Ixr.cont, Ixr.kv]

set_option maxRecDepth 100000 in
set_option maxHeartbeats 400000 in
theorem book_Look {w : World} {B : BkD} {R : RelD} {m : Nat} {r : Row} (hr : IsRow r) (hB : BkAt w B R) (hR : RelAt w R) (hm : m < 2 ^ R.arity) (h47 : R.rows.length * 96 ≤ 140737488355328) :
    Calls Try.prog 11 #[.pointer (some ⟨B.b, 0, none⟩), .int .u32 m, rowV r] w fun e w' => ∃ (B' : BkD) (v : Value), e = .returned (.tuple #[v, .int .i64 0]) ∧ TurnAt w w' B R m B' ∧ w'.ownsRow w.heap.size 3 1 v (idxs m R.rows (keyR m r)).length (ints (idxs m R.rows (keyR m r))) ∧ (∀ k, v.ownBlock = some k → k ∉ B'.foot) := by
  have hBx : Fr [] w (w.alloc (.cells (rowCells r).toArray 34)) := (Fr.refl _ _).alloc _
  have hA := ask_ok (hB.fr hBx (by simp)) (hR.fr hBx (by simp)) hm h47
  have hm32 := Lib.hid (show m < 4294967296 from Nat.lt_of_lt_of_le hm (Nat.le_trans (Nat.pow_le_pow_right (by omega) hR.ar) (by decide)))
  have hra := rangeAt_new w 34 (rowCells r)
  have hBl := hB.flt
  have h47' := Lib.hid h47
  clear h47 hm hR
  go_enter Try.func11, Try.ntmps11
  go_wp2_with (go_at_call 27; refine hA.mono ?_; rintro e w1 ⟨B', j, x, rfl, hAt⟩)
  have hIx := hAt.ix
  have x0 := hIx.c0
  have hra1 := range_fr hra hAt.fr (fun hc => by have := hBl _ hc; omega)
  refine region_lex [] [true, true, true, true, true, false, true, false, true, true] (by kernel_rfl) (by kernel_rfl) (by intro c a d v w h; cases d <;> exact h) ?_
  intro W1 hWh hF1
  have g0 : ∀ W', Fr [] W1 W' → W'.cell? ⟨x.rk, 0, none⟩ = some (.map (some x.km)) := fun W' h' => (hF1.trans' h').cell x0 (by simp)
  have hIx1 := hIx.fr hF1 (by simp)
  have key := key_any (m := m) hm32.out hr (range_fr hra1 hF1 (by simp))
  have hkr := keyR_is (m := m) hr
  have hat1 := hAt.turn hF1
  have hcont := hAt.cont
  clear hWh x0 hIx hra hra1 hA
  repeat (refine lex_quiet ?_ (fun W' hW' => ?_) ?_; rotate_left; (go_simp; first | done | rfl); (try simp only [Act.put, List.setIfInBounds_toArray, List.set_cons_succ, List.set_cons_zero]))
  refine lex_held (fun K9 hK9 => ?_)
  go_wp2_with (go_at_call 29; refine key.mono ?_; rintro e w2 ⟨rfl, hB2⟩)
  have hF2 : Fr [] W1 w2 := Below.fr hB2 []
  refine hK9 _ _ hF2 ?_
  try simp only [Act.put, List.setIfInBounds_toArray, List.set_cons_succ, List.set_cons_zero]
  clear hK9
  obtain ⟨v, hv⟩ : ∃ v, ∀ W', Fr [] W1 W' → (Instr.lookup 118 (.map (some x.km)) (rowV (keyR m r)) false).run Try.prog W' = .ok v W' ∧ W'.ownsRow 0 3 1 v (look (keyR m r) x.cont).length (ints (look (keyR m r) x.cont)) := groups_look_all hIx1.gs hkr
  have hl := fun W' h' => (hv W' h').1
  refine lex_lookup _ _ _ _ rfl _ _ _ rfl rfl hl ?_
  try simp only [Act.put, List.setIfInBounds_toArray, List.set_cons_succ, List.set_cons_zero]
  have hvo := (hv w2 hF2).2
  rw [hcont, look_grp] at hvo
  have hlen8 := Lib.hid (show (idxs m R.rows (keyR m r)).length * 8 ≤ 140737488355328 by have := idxs_le m R.rows (keyR m r); have := h47'.out; omega)
  refine lex_held (fun K9 hK9 => ?_)
  go_wp2_with (go_at_call 28; refine (clone_ints hvo hlen8.out ints_cells).mono ?_; rintro e w3 ⟨v', rfl, hv', hB3⟩)
  have hF3 : Fr [] w2 w3 := Below.fr hB3 []
  refine hK9 _ _ (hF2.trans' hF3) ?_
  try simp only [Act.put, List.setIfInBounds_toArray, List.set_cons_succ, List.set_cons_zero]
  clear hK9
  repeat (refine lex_quiet ?_ (fun W' hW' => ?_) ?_; rotate_left; (go_simp; first | done | rfl); (try simp only [Act.put, List.setIfInBounds_toArray, List.set_cons_succ, List.set_cons_zero]))
  refine lex_tail ?_
  go_wp2_with fail
  go_ret2
  have ho : w3.ownsRow w.heap.size 3 1 v' (idxs m R.rows (keyR m r)).length (ints (idxs m R.rows (keyR m r))) := ⟨hv'.1, hv'.2.imp id fun ⟨g, cap, cur, h1, h2, h3⟩ => ⟨g, cap, cur, h1, Nat.le_trans (Nat.le_trans hat1.fr.size (Nat.le_trans hF2.size (Nat.le_refl _))) h2 |> Nat.le_trans hBx.size, h3⟩⟩
  refine ⟨B', v', rfl, ⟨hat1.bk.fr (hF2.trans' hF3) (by simp), hat1.rl.fr (hF2.trans' hF3) (by simp), hat1.eb, fun c hc => (hat1.foot c hc).imp id fun h => Nat.le_trans hBx.size h, ((hBx.mono (fun _ h => by cases h)).trans' hat1.fr).trans (hF2.trans' hF3) (fun _ h => by cases h), hat1.masks, hat1.seen, hat1.rest⟩, ho, ?_⟩
  intro k hk hkB
  have hs := hv'.lt k hk
  rcases hat1.foot k hkB with h | h
  · have h1 := hat1.fr.size; have h2 := hF2.size; have h3 := hBl k h; have := hBx.size; omega
  · have := hat1.bk.flt k hkB; have h2 := hF2.size; omega


set_option maxRecDepth 100000 in
set_option maxHeartbeats 400000 in
theorem book_Count {w : World} {B : BkD} {R : RelD} {m : Nat} {r : Row} (hr : IsRow r) (hB : BkAt w B R) (hR : RelAt w R) (hm : m < 2 ^ R.arity) (h47 : R.rows.length * 96 ≤ 140737488355328) :
    Calls Try.prog 12 #[.pointer (some ⟨B.b, 0, none⟩), .int .u32 m, rowV r] w fun e w' => ∃ B' : BkD, e = .returned (.tuple #[.int .i64 (idxs m R.rows (keyR m r)).length, .int .i64 0]) ∧ TurnAt w w' B R m B' := by
  have hBx : Fr [] w (w.alloc (.cells (rowCells r).toArray 34)) := (Fr.refl _ _).alloc _
  have hA := ask_ok (hB.fr hBx (by simp)) (hR.fr hBx (by simp)) hm h47
  have hm32 := Lib.hid (show m < 4294967296 from Nat.lt_of_lt_of_le hm (Nat.le_trans (Nat.pow_le_pow_right (by omega) hR.ar) (by decide)))
  have hra := rangeAt_new w 34 (rowCells r)
  have hBl := hB.flt
  have h47' := Lib.hid h47
  clear h47 hm hR
  go_enter Try.func12, Try.ntmps12
  go_wp2_with (go_at_call 27; refine hA.mono ?_; rintro e w1 ⟨B', j, x, rfl, hAt⟩)
  have hIx := hAt.ix
  have x0 := hIx.c0
  have hra1 := range_fr hra hAt.fr (fun hc => by have := hBl _ hc; omega)
  refine region_lex [] [true, true, true, true, true, false, true, true, true, true] (by kernel_rfl) (by kernel_rfl) (by intro c a d v w h; cases d <;> exact h) ?_
  intro W1 hWh hF1
  have g0 : ∀ W', Fr [] W1 W' → W'.cell? ⟨x.rk, 0, none⟩ = some (.map (some x.km)) := fun W' h' => (hF1.trans' h').cell x0 (by simp)
  have hIx1 := hIx.fr hF1 (by simp)
  have key := key_any (m := m) hm32.out hr (range_fr hra1 hF1 (by simp))
  have hkr := keyR_is (m := m) hr
  have hat1 := hAt.turn hF1
  have hcont := hAt.cont
  clear hWh x0 hIx hra hra1 hA
  repeat (refine lex_quiet ?_ (fun W' hW' => ?_) ?_; rotate_left; (go_simp; first | done | rfl); (try simp only [Act.put, List.setIfInBounds_toArray, List.set_cons_succ, List.set_cons_zero]))
  refine lex_held (fun K9 hK9 => ?_)
  go_wp2_with (go_at_call 29; refine key.mono ?_; rintro e w2 ⟨rfl, hB2⟩)
  have hF2 : Fr [] W1 w2 := Below.fr hB2 []
  refine hK9 _ _ hF2 ?_
  try simp only [Act.put, List.setIfInBounds_toArray, List.set_cons_succ, List.set_cons_zero]
  clear hK9
  obtain ⟨v, hv⟩ : ∃ v, ∀ W', Fr [] W1 W' → (Instr.lookup 118 (.map (some x.km)) (rowV (keyR m r)) false).run Try.prog W' = .ok v W' ∧ W'.ownsRow 0 3 1 v (look (keyR m r) x.cont).length (ints (look (keyR m r) x.cont)) := groups_look_all hIx1.gs hkr
  have hl := fun W' h' => (hv W' h').1
  refine lex_lookup _ _ _ _ rfl _ _ _ rfl rfl hl ?_
  try simp only [Act.put, List.setIfInBounds_toArray, List.set_cons_succ, List.set_cons_zero]
  have hvo := (hv w2 hF2).2
  rw [hcont, look_grp] at hvo
  obtain ⟨va, vc, rfl⟩ := owns_slice hvo
  repeat (refine lex_quiet ?_ (fun W' hW' => ?_) ?_; rotate_left; (go_simp; first | done | rfl); (try simp only [Act.put, List.setIfInBounds_toArray, List.set_cons_succ, List.set_cons_zero]))
  refine lex_tail ?_
  go_wp2_with fail
  go_ret2
  exact ⟨B', rfl, ⟨hat1.bk.fr hF2 (by simp), hat1.rl.fr hF2 (by simp), hat1.eb, fun c hc => (hat1.foot c hc).imp id fun h => Nat.le_trans hBx.size h, ((hBx.mono (fun _ h => by cases h)).trans' hat1.fr).trans hF2 (fun _ h => by cases h), hat1.masks, hat1.seen, hat1.rest⟩⟩

end Go.Proofs.Ytepimaghpjkibaa

import Derived.Test.YtepimaghpjkibaaSmall
import Derived.Test.YtepimaghpjkibaaRange
import Derived.Test.YtepimaghpjkibaaOrder
import Derived.Test.YtepimaghpjkibaaLoop
import Derived.Deep.CutBlock
import Derived.Deep.DeepCutAuto
namespace Go.Proofs.Ytepimaghpjkibaa
open Go.RowKit Go.Shelf
attribute [local go_sem] Oper.semAt_some

theorem bkv_keysOk {B : BkD} (h : ∀ p ∈ B.tab, p.1 < 4294967296) : KeysOk Try.prog 24 B.kv := fun q hq => by
  obtain ⟨p, hp, rfl⟩ := List.mem_map.1 hq
  have h1 := h p hp
  exact ⟨_, Go.Maps.keyOf_int_mk Try.underlying24 (WalkArith.wf_u32 (by omega))⟩

theorem bkv_nodup {B : BkD} (h : (B.tab.map (·.1)).Nodup) : (B.kv.map (·.1)).Nodup := by
  have e : B.kv.map (·.1) = (B.tab.map (·.1)).map (fun (i : Nat) => Value.int .u32 (i : Int)) := by simp [BkD.kv, Function.comp_def]
  rw [e]
  exact List.pairwise_map.2 (List.Pairwise.imp (fun h e => h (by simp only [Value.int.injEq] at e; omega)) h)

theorem mask_look {W : World} {B : BkD} {j m : Nat} {x : Ixr} (hm : MapIs W B.m B.kv) (hlt : ∀ p ∈ B.tab, p.1 < 4294967296) (hnd : (B.tab.map (·.1)).Nodup) (hj : B.tab[j]? = some (m, x)) (c : Bool) :
    (Instr.lookup 94 (.map (some B.m)) (.int .u32 (m : Int)) c).run Try.prog W = .ok (if c then .tuple #[.pointer (some ⟨x.rk, 0, none⟩), .bool true] else .pointer (some ⟨x.rk, 0, none⟩)) W := by
  have hmlt := hlt _ (List.mem_of_getElem? hj)
  simp only at hmlt
  refine hm.look_some Try.maskLaw Try.underlying94 (bkv_keysOk hlt) (Go.Maps.keyOf_int_mk Try.underlying24 (WalkArith.wf_u32 (by omega))) (bkv_nodup hnd) (j := j) ?_ c
  simp [BkD.kv, hj]

theorem mask_none {W : World} {B : BkD} {m : Nat} (hm : MapIs W B.m B.kv) (hlt : ∀ p ∈ B.tab, p.1 < 4294967296) (hmlt : m < 4294967296) (hno : m ∉ B.tab.map (·.1)) (c : Bool) :
    (Instr.lookup 94 (.map (some B.m)) (.int .u32 (m : Int)) c).run Try.prog W = .ok (if c then .tuple #[.pointer none, .bool false] else .pointer none) W := by
  refine hm.look_none Try.maskLaw Try.underlying94 (bkv_keysOk hlt) (Go.Maps.keyOf_int_mk Try.underlying24 (WalkArith.wf_u32 (by omega))) ?_ (Try.zeroRows W) c
  intro q hq e
  obtain ⟨p, hp, rfl⟩ := List.mem_map.1 hq
  simp only [Value.int.injEq] at e
  exact hno (List.mem_map.2 ⟨p, hp, by omega⟩)

theorem bkv_none {B : BkD} {m : Nat} (hno : m ∉ B.tab.map (·.1)) : ∀ p ∈ B.kv, p.1 ≠ Value.int .u32 (m : Int) := fun q hq e => by
  obtain ⟨p, hp, rfl⟩ := List.mem_map.1 hq
  simp only [Value.int.injEq] at e
  exact hno (List.mem_map.2 ⟨p, hp, by omega⟩)

/-- No panic comes. -/
def noPanic (Q : Exit → Act → World → Prop) : Exit → Act → World → Prop
  | .panic _, _, _ => False
  | e, a, w => Q e a w

theorem noPanic_le {Q : Exit → Act → World → Prop} {e : Exit} {a : Act} {w : World} (h : noPanic Q e a w) : Q e a w := by
  cases e <;> first | exact h | exact h.elim

theorem range_fr {S : List Nat} {w w' : World} {g off : Nat} {cs : List Value} (h : w.rangeAt g off cs) (hf : Fr S w w') (hg : g ∉ S) : w'.rangeAt g off cs := fun j v hv => hf.cell (h j v hv) hg

theorem rk_inner {w : World} {x : Ixr} (h : IxAt w x) : x.rk ∉ x.inner := fun hc => by
  rcases inner_cells h.gs _ hc with e | ⟨arr, e⟩
  · obtain ⟨es, ck, h1, _⟩ := h.gs.hm
    rw [← e, h.hk] at h1
    cases h1
  · rw [h.hk] at e
    cases e

theorem ix_ne {w : World} {x : Ixr} (h : IxAt w x) : x.rk ≠ x.km := fun e => by
  obtain ⟨es, ck, h1, _⟩ := h.gs.hm
  rw [← e, h.hk] at h1
  cases h1

theorem three_cells (W : World) (a b c : Value) (ta tb tc : TypeId) : let W' := ((W.alloc (.cells #[a] ta)).alloc (.cells #[b] tb)).alloc (.cells #[c] tc)
    W'.cell? ⟨W.heap.size, 0, none⟩ = some a ∧ W'.cell? ⟨W.heap.size + 1, 0, none⟩ = some b ∧ W'.cell? ⟨W.heap.size + 2, 0, none⟩ = some c := by
  intro W'
  have h1 : W'.heap[W.heap.size]? = some (.cells #[a] ta (0, 0)) := by simp only [W', heap_at, World.size_alloc]; rw [if_neg (by omega), if_neg (by omega)]; simp
  have h2 : W'.heap[W.heap.size + 1]? = some (.cells #[b] tb (0, 0)) := by simp only [W', heap_at, World.size_alloc]; rw [if_neg (by omega)]; simp
  have h3 : W'.heap[W.heap.size + 2]? = some (.cells #[c] tc (0, 0)) := by simp only [W', heap_at, World.size_alloc]; simp
  exact ⟨by rw [cell_of_row _ _ _ _ _ _ h1]; rfl, by rw [cell_of_row _ _ _ _ _ _ h2]; rfl, by rw [cell_of_row _ _ _ _ _ _ h3]; rfl⟩

section
variable {ops : Array Oper} {rest : List Oper} {o : Oper} {a : Act} {w : World} {Q : Exit → Act → World → Prop}
theorem list_clear (hgd : o.guard = none) (hd : o.dst = none) (x : Operand) (ho : o.op = .call { callee := .builtin .clear, args := #[x], argTypes := #[118] }) (b : Nat) (hx : a.eval x = .map (some b)) (w' : World)
    (hrun : (Builtin.clear_ #[118] o.type #[.map (some b)]).run Try.prog w = .ok (.tuple #[]) w') (h : wpList Try.prog ops Q rest a w') : wpList Try.prog ops Q (o :: rest) a w := by
  refine wpList_plain hgd fun K hK => ?_
  unfold Oper.wp execOp
  simp only [ho, resolve, invoke, builtin, Sem.run_bind, Sem.run_pure, Result.andThen_ok, List.map_toArray, List.map_cons, List.map_nil, hx, hrun]
  refine hK _ _ ?_
  rw [hd]
  exact h
end

set_option maxRecDepth 100000 in
set_option maxHeartbeats 400000 in
theorem ask_ok {w : World} {B : BkD} {R : RelD} {m : Nat} (hB : BkAt w B R) (hR : RelAt w R) (hm : m < 2 ^ R.arity) (h47 : R.rows.length * 96 ≤ 140737488355328) :
    Calls Try.prog 27 #[.pointer (some ⟨B.b, 0, none⟩), .int .u32 m] w fun e w' => ∃ (B' : BkD) (j : Nat) (x : Ixr), e = .returned (.tuple #[.pointer (some ⟨x.rk, 0, none⟩), .int .i64 0]) ∧ AskedAt w w' B R m B' j x := by
  have hmd : decide (m < 2 ^ R.arity) = true := decide_eq_true hm
  have hm32 := Lib.hid (show m < 4294967296 from Nat.lt_of_lt_of_le hm (Nat.le_trans (Nat.pow_le_pow_right (by omega) hR.ar) (by decide)))
  have h47' := Lib.hid h47
  have hm' := Lib.hid hm
  clear h47 hm
  have c0 := hB.c0
  have hBl := hB.flt B.b (mem_bfoot.2 (Or.inl rfl))
  refine (callsIn_wide (n := 3)).1 ?_
  refine callsIn_of_wp_marks Try.func27 rfl trivial ?_ rfl
  simp only [Try.ntmps27, List.size_toArray, List.length_cons, List.length_nil, Nat.reduceAdd, Nat.reduceSub, Array.replicate_succ, Array.replicate_zero, List.push_toArray, List.append_toArray, List.nil_append, List.cons_append]
  refine wpIn_wide.2 (wp_mono (Q := noPanic _) ?_ (fun e a w h => noPanic_le h))
  go_wp2_with (go_at_call 42; refine under_there.mono ?_; rintro e w1 ⟨rfl, hB1⟩)
  have hA1 : Below w.heap.size w w1 := ((Below.refl w.heap.size w).alloc (Nat.le_refl _) (.cells #[.int .u32 m] 24)).trans (hB1.mono (by simp))
  have hM1 : w1.heap[w.heap.size]? = some (.cells #[.int .u32 m] 24 (0, 0)) := (hB1.block _ (by simp)).trans (heap_alloc_new w _)
  have c3 : w1.cell? ⟨w.heap.size, 0, none⟩ = some (.int .u32 m) := by rw [cell_of_row _ _ _ _ _ _ hM1]; rfl
  have c0' := (hA1.cell (p := ⟨B.b, 0, none⟩) hBl).trans c0
  clear c0
  refine region_lex [] [true, true, true, true, true, false, true] (by kernel_rfl) (by kernel_rfl) (by intro c a d v w h; cases d <;> exact h) ?_
  intro W1 hWh hF1
  have f0 : ∀ W', Fr [] W1 W' → W'.cell? ⟨B.b, 0, none⟩ = some (.pointer (some ⟨R.p, 0, none⟩)) := fun W' h' => (hF1.trans' h').cell c0' (by simp)
  have f3 : ∀ W', Fr [] W1 W' → W'.cell? ⟨w.heap.size, 0, none⟩ = some (.int .u32 m) := fun W' h' => (hF1.trans' h').cell c3 (by simp)
  have hFA : Fr [] w W1 := (Below.fr hA1 []).trans' hF1
  have hM2 := hF1.heap hM1 (by simp)
  have hRW := hR.fr hFA (by simp)
  have hH := under_holds hRW m
  rw [hmd] at hH
  clear hWh c0' c3 hA1 hF1 hM1
  repeat (refine lex_quiet ?_ (fun W' hW' => ?_) ?_; rotate_left; (go_simp; first | done | rfl); (try simp only [Act.put, List.setIfInBounds_toArray, List.set_cons_succ, List.set_cons_zero]))
  refine lex_held (fun K hK => ?_)
  go_wp2_with (go_at_call 43; refine hH.mono ?_; rintro e w2 ⟨rfl, hB2⟩)
  refine hK _ _ (Below.fr hB2 []) ?_
  try simp only [Act.put, List.setIfInBounds_toArray, List.set_cons_succ, List.set_cons_zero]
  have hFB : Fr [] w w2 := hFA.trans' (Below.fr hB2 [])
  have hM3 := (Below.fr hB2 []).heap hM2 (by simp)
  repeat (refine lex_quiet ?_ (fun W' hW' => ?_) ?_; rotate_left; (go_simp; first | done | rfl); (try simp only [Act.put, List.setIfInBounds_toArray, List.set_cons_succ, List.set_cons_zero]))
  refine lex_tail ?_
  have hBW := hB.fr hFB (by simp)
  have hRW2 := hR.fr hFB (by simp)
  clear f0 f3 hFA hM2 hRW hH hB2 hB1
  go_upto_region 5 with (fail)
  go_cut [6, 7] from 11 (fun r ok wc => ∃ (N : Nat) (b : Bool), r = .pointer (some ⟨N, 0, none⟩) ∧ ok = .bool b ∧ w.heap.size ≤ N ∧ Fr [] w2 wc ∧ w2.heap.size ≤ N ∧
    ((b = true ∧ ∃ (j : Nat) (x : Ixr), B.tab[j]? = some (m, x) ∧ wc.heap[N]? = some (.cells #[.pointer (some ⟨x.rk, 0, none⟩)] 114 (0, 0))) ∨ (b = false ∧ m ∉ B.tab.map (·.1) ∧ wc.heap[N]? = some (.cells #[.pointer none] 114 (0, 0)))))
  case first =>
    have b0 := hBW.c0
    have b1 := hBW.c1
    have b3 : w2.cell? ⟨w.heap.size, 0, none⟩ = some (.int .u32 m) := by rw [cell_of_row _ _ _ _ _ _ hM3]; rfl
    have hz2 := hFB.size
    by_cases hfd : m ∈ B.tab.map (·.1)
    · obtain ⟨⟨m0, x⟩, hmx, hme⟩ := List.mem_map.1 hfd
      obtain rfl : m0 = m := hme
      obtain ⟨j, hj⟩ := List.getElem?_of_mem hmx
      refine region_lex [] [true, true, true, true, true, true, true, true, true, false, false, true] (by kernel_rfl) (by kernel_rfl) (by intro c a d v w h; cases d <;> exact h) ?_
      intro W5 hWh5 hF5
      have g0 : ∀ W', Fr [] W5 W' → W'.cell? ⟨B.b, 0, none⟩ = some (.pointer (some ⟨R.p, 0, none⟩)) := fun W' h' => (hF5.trans' h').cell b0 (by simp)
      have g1 : ∀ W', Fr [] W5 W' → W'.cell? ⟨B.b, 1, none⟩ = some (.map (some B.m)) := fun W' h' => (hF5.trans' h').cell b1 (by simp)
      have g3 : ∀ W', Fr [] W5 W' → W'.cell? ⟨w.heap.size, 0, none⟩ = some (.int .u32 m0) := fun W' h' => (hF5.trans' h').cell b3 (by simp)
      have hl : ∀ W', Fr [] W5 W' → _ := fun W' h' => mask_look (hBW.hm.fr (hF5.trans' h') (by simp)) hBW.lt hBW.nd hj true
      clear b0 b1 b3 hWh5
      repeat (first | (refine lex_lookup _ _ _ _ rfl _ _ _ rfl rfl hl ?_; (try simp only [Act.put, List.setIfInBounds_toArray, List.set_cons_succ, List.set_cons_zero])) | (refine lex_quiet ?_ (fun W' hW' => ?_) ?_; rotate_left; (go_simp; first | done | rfl); (try simp only [Act.put, List.setIfInBounds_toArray, List.set_cons_succ, List.set_cons_zero])))
      refine lex_held (fun K5 hK5 => ?_)
      go_wp2_with fail
      refine hK5 _ _ ((Fr.refl _ _).alloc _) ?_
      try simp only [Act.put, List.setIfInBounds_toArray, List.set_cons_succ, List.set_cons_zero]
      refine lex_held (fun K6 hK6 => ?_)
      clear hK5
      go_wp2_with fail
      refine hK6 _ _ ((Fr.refl _ _).alloc _) ?_
      try simp only [Act.put, List.setIfInBounds_toArray, List.set_cons_succ, List.set_cons_zero]
      repeat (refine lex_quiet ?_ (fun W' hW' => ?_) ?_; rotate_left; (go_simp; first | done | rfl); (try simp only [Act.put, List.setIfInBounds_toArray, List.set_cons_succ, List.set_cons_zero]))
      refine lex_tail ?_
      clear hK6 hK hl g0 g1 g3
      go_wp2_with fail
      go_meet
      case rel => exact ⟨W5.heap.size, true, rfl, rfl, Nat.le_trans hz2 hF5.size, hF5.alloc _, hF5.size, Or.inl ⟨rfl, j, x, hj, heap_alloc_new _ _⟩⟩
    · refine region_lex [] [true, true, true, true, true, true, true, true, true, false, false, true] (by kernel_rfl) (by kernel_rfl) (by intro c a d v w h; cases d <;> exact h) ?_
      intro W5 hWh5 hF5
      have g0 : ∀ W', Fr [] W5 W' → W'.cell? ⟨B.b, 0, none⟩ = some (.pointer (some ⟨R.p, 0, none⟩)) := fun W' h' => (hF5.trans' h').cell b0 (by simp)
      have g1 : ∀ W', Fr [] W5 W' → W'.cell? ⟨B.b, 1, none⟩ = some (.map (some B.m)) := fun W' h' => (hF5.trans' h').cell b1 (by simp)
      have g3 : ∀ W', Fr [] W5 W' → W'.cell? ⟨w.heap.size, 0, none⟩ = some (.int .u32 m) := fun W' h' => (hF5.trans' h').cell b3 (by simp)
      have hl : ∀ W', Fr [] W5 W' → _ := fun W' h' => mask_none (hBW.hm.fr (hF5.trans' h') (by simp)) hBW.lt hm32.out hfd true
      clear b0 b1 b3 hWh5
      repeat (first | (refine lex_lookup _ _ _ _ rfl _ _ _ rfl rfl hl ?_; (try simp only [Act.put, List.setIfInBounds_toArray, List.set_cons_succ, List.set_cons_zero])) | (refine lex_quiet ?_ (fun W' hW' => ?_) ?_; rotate_left; (go_simp; first | done | rfl); (try simp only [Act.put, List.setIfInBounds_toArray, List.set_cons_succ, List.set_cons_zero])))
      refine lex_held (fun K5 hK5 => ?_)
      go_wp2_with fail
      refine hK5 _ _ ((Fr.refl _ _).alloc _) ?_
      try simp only [Act.put, List.setIfInBounds_toArray, List.set_cons_succ, List.set_cons_zero]
      refine lex_held (fun K6 hK6 => ?_)
      clear hK5
      go_wp2_with fail
      refine hK6 _ _ ((Fr.refl _ _).alloc _) ?_
      try simp only [Act.put, List.setIfInBounds_toArray, List.set_cons_succ, List.set_cons_zero]
      repeat (refine lex_quiet ?_ (fun W' hW' => ?_) ?_; rotate_left; (go_simp; first | done | rfl); (try simp only [Act.put, List.setIfInBounds_toArray, List.set_cons_succ, List.set_cons_zero]))
      refine lex_tail ?_
      clear hK6 hK hl g0 g1 g3
      go_wp2_with fail
      go_meet
      case rel => exact ⟨W5.heap.size, false, rfl, rfl, Nat.le_trans hz2 hF5.size, hF5.alloc _, hF5.size, Or.inr ⟨rfl, hfd, heap_alloc_new _ _⟩⟩
  case rest =>
    obtain ⟨N, b, rfl, rfl, hwN, hFc, hN2, hcase⟩ := hcut
    go_upto_if 38 with (fail)
    go_cut [] from 11 (fun wd => ∃ (B1 : BkD) (j : Nat) (x : Ixr), Mid w wd B R m w.heap.size N B1 j x)
    case first =>
      have hBc := hBW.fr hFc (by simp)
      have hRc := hRW2.fr hFc (by simp)
      have hMc := hFc.heap hM3 (by simp)
      have hFwc : Fr [] w wc := hFB.trans' hFc
      have hfl := hB.flt
      rcases hcase with ⟨rfl, j, x, hj, hbx⟩ | ⟨rfl, hno, hbx⟩
      · go_wp2_with fail
        go_meet
        case rel =>
          refine ⟨B, j, x, ⟨hBc, hRc, rfl, rfl, hj, hbx, hMc, fun c hc => Or.inl hc, hFwc.mono (fun _ h => by cases h), fun hc => ?_, fun hc => ?_, hwN, ?_, fun p hp _ => hp⟩⟩
          · have := hfl _ hc; omega
          · have := hfl _ hc; omega
          · unfold askMasks; rw [if_pos (List.mem_map.2 ⟨_, List.mem_of_getElem? hj, rfl⟩)]
      · have hmm := @run_makeMap Try.prog
        have b0 := hBc.c0
        have hlb := hBc.flt B.b (mem_bfoot.2 (Or.inl rfl))
        have hlN := (Array.getElem?_eq_some_iff.1 hbx).1
        have hbN : wc.cell? ⟨N, 0, none⟩ = some (.pointer none) := by rw [cell_of_row _ _ _ _ _ _ hbx]; rfl
        have hfN : wc.frozen? ⟨N, 0, none⟩ = false := frozen_of_row wc _ _ _ _ hbx
        have hGn := rel_Gone (hRc.below ((Below.refl _ wc).alloc (Nat.le_refl _) (.map #[] 0)))
        have hRc' := Lib.hid hRc
        obtain ⟨hFA, hA1, hA2, hA3⟩ := new_world hbx (.int .i64 R.gone)
        go_wp2_with (go_at_call 44; refine hGn.mono ?_; rintro e w4 ⟨rfl, rfl⟩)
        generalize ((wc.setCell _ _).alloc _).alloc _ = WA at hFA hA1 hA2 hA3 ⊢
        have hwlt := (Array.getElem?_eq_some_iff.1 hM3).1
        have b1 := hFA.cell hBc.c1 (by simp; omega)
        have b3 : WA.cell? ⟨w.heap.size, 0, none⟩ = some (.int .u32 m) := by rw [cell_of_row _ _ _ _ _ _ (hFA.heap hMc (by simp; omega))]; rfl
        have b6 : WA.cell? ⟨N, 0, none⟩ = some (.pointer (some ⟨wc.heap.size + 1, 0, none⟩)) := by rw [cell_of_row _ _ _ _ _ _ hA1]; rfl
        refine region_lex [] [true, true, true, true, true, true] (by kernel_rfl) (by kernel_rfl) (by intro c a d v w h; cases d <;> exact h) ?_
        intro W8 hWh8 hF8
        have g1 : ∀ W', Fr [] W8 W' → W'.cell? ⟨B.b, 1, none⟩ = some (.map (some B.m)) := fun W' h' => (hF8.trans' h').cell b1 (by simp)
        have g3 : ∀ W', Fr [] W8 W' → W'.cell? ⟨w.heap.size, 0, none⟩ = some (.int .u32 m) := fun W' h' => (hF8.trans' h').cell b3 (by simp)
        have g6 : ∀ W', Fr [] W8 W' → W'.cell? ⟨N, 0, none⟩ = some (.pointer (some ⟨wc.heap.size + 1, 0, none⟩)) := fun W' h' => (hF8.trans' h').cell b6 (by simp)
        clear hWh8 b0 b1 b3 b6 hmm hGn hbN hfN
        repeat (refine lex_quiet ?_ (fun W' hW' => ?_) ?_; rotate_left; (go_simp; first | done | rfl); (try simp only [Act.put, List.setIfInBounds_toArray, List.set_cons_succ, List.set_cons_zero]))
        clear g1 g3 g6
        obtain ⟨W9, hrun9, hm9, hgr9⟩ := (hBc.hm.fr (hFA.trans hF8 (fun _ h => by cases h)) (by simp; have := hfl B.m (mem_bfoot.2 (Or.inr (Or.inl rfl))); omega)).store_none Try.maskLaw Try.underlying94 (bkv_keysOk hBW.lt) (Go.Maps.keyOf_int_mk Try.underlying24 (WalkArith.wf_u32 (by have := hm32.out; omega))) (bkv_none hno) (.pointer (some ⟨wc.heap.size + 1, 0, none⟩))
        have hF9 := Fr.of_grown hgr9
        refine lex_tail ?_
        refine list_mapUpdate rfl rfl _ _ _ _ rfl _ _ _ rfl rfl rfl W9 hrun9 ?_
        have hBml := hfl B.m (mem_bfoot.2 (Or.inr (Or.inl rfl)))
        have hF29 : Fr [B.m] WA W9 := (hF8.mono (fun _ h => by cases h)).trans hF9 (fun c hc => Or.inl (by simpa using hc))
        have hFall : Fr [B.m, N] wc W9 := (hFA.mono (fun c hc => by simp at hc; simp [hc])).trans hF29 (fun c hc => Or.inl (by simp at hc; simp [hc]))
        clear hrun9 hgr9
        go_wp2_with fail
        go_meet
        case rel =>
          exact ⟨_, _, _, new_mid hB hBc hRc'.out hFwc hwN hno hm32.out hMc (by omega) hlN (fun c hc e => by have := hR.lt c hc; omega) hFall
            (hF29.heap hA1 (by simp; omega)) (hF29.heap hA2 (by simp; omega)) (hF29.heap hA3 (by simp; omega)) hm9⟩
    case rest =>
      clear hcase hFc hN2 hBW hRW2 hM3 hFB hK
      obtain ⟨B1, j, x, hMid⟩ := hcut
      have hIx := hMid.ix
      have b0 := hMid.bk.c0
      rw [hMid.eb] at b0
      have b6 : wc.cell? ⟨N, 0, none⟩ = some (.pointer (some ⟨x.rk, 0, none⟩)) := by rw [cell_of_row _ _ _ _ _ _ hMid.box]; rfl
      have x2 := hIx.c2
      go_upto_region 9 with (fail)
      refine region_lex [] [true, true, true, true, true, true, true, true, true, false, true] (by kernel_rfl) (by kernel_rfl) (by intro c a d v w h; cases d <;> exact h) ?_
      intro W9 hWh9 hF9
      have g0 : ∀ W', Fr [] W9 W' → W'.cell? ⟨B.b, 0, none⟩ = some (.pointer (some ⟨R.p, 0, none⟩)) := fun W' h' => (hF9.trans' h').cell b0 (by simp)
      have g6 : ∀ W', Fr [] W9 W' → W'.cell? ⟨N, 0, none⟩ = some (.pointer (some ⟨x.rk, 0, none⟩)) := fun W' h' => (hF9.trans' h').cell b6 (by simp)
      have g2 : ∀ W', Fr [] W9 W' → W'.cell? ⟨x.rk, 2, none⟩ = some (.int .i64 x.gone) := fun W' h' => (hF9.trans' h').cell x2 (by simp)
      clear hWh9
      repeat (refine lex_quiet ?_ (fun W' hW' => ?_) ?_; rotate_left; (go_simp; first | done | rfl); (try simp only [Act.put, List.setIfInBounds_toArray, List.set_cons_succ, List.set_cons_zero]))
      refine lex_held (fun K9 hK9 => ?_)
      have hMid9 := hMid.below hF9
      go_wp2_with (go_at_call 44; refine (rel_Gone hMid9.rl).mono ?_; rintro e w9 ⟨rfl, rfl⟩)
      refine hK9 _ _ (Fr.refl _ _) ?_
      try simp only [Act.put, List.setIfInBounds_toArray, List.set_cons_succ, List.set_cons_zero]
      repeat (refine lex_quiet ?_ (fun W' hW' => ?_) ?_; rotate_left; (go_simp; first | done | rfl); (try simp only [Act.put, List.setIfInBounds_toArray, List.set_cons_succ, List.set_cons_zero]))
      refine lex_tail ?_
      clear hK9 g0 g6 g2 hMid hIx b0 b6 x2 hF9
      go_upto_if 64 with (fail)
      go_cut [] from 11 (fun we => ∃ (B2 : BkD) (x2 : Ixr), Mid w we B R m w.heap.size N B2 j x2 ∧ x2.gone = R.gone)
      case first =>
        by_cases hg : x.gone = R.gone
        · rw [hg]
          go_wp2_with fail
          go_meet
          case rel => exact ⟨B1, x, hMid9, hg⟩
        · have hgI : (x.gone : Int) ≠ R.gone := by omega
          have hIx := hMid9.ix
          have b0 := hMid9.bk.c0
          rw [hMid9.eb] at b0
          have b6 : W9.cell? ⟨N, 0, none⟩ = some (.pointer (some ⟨x.rk, 0, none⟩)) := by rw [cell_of_row _ _ _ _ _ _ hMid9.box]; rfl
          have x0 := hIx.c0
          obtain ⟨Wc, hrun, hmc, hgr⟩ := hIx.gs.hm.clear (ty := 0) (P := Try.prog) Try.underlying118
          have hFc := Fr.of_grown hgr
          have hkr : x.rk ≠ x.km := ix_ne hIx
          have hkN : N ≠ x.km := fun e => hMid9.nN (hMid9.inB _ (mem_foot.2 (Or.inr (mem_inner.2 (Or.inl e)))))
          have hkb : B.b ≠ x.km := fun e => (hMid9.bk.apB _ hMid9.memb x.km (mem_foot.2 (Or.inr (mem_inner.2 (Or.inl rfl))))).1 (by rw [hMid9.eb, e])
          have hNr : N ≠ x.rk := fun e => hMid9.nN (hMid9.inB _ (mem_foot.2 (Or.inl e)))
          have hbr : B.b ≠ x.rk := fun e => (hMid9.bk.apB _ hMid9.memb x.rk (mem_foot.2 (Or.inl rfl))).1 (by rw [hMid9.eb, e])
          go_wp2_with (refine list_clear rfl rfl _ rfl x.km rfl Wc hrun ?_)
          have b0c := hFc.cell b0 (by simpa using hkb)
          have b6c := hFc.cell b6 (by simpa using hkN)
          have hkc := hFc.heap hIx.hk (by simpa using hkr)
          have hRc := hMid9.rl.fr hFc (fun c hc hc' => hMid9.bk.apR x.km (mem_bfoot.2 (Or.inr (Or.inr ⟨_, hMid9.memb, mem_foot.2 (Or.inr (mem_inner.2 (Or.inl rfl)))⟩))) (by simp at hc'; rw [← hc']; exact hc))
          refine region_lex [x.rk] [true, true, true, true, true, true, true, false, true, true, false, true, true, false] (by kernel_rfl) (by kernel_rfl) (by intro c a d v w h; cases d <;> exact h) ?_
          intro W11 hWh11 hF11
          have g0 : ∀ W', Fr [x.rk] W11 W' → W'.cell? ⟨B.b, 0, none⟩ = some (.pointer (some ⟨R.p, 0, none⟩)) := fun W' h' => h'.cell (hF11.cell b0c (by simp)) (by simpa using hbr)
          have g6 : ∀ W', Fr [x.rk] W11 W' → W'.cell? ⟨N, 0, none⟩ = some (.pointer (some ⟨x.rk, 0, none⟩)) := fun W' h' => h'.cell (hF11.cell b6c (by simp)) (by simpa using hNr)
          have hkd := hF11.heap hkc (by simp)
          have hmd11 := hmc.fr hF11 (by simp)
          have hRd := hRc.fr hF11 (by simp)
          have r1 : W11.cell? ⟨x.rk, 1, none⟩ = some (.int .i64 x.seen) := by rw [cell_of_row _ _ _ _ _ _ hkd]; rfl
          have z1 : W11.frozen? ⟨x.rk, 1, none⟩ = false := frozen_of_row _ _ _ _ _ hkd
          have r2 : (W11.setCell ⟨x.rk, 1, none⟩ (.int .i64 0)).cell? ⟨x.rk, 2, none⟩ = some (.int .i64 x.gone) := by rw [cell_of_row _ _ _ _ _ _ (heap_setCell_same W11 x.rk 1 _ _ _ hkd)]; rfl
          have z2 : (W11.setCell ⟨x.rk, 1, none⟩ (.int .i64 0)).frozen? ⟨x.rk, 2, none⟩ = false := frozen_of_row _ _ _ _ _ (heap_setCell_same W11 x.rk 1 _ _ _ hkd)
          clear hWh11 b0 b6 x0 b0c b6c
          repeat (refine lex_quiet ?_ (fun W' hW' => ?_) ?_; rotate_left; (go_simp; first | done | rfl); (try simp only [Act.put, List.setIfInBounds_toArray, List.set_cons_succ, List.set_cons_zero]))
          refine lex_held (fun K9 hK9 => ?_)
          go_wp2_with (go_at_call 44; refine (rel_Gone hRd).mono ?_; rintro e w9 ⟨rfl, rfl⟩)
          refine hK9 _ _ (Fr.refl _ _) ?_
          try simp only [Act.put, List.setIfInBounds_toArray, List.set_cons_succ, List.set_cons_zero]
          clear hK9
          repeat (refine lex_quiet ?_ (fun W' hW' => ?_) ?_; rotate_left; (go_simp; first | done | rfl); (try simp only [Act.put, List.setIfInBounds_toArray, List.set_cons_succ, List.set_cons_zero]))
          refine lex_held (fun K9 hK9 => ?_)
          go_wp2_with fail
          refine hK9 _ _ ((Fr.refl _ _).setCell (p := ⟨x.rk, 1, none⟩) (Or.inl (by simp)) _) ?_
          try simp only [Act.put, List.setIfInBounds_toArray, List.set_cons_succ, List.set_cons_zero]
          clear hK9
          repeat (refine lex_quiet ?_ (fun W' hW' => ?_) ?_; rotate_left; (go_simp; first | done | rfl); (try simp only [Act.put, List.setIfInBounds_toArray, List.set_cons_succ, List.set_cons_zero]))
          refine lex_held (fun K9 hK9 => ?_)
          go_wp2_with fail
          have hFz : Fr [x.rk] W11 ((W11.setCell ⟨x.rk, 1, none⟩ (.int .i64 0)).setCell ⟨x.rk, 2, none⟩ (.int .i64 R.gone)) := ((Fr.refl _ _).setCell (p := ⟨x.rk, 1, none⟩) (Or.inl (by simp)) _).setCell (p := ⟨x.rk, 2, none⟩) (Or.inl (by simp)) _
          refine hK9 _ _ hFz ?_
          try simp only [Act.put, List.setIfInBounds_toArray, List.set_cons_succ, List.set_cons_zero]
          refine lex_tail ?_
          clear hK9 g0 g6 r1 z1 r2 z2
          go_wp2_with fail
          go_meet
          case rel =>
            refine ⟨_, ⟨x.rk, x.km, 0, R.gone, []⟩, hMid9.step (x' := ⟨x.rk, x.km, 0, R.gone, []⟩) ?_ ⟨heap_setCell_same _ x.rk 2 _ _ _ (heap_setCell_same W11 x.rk 1 _ _ _ hkd), ⟨hmd11.fr hFz (by simpa using fun e : x.km = x.rk => hkr e.symm), by simp, by simp, by simp, by simp⟩⟩ rfl ?_ ⟨Nat.le_refl _, fun _ => ⟨Nat.zero_le _, by simp [Ixr.cont, grp, grpFrom]⟩⟩, rfl⟩
            · refine ((hFc.mono (T := x.foot) ?_).trans' (hF11.mono (fun _ h => by cases h))).trans' (hFz.mono ?_)
              · intro c hc; simp at hc; subst hc; exact mem_foot.2 (Or.inr (mem_inner.2 (Or.inl rfl)))
              · intro c hc; simp at hc; subst hc; exact mem_foot.2 (Or.inl rfl)
            · intro c hc
              simp [Ixr.foot, Ixr.inner] at hc
              rcases hc with rfl | rfl
              · exact Or.inl (mem_foot.2 (Or.inl rfl))
              · exact Or.inl (mem_foot.2 (Or.inr (mem_inner.2 (Or.inl rfl))))
      case rest =>
        clear hMid9
        obtain ⟨B2, x, hMid, hgn⟩ := hcut
        have hIx := hMid.ix
        obtain ⟨hsn, hct⟩ := (hMid.bk.inv _ hMid.memb).same hgn
        have b0 := hMid.bk.c0
        rw [hMid.eb] at b0
        have b6 : wc.cell? ⟨N, 0, none⟩ = some (.pointer (some ⟨x.rk, 0, none⟩)) := by rw [cell_of_row _ _ _ _ _ _ hMid.box]; rfl
        have x1 := hIx.c1
        have hct' := Lib.hid hct
        have hgn' := Lib.hid hgn
        clear hct hgn
        go_upto_region 12 with (fail)
        refine region_lex [] [true, true, true, true, true, true, true, true, true, true, true, true, true, true, false, false] (by kernel_rfl) (by kernel_rfl) (by intro c a d v w h; cases d <;> exact h) ?_
        intro W12 hWh12 hF12
        have g0 : ∀ W', Fr [] W12 W' → W'.cell? ⟨B.b, 0, none⟩ = some (.pointer (some ⟨R.p, 0, none⟩)) := fun W' h' => (hF12.trans' h').cell b0 (by simp)
        have g6 : ∀ W', Fr [] W12 W' → W'.cell? ⟨N, 0, none⟩ = some (.pointer (some ⟨x.rk, 0, none⟩)) := fun W' h' => (hF12.trans' h').cell b6 (by simp)
        have g1 : ∀ W', Fr [] W12 W' → W'.cell? ⟨x.rk, 1, none⟩ = some (.int .i64 x.seen) := fun W' h' => (hF12.trans' h').cell x1 (by simp)
        clear hWh12
        repeat (refine lex_quiet ?_ (fun W' hW' => ?_) ?_; rotate_left; (go_simp; first | done | rfl); (try simp only [Act.put, List.setIfInBounds_toArray, List.set_cons_succ, List.set_cons_zero]))
        have hMid12 := hMid.below hF12
        refine lex_held (fun K9 hK9 => ?_)
        go_wp2_with (go_at_call 9; refine (rel_Len hMid12.rl).mono ?_; rintro e w9 ⟨rfl, rfl⟩)
        refine hK9 _ _ (Fr.refl _ _) ?_
        try simp only [Act.put, List.setIfInBounds_toArray, List.set_cons_succ, List.set_cons_zero]
        clear hK9
        refine lex_held (fun K9 hK9 => ?_)
        go_wp2_with (go_at_call 45; refine (range_make _ _ _).mono ?_; rintro e w9 ⟨rfl, rfl⟩)
        have hF13 : Fr [] W12 (((W12.alloc (.cells #[.pointer (some ⟨R.p, 0, none⟩)] 26)).alloc (.cells #[.int .i64 x.seen] 3)).alloc (.cells #[.int .i64 R.rows.length] 3)) := (((Fr.refl _ _).alloc _).alloc _).alloc _
        refine hK9 _ _ hF13 ?_
        try simp only [Act.put, List.setIfInBounds_toArray, List.set_cons_succ, List.set_cons_zero]
        refine lex_tail ?_
        clear hK9 g0 g6 g1 b0 b6 x1
        go_wp2_with fail
        obtain ⟨W13, hW13⟩ : ∃ W13, W13 = ((W12.alloc (.cells #[.pointer (some ⟨R.p, 0, none⟩)] 26)).alloc (.cells #[.int .i64 x.seen] 3)).alloc (.cells #[.int .i64 R.rows.length] 3) := ⟨_, rfl⟩
        rw [← hW13] at hF13 ⊢
        obtain ⟨hA13, hB13, hC13⟩ := three_cells W12 (.pointer (some ⟨R.p, 0, none⟩)) (.int .i64 x.seen) (.int .i64 R.rows.length) 26 3 3
        rw [← hW13] at hA13 hB13 hC13
        have hMid13 := hMid12.below hF13
        have hIx13 := hMid13.ix
        have hkm13 := hIx13.gs.hm.lt
        have hlen13 : ∀ q ∈ x.cont, q.2.length ≤ x.seen := fun q hq => by
          rw [hct'.out] at hq
          have := idxs_len m _ q hq
          rw [List.length_take] at this
          omega
        clear hW13
        refine range_rows (n := 3) (F := ?F) (lb := #[.pointer (some ⟨W12.heap.size, 0, none⟩), .pointer (some ⟨W12.heap.size + 1, 0, none⟩), .pointer (some ⟨W12.heap.size + 2, 0, none⟩)]) (by omega) rfl rfl
          (range_stops hMid13.rl (3 - 1) hA13 hB13 hC13 h47'.out) (LoopI W13 m x) (loopI_own hkm13) (loopI_start hIx13.gs hlen13) ?assign ?body ?done
        case assign =>
          rintro l pre p W K hI hK
          have hnew := heap_alloc_new W (.cells (rowCells p.2.1).toArray 34)
          have hF1 : Fr [] W (W.alloc (.cells (rowCells p.2.1).toArray 34)) := (Fr.refl _ _).alloc _
          gi_wp2_with (refine row_store_newIn rfl _ _ rfl rfl p.2.1 p.2.2 rfl rfl ?_)
          simp only [Act.put]
          have hK' := hK W.heap.size _ (keepsFrom_fr hF1) (keepsRows_fr hF1) (loopI_fr hI hF1) hnew
          clear hK hnew
          generalize W.heap.size = Bx at hK' ⊢
          exact hK'
        case body =>
          rintro l pre p Bx W ⟨gs, h1, h2, h3, h4, h5⟩ hBx hlt
          have hNx : N ∉ x.inner := fun h => hMid13.nN (hMid13.inB _ (mem_foot.2 (Or.inr h)))
          have hMx : w.heap.size ∉ x.inner := fun h => hMid13.nM (hMid13.inB _ (mem_foot.2 (Or.inr h)))
          have hRx : x.rk ∉ x.inner := rk_inner hIx13
          have hNl := (Array.getElem?_eq_some_iff.1 hMid13.box).1
          have hRl := (Array.getElem?_eq_some_iff.1 hIx13.hk).1
          have hMk := h4.heap hMid13.msk hMx
          have hNb := h4.heap hMid13.box hNx
          have hRk := h4.heap hIx13.hk hRx
          have hNg : N ∉ (x.put gs).inner := fun h => (h3 _ h).elim hNx (fun h => by omega)
          have hRg : x.rk ∉ (x.put gs).inner := fun h => (h3 _ h).elim hRx (fun h => by omega)
          have key := key_any (w := W) (b := Bx) (m := m) hm32.out p.2.2 (rangeAt_of_heap hBx)
          have c3 : W.cell? ⟨w.heap.size, 0, none⟩ = some (.int .u32 m) := by rw [cell_of_row _ _ _ _ _ _ hMk]; rfl
          have hkr := keyR_is (m := m) p.2.2
          obtain ⟨k, hk⟩ : ∃ k, k = keyR m p.2.1 := ⟨_, rfl⟩
          rw [← hk] at key hkr
          have hk' := Lib.hid hk
          clear hk hlen13 hsn
          gi_wp2_with (first | (refine ⟨trivial, ?_⟩; gi_at_call 29; refine (calls_round key).mono ?_; rintro e w1 ⟨rfl, hB1⟩) | (refine row_store_newIn rfl _ _ rfl rfl k hkr rfl rfl ?_))
          try simp only [Act.put]
          have hnr := rangeAt_new w1 34 (rowCells k)
          have hF15 : Fr [] W (w1.alloc (.cells (rowCells k).toArray 34)) := (Below.fr hB1 []).alloc _
          have hw1s := hB1.size
          obtain ⟨n1, hn1⟩ : ∃ n1, n1 = w1.heap.size := ⟨_, rfl⟩
          generalize w1.alloc (.cells (rowCells k).toArray 34) = W15 at hnr hF15 ⊢
          refine round_swap (by rintro ⟨_, _, h⟩; exact h) (by kernel_rfl) (x.put gs).inner 12 [true, true, true, true, true, true, false, false, true, true, false, false] (by kernel_rfl) (by kernel_rfl) (by intro c a d v w h; cases d <;> exact h) ?_
          intro W16 hWh16 hF16
          have hFW := hF15.trans' hF16
          have g6 : ∀ W', Fr (x.put gs).inner W16 W' → W'.cell? ⟨N, 0, none⟩ = some (.pointer (some ⟨x.rk, 0, none⟩)) := fun W' h' => by rw [cell_of_row _ _ _ _ _ _ (h'.heap (hFW.heap hNb (by simp)) hNg)]; rfl
          have g0 : ∀ W', Fr (x.put gs).inner W16 W' → W'.cell? ⟨x.rk, 0, none⟩ = some (.map (some x.km)) := fun W' h' => by rw [cell_of_row _ _ _ _ _ _ (h'.heap (hFW.heap hRk (by simp)) hRg)]; rfl
          have hlr : ∀ W', Fr (x.put gs).inner W16 W' → W'.rangeAt w1.heap.size 0 (rowCells k) := fun W' h' => range_fr (range_fr hnr hF16 (by simp)) h' (fun hc => by have := h1.lt _ hc; omega)
          have h16 := h1.fr hFW (by simp)
          clear hWh16 c3 hnr
          repeat (first | (refine lex_row_load _ rfl w1.heap.size 0 rfl k hkr hlr ?_; (try simp only [Act.put, List.setIfInBounds_toArray, List.set_cons_succ, List.set_cons_zero])) | (refine lex_quiet ?_ (fun W' hW' => ?_) ?_; rotate_left; (go_simp; first | done | rfl); (try simp only [Act.put, List.setIfInBounds_toArray, List.set_cons_succ, List.set_cons_zero])))
          refine lex_held (fun K9 hK9 => ?_)
          go_wp2_with fail
          have hFb : Fr (x.put gs).inner W16 (W16.alloc (.cells #[.int .i64 p.1] 3)) := (Fr.refl _ _).alloc _
          refine hK9 _ _ hFb ?_
          try simp only [Act.put, List.setIfInBounds_toArray, List.set_cons_succ, List.set_cons_zero]
          clear hK9
          have hcell1 := cell_one_new W16 (.int .i64 (p.1 : Int)) 3
          have h17 := h16.fr (Fr.mono ((Fr.refl [] W16).alloc (.cells #[.int .i64 p.1] 3)) (fun _ h => h)) (fun _ _ => List.not_mem_nil)
          obtain ⟨w17, gs1, j1, idx, v, st, hrun, hgr, g1, gj, hE, hins, hinn, hlen⟩ := entry_gs h17 hkr
          have hinn' : ∀ c, c ∈ (x.put gs1).inner ↔ c ∈ (x.put gs).inner := hinn
          have hF17 : Fr (x.put gs).inner W16 w17 := hFb.trans (Fr.of_grown hgr) (fun c hc => Or.inl (by simp at hc; subst hc; exact mem_inner.2 (Or.inl rfl)))
          have hidx := hlen (x.seen + pre.length) (by rw [h2]; exact h5)
          have hcell2 : ∀ j u, [Value.int .i64 (p.1 : Int)][j]? = some u → w17.cell? ((⟨W16.heap.size, 0, none⟩ : Addr).add j) = some u := fun j u hu => by
            have h := hcell1 j u hu
            have hkml : x.km < W16.heap.size := h16.hm.lt
            rw [Addr.add_mid] at h ⊢
            exact (Fr.of_grown hgr).cell h (fun hc => by have e : W16.heap.size = x.km := by { simpa [Ixr.put] using hc }; omega)
          have hown17 := g1.own _ (List.mem_of_getElem? gj)
          simp only at hown17
          have hml := Lib.hid (show idx.length + 1 ≤ maxLen by have := h47'.out; unfold maxLen; omega)
          have hby := Lib.hid (show (idx.length + 1) * 8 ≤ 140737488355328 by have := h47'.out; omega)
          obtain ⟨i0, hi0, hz0, hz1, hz2⟩ := info_parts Try.info3
          refine lex_held (fun K9 hK9 => ?_)
          refine list_mapEntry rfl _ _ _ rfl _ _ _ rfl rfl w17 hrun ?_
          refine hK9 _ _ hF17 ?_
          try simp only [Act.put, List.setIfInBounds_toArray, List.set_cons_succ, List.set_cons_zero]
          clear hK9 hrun
          repeat (refine lex_quiet ?_ (fun W' hW' => ?_) ?_; rotate_left; (go_simp; first | done | rfl); (try simp only [Act.put, List.setIfInBounds_toArray, List.set_cons_succ, List.set_cons_zero]))
          refine lex_held (fun K9 hK9 => ?_)
          refine wpList_append_own_at _ rfl (.tmp 106) (.tmp 108) 38 rfl 0 3 i0 (.int .i64 0) 1 8 Try.underlying38 hi0 hz0 hz1 hz2 rfl (by omega) v idx.length (ints idx) rfl hown17 ⟨W16.heap.size, 0, none⟩ 1 1 [.int .i64 p.1] rfl rfl hcell2 (by intro u hu; cases hu with | head => rfl | tail _ h => cases h) hml.out hby.out (by omega) ?_
          intro v' w18 hown18 hgrow18 _ hat18
          have hF18 : Fr (x.put gs).inner W16 w18 := hF17.trans (Fr.of_grown hgrow18) (fun c hc => Or.inl ((hinn' c).1 (mem_inner.2 (Or.inr ⟨_, List.mem_of_getElem? gj, by simpa using hc⟩))))
          obtain ⟨w19, hrun19, hgr19, gs19, hcont19, hinn19⟩ := store_gs (x := x) (i := p.1) g1 gj hE hgrow18 hown18 (hat18.imp id fun h => ⟨_, h, Nat.le_refl _⟩)
          have hF19 : Fr (x.put gs).inner W16 w19 := hF18.trans (Fr.of_grown hgr19) (fun c hc => Or.inl (by simp at hc; subst hc; exact mem_inner.2 (Or.inl rfl)))
          refine hK9 _ _ hF18 ?_
          try simp only [Act.put, List.setIfInBounds_toArray, List.set_cons_succ, List.set_cons_zero]
          clear hK9
          refine lex_held (fun K9 hK9 => ?_)
          refine list_entryStore rfl rfl _ _ _ _ rfl _ _ _ rfl rfl rfl w19 hrun19 ?_
          refine hK9 _ _ hF19 ?_
          try simp only [Act.put, List.setIfInBounds_toArray, List.set_cons_succ, List.set_cons_zero]
          refine lex_tail ?_
          clear hK9 g0 g6 hlr
          have h17s := hF17.size
          refine loopI_round (p := p) hkm13 h1 h2 h3 h4 h5 ((hFW.mono (fun _ h => by cases h)).trans' hF19) gs19 ?_ ?_
          · rw [hcont19, ← hk'.out]
            exact (hins p.1).symm
          · intro c hc
            rcases hinn19 c hc with h | h
            · exact Or.inl ((hinn' c).1 h)
            · exact Or.inr (Nat.le_trans (Nat.le_trans hFW.size h17s) h)
        case done =>
          rintro D xs W hD hxs ⟨gs, h1, h2, h3, h4, h5⟩ hDk
          subst hxs
          rw [hct'.out, insAll_items m R.rows hMid13.rl.ok x.seen (R.rows.length - x.seen) (by omega), show x.seen + (R.rows.length - x.seen) = R.rows.length by omega, List.take_length] at h2
          have hft : ∀ c ∈ (x.put gs).foot, c ∈ x.foot ∨ W13.heap.size ≤ c := fun c hc => by
            rcases mem_foot.1 hc with e | hc
            · exact Or.inl (mem_foot.2 (Or.inl e))
            · exact (h3 c hc).imp (fun h => mem_foot.2 (Or.inr h)) id
          have hRx : x.rk ∉ x.inner := rk_inner hIx13
          have hNx : N ∉ x.foot := fun h => hMid13.nN (hMid13.inB _ h)
          have hbx : B.b ∉ x.foot := fun h => (hMid13.bk.apB _ hMid13.memb _ h).1 hMid13.eb.symm
          have hNr : N ≠ x.rk := fun e => hNx (mem_foot.2 (Or.inl e))
          have hbr : B.b ≠ x.rk := fun e => hbx (mem_foot.2 (Or.inl e))
          have hRk := h4.heap hIx13.hk hRx
          have b0 := hMid13.bk.c0
          rw [hMid13.eb] at b0
          have b0' := h4.cell b0 (fun h => hbx (mem_foot.2 (Or.inr h)))
          have b6' : W.cell? ⟨N, 0, none⟩ = some (.pointer (some ⟨x.rk, 0, none⟩)) := by rw [cell_of_row _ _ _ _ _ _ (h4.heap hMid13.box (fun h => hNx (mem_foot.2 (Or.inr h))))]; rfl
          have hRl := hMid13.rl.fr h4 (fun c hc hc' => hMid13.bk.apR c (hMid13.inB _ (mem_foot.2 (Or.inr hc'))) hc)
          clear b0
          go_upto_region 17 with (fail)
          refine region_lex [x.rk] [true, true, true, true, true, true, false, true, true, false] (by kernel_rfl) (by kernel_rfl) (by intro c a d v w h; cases d <;> exact h) ?_
          intro W17 hWh17 hF17
          have g0 : ∀ W', Fr [x.rk] W17 W' → W'.cell? ⟨B.b, 0, none⟩ = some (.pointer (some ⟨R.p, 0, none⟩)) := fun W' h' => h'.cell (hF17.cell b0' (by simp)) (by simpa using hbr)
          have g6 : ∀ W', Fr [x.rk] W17 W' → W'.cell? ⟨N, 0, none⟩ = some (.pointer (some ⟨x.rk, 0, none⟩)) := fun W' h' => h'.cell (hF17.cell b6' (by simp)) (by simpa using hNr)
          have hkd := hF17.heap hRk (by simp)
          have hRd := hRl.fr hF17 (by simp)
          have r1 : W17.cell? ⟨x.rk, 1, none⟩ = some (.int .i64 x.seen) := by rw [cell_of_row _ _ _ _ _ _ hkd]; rfl
          have z1 : W17.frozen? ⟨x.rk, 1, none⟩ = false := frozen_of_row _ _ _ _ _ hkd
          clear hWh17 b0' b6'
          repeat (refine lex_quiet ?_ (fun W' hW' => ?_) ?_; rotate_left; (go_simp; first | done | rfl); (try simp only [Act.put, List.setIfInBounds_toArray, List.set_cons_succ, List.set_cons_zero]))
          refine lex_held (fun K9 hK9 => ?_)
          go_wp2_with (go_at_call 9; refine (rel_Len hRd).mono ?_; rintro e w9 ⟨rfl, rfl⟩)
          refine hK9 _ _ (Fr.refl _ _) ?_
          try simp only [Act.put, List.setIfInBounds_toArray, List.set_cons_succ, List.set_cons_zero]
          clear hK9
          repeat (refine lex_quiet ?_ (fun W' hW' => ?_) ?_; rotate_left; (go_simp; first | done | rfl); (try simp only [Act.put, List.setIfInBounds_toArray, List.set_cons_succ, List.set_cons_zero]))
          refine lex_held (fun K9 hK9 => ?_)
          go_wp2_with fail
          have hFz : Fr [x.rk] W17 (W17.setCell ⟨x.rk, 1, none⟩ (.int .i64 R.rows.length)) := (Fr.refl _ _).setCell (p := ⟨x.rk, 1, none⟩) (Or.inl (by simp)) _
          refine hK9 _ _ hFz ?_
          try simp only [Act.put, List.setIfInBounds_toArray, List.set_cons_succ, List.set_cons_zero]
          refine lex_tail ?_
          have hb6z := g6 _ hFz
          clear hK9 g0 g6 r1 z1
          have hkz := heap_setCell_same W17 x.rk 1 _ _ (.int .i64 R.rows.length) hkd
          generalize W17.setCell ⟨x.rk, 1, none⟩ (.int .i64 R.rows.length) = Wz at hFz hb6z hkz ⊢
          go_wp2_with fail
          show bodyPostM Fence.wide 3 Try.prog Try.f27 _ Exit.ret _ _
          have hrkl := (Array.getElem?_eq_some_iff.1 hIx13.hk).1
          have hDz := hFz.heap (hF17.heap hDk (by simp)) (by simp; omega)
          refine ⟨by simp, .inl ⟨_, _, rfl, run_takeDeferred hDz, ?_⟩⟩
          have hFp : Fr x.foot W13 (Wz.putObj D (.deferred none)) := by
            have hf1 : Fr x.foot W13 Wz := ((h4.mono (fun c hc => mem_foot.2 (Or.inr hc))).trans' (hF17.mono (fun _ h => by cases h))).trans' (hFz.mono (fun c hc => by simp at hc; subst hc; exact mem_foot.2 (Or.inl rfl)))
            exact hf1.grown (grownBy_putObj' Wz D _) (fun k e => by cases e; exact Or.inr hD)
          have hkm' : x.km ≠ x.rk := fun e => ix_ne hIx13 e.symm
          have hFzD : Fr [D] Wz (Wz.putObj D (.deferred none)) := Fr.of_grown (grownBy_putObj' Wz D _)
          have hgz : GsAt (Wz.putObj D (.deferred none)) (x.put gs) := ((h1.fr hF17 (by simp)).fr hFz (fun c hc hc' => by
            simp at hc'
            subst hc'
            exact (h3 _ hc).elim hRx (fun h => by omega))).fr hFzD (fun c hc hc' => by
            simp at hc'
            subst hc'
            have := h1.lt _ hc
            rcases inner_cells h1 _ hc with e | ⟨arr, e⟩
            · simp only [Ixr.put] at e
              omega
            · rw [hDk] at e
              cases e)
          have hxz : IxAt (Wz.putObj D (.deferred none)) { x.put gs with seen := R.rows.length } :=
            ⟨hFzD.heap hkz (by show x.rk ∉ [D]; simp; omega), ⟨hgz.hm, hgz.own, hgz.ok, hgz.nd, hgz.ap⟩⟩
          refine ⟨_, results_tmp2 rfl _ _ _, ?_⟩
          refine ⟨_, j, { x.put gs with seen := R.rows.length }, rfl, (hMid13.step (x' := { x.put gs with seen := R.rows.length }) hFp hxz rfl hft ⟨Nat.le_of_eq hgn'.out, fun _ => ⟨Nat.le_refl _, ?_⟩⟩).asked rfl hgn'.out h2⟩
          rw [List.take_length]
          exact h2
end Go.Proofs.Ytepimaghpjkibaa

/-
  From a walk to a law's row: a call that answers true and turns nothing old. A slice of rows, as an argument, read as rows.
-/
import Derived.Test.YtepimaghpjkibaaRows
import Derived.Test.YtepimaghpjkibaaFilled
import Derived.ProofKit
import Derived.OpenShut
import Derived.SizedLaws
import Derived.Deep.Slices
namespace Go.Proofs.Ytepimaghpjkibaa
open Go.ChangeShapes Go.WideShapes Go.ChangeAt Go.RowKit

section
variable {H : Type} {enc : TypeId × Value → H} {P : Program}

/-- All arguments read as they did, where nothing old has turned. -/
theorem args_stay (hl : laidOutB P = true) {W W' : World} (hb : Below W.heap.size W W') {sp : Nat → Bool} : ∀ {ts : List TypeId} {vs : List Value} {ds : List (DataW H)} {ps : List MemPlace},
    (ts.all fun t => P.readableRec t && decide (t < P.types.size)) = true → DataW.TrodAll enc P W 0 (fun _ => true) true ts vs ds ps → (∀ x ∈ ps, x.block < W.heap.size) → (∀ x ∈ ps, sp x.block = true) →
      DataW.TrodAll enc P W' 0 sp true ts vs ds ps
  | [], _, _, _, _, h, _, _ => by
    obtain ⟨rfl, rfl, rfl⟩ := trodAll_nil h
    exact rfl
  | t :: ts, _, _, _, hr, h, hlt, hs => by
    obtain ⟨v, vs, d, ds, p, q, rfl, rfl, rfl, h1, h2⟩ := trodAll_cons h
    simp only [List.all_cons, Bool.and_eq_true, decide_eq_true_eq] at hr
    exact ⟨p, q, WideElems.Trod_stays hl hr.1.1 hr.1.2 h1 (fun x hx => hb.same (hlt x (List.mem_append.2 (Or.inl hx)))) (fun x hx => hs x (List.mem_append.2 (Or.inl hx))),
      args_stay hl hb hr.2 h2 (fun x hx => hlt x (List.mem_append.2 (Or.inr hx))) (fun x hx => hs x (List.mem_append.2 (Or.inr hx))), rfl⟩

/-- What a law's row asks behind the call. -/
theorem law_post {f : Func} {s : ChangeSpec} {apart fresh handsOn again : Bool} {W W' : World} {args : Array Value} {ds gs : List (DataW H)} {before : List MemPlace} {tb : TypeId}
    (hl : laidOutB P = true) (hr : (f.params.toList.all fun t => P.readableRec t && decide (t < P.types.size)) = true) (hrt : f.resultTypes = #[tb]) (htb : P.underlying tb = some .bool) (hvars : s.vars = [])
    (hW : DataW.Whole enc P f.params.toList s.vars apart W args.toList ds gs before) (hfn : s.fn H (ds ++ gs) = { results := [.lit (.bool true)], args := ds })
    (hb : Below W.heap.size W W') : s.post enc P f apart fresh handsOn again W args (.bool true) W' := by
  have hlt : ∀ p ∈ before, p.block < W.heap.size := fun p hp => hW.lt p hp
  obtain ⟨p, q, hA, hV, rfl, hz, hn⟩ := id hW
  rw [hvars] at hV
  obtain ⟨rfl, rfl⟩ := trodVars_none hV
  have hltp : ∀ x ∈ p, x.block < W.heap.size := fun x hx => hlt x (List.mem_append.2 (Or.inl hx))
  have hres : ∀ (b : Nat) (sp : Nat → Bool) (hd : Bool), DataW.TrodAll enc P W' b sp hd f.resultTypes.toList ((Value.bool true).resultList f.resultTypes.size) (s.fn H (ds ++ [])).results [] := fun b sp hd => by
    rw [hfn, hrt]
    exact trodAll_mk1 (shut_bool htb true)
  have hargs : ∀ sp : Nat → Bool, (∀ x ∈ p, sp x.block = true) → DataW.TrodAll enc P W' 0 sp true f.params.toList args.toList (s.fn H (ds ++ [])).args p := fun sp hs => by
    rw [hfn]
    exact args_stay hl hb hr hA hltp hs
  have hvs : ∀ sp : Nat → Bool, DataW.TrodVars enc P W' sp s.vars (s.fn H (ds ++ [])).vars [] := fun sp => by
    rw [hvars, hfn]
    exact rfl
  have hok : ∀ (j : Nat) (t : TypeId) (r : Value), f.resultTypes[j]? = some t → ((Value.bool true).resultList f.resultTypes.size)[j]? = some r → Value.okWide P W' .any 0 t r := ok_one hrt rfl (okWide_bool_mk htb true)
  have hold : ∀ x ∈ p, (fun b => decide (b < W.heap.size)) x.block = true := fun x hx => by simpa using hltp x hx
  refine ⟨ds, [], p ++ [], [], p, [], hW, hres _ _ _, hargs _ hold, hvs _, World.keptBut_mono (fun x hx => ⟨hx, ?_⟩) (hb.frame (· ∈ p ++ [])), fun _ => ⟨hok, _, _, ([] ++ p) ++ [], ⟨[] ++ p, [], trodAll_append (hargs _ (fun _ _ => rfl)) (hres _ _ _), hvs _, rfl, ?_, ?_⟩, ?_⟩⟩
  · simp only [List.append_nil] at hx
    exact Or.inr (by simpa using hx)
  · intro b off hp
    have hin : MemPlace.cell b off ∈ p := by simpa using hp
    rw [hb.frozen (hltp _ hin)]
    exact hz b off (by simpa using hin)
  · intro ha
    simpa using hn ha
  · intro x hx _
    simpa using hx

/-- A law's row, out of its walk. -/
theorem law_lifted {C : Checked} {os : Os} {f : FuncId} {fn : Func} {s : ChangeSpec} {conds : List PathCond} {apart fresh handsOn again : Bool} {tb : TypeId}
    (own : ownKnob C.prog.godebug = none) (started : os.Started) (noInit : C.prog.inits.idxOf? f = none) (hfn : C.prog.funcs[f]? = some fn)
    (witness : ∃ (w : World) (tape : Tape) (i : Input), w.os = os ∧ (w.forCall tape i).Shaped C.prog ∧ i.vars = [] ∧ Input.okWide C.prog (w.forCall tape i) .any w.heap.size f i ∧
      s.pre6 enc C.prog fn conds apart (w.forCall tape i).memory i.args ∧ ({} : Assume).holds C.prog (lone (Frame.enter C.prog f i.args .normal) [] (w.forCall tape i)))
    (hl : laidOutB C.prog = true) (hr : (fn.params.toList.all fun t => C.prog.readableRec t && decide (t < C.prog.types.size)) = true) (hrt : fn.resultTypes = #[tb]) (htb : C.prog.underlying tb = some .bool) (hvars : s.vars = [])
    (hs : ∀ (W : World) (args : Array Value) (ds : List (DataW H)) (p : List MemPlace), DataW.TrodAll enc C.prog W 0 (fun _ => true) true fn.params.toList args.toList ds p → s.fn H ds = { results := [.lit (.bool true)], args := ds })
    (walk : ∀ (W : World) (base : Nat) (args : Array Value) (ds : List (DataW H)) (p : List MemPlace),
      (∀ (j : Nat) t v, fn.params[j]? = some t → args[j]? = some v → Value.okWide C.prog W .any base t v) →
      DataW.TrodAll enc C.prog W 0 (fun _ => true) true fn.params.toList args.toList ds p → (∀ x ∈ p, x.block < W.heap.size) →
      (DataW.weightsEach C.prog (fn.params.toList ++ s.plain.varTypes C.prog) (ds ++ [])).all (· ≤ reachBytes) = true →
      Calls C.prog f args W fun e W' => e = .returned (.bool true) ∧ Below W.heap.size W W') :
    ReturnsInHanded {} C os f .any (s.pre6 enc C.prog fn conds apart) (s.post enc C.prog fn apart fresh handsOn again) := by
  refine returnsInHanded_of_change_sized own started noInit hfn witness ?_
  intro W base args ds gs before hval hW _ hsz _
  have hW' := hW
  have hlt : ∀ x ∈ before, x.block < W.heap.size := fun x hx => hW'.lt x hx
  obtain ⟨p, q, hA, hV, rfl, hz, hn⟩ := hW
  rw [hvars] at hV
  obtain ⟨rfl, rfl⟩ := trodVars_none hV
  refine (walk W base args ds p hval hA (fun x hx => hlt x (List.mem_append.2 (Or.inl hx))) hsz).mono fun e W' ⟨he, hb⟩ => ⟨_, he, ?_⟩
  exact law_post hl hr hrt htb hvars hW' (by rw [List.append_nil]; exact hs W args ds p hA) hb
end

section
variable {H : Type} {enc : TypeId × Value → H} {w : World} {base : Nat} {spare : Nat → Bool} {held : Bool} {fuel : Nat}

/-- The cells of a row that was read. -/
theorem row_read {cs : List Value} {y : DataW H × List MemPlace} (h : DataW.trod enc Try.prog w base spare held fuel 34 cs = some y) : ∃ x : Row, IsRow x ∧ cs = rowCells x := by
  obtain ⟨xs, m, rfl, _, hl, hx, hi⟩ := DataW.trod_array Try.underlying34 h
  rw [Try.rowCellsOf] at hl
  have hc : ∀ i, i < 24 → ∃ n : Int, cs[i]? = some (.int .i32 n) ∧ -2147483648 ≤ n ∧ n ≤ 2147483647 := fun i hi' => by
    have h1 := hi i hi'
    rw [Try.symCellsOf, Nat.mul_one] at h1
    have e1 : (cs.drop i).take 1 = [cs[i]'(by omega)] := by
      rw [List.drop_eq_getElem_cons (by omega), List.take_succ_cons, List.take_zero]
    rw [e1] at h1
    have hxi : i < xs.length := by omega
    rw [List.getElem?_eq_getElem hxi] at h1
    obtain ⟨n, hn, _, hw⟩ := DataW.trod_int Try.underlying32 h1
    simp only [List.cons.injEq, and_true] at hn
    refine ⟨n, by rw [List.getElem?_eq_getElem (by omega), hn], ?_⟩
    simp [Lit.wf, IntKind.min, IntKind.max, IntKind.signed, IntKind.bits] at hw
    omega
  obtain ⟨f, hf⟩ := Deep.choose_lt hc
  refine ⟨(List.range 24).map f, ⟨by simp, fun y hy => ?_⟩, ?_⟩
  · obtain ⟨i, hi, rfl⟩ := List.mem_map.1 hy
    exact (hf i (List.mem_range.1 hi)).2
  · apply List.ext_getElem?
    intro i
    by_cases h24 : i < 24
    · rw [(hf i h24).1]
      simp [rowCells, h24]
    · rw [List.getElem?_eq_none (by omega), List.getElem?_eq_none (by simp [rowCells]; omega)]

set_option maxRecDepth 10000 in
/-- A slice of rows that was read. -/
theorem rows_read {t : TypeId} (ht : Try.prog.underlying t = some (.slice 34)) {v : Value} {d : DataW H} {p : List MemPlace} (hv : Value.okWide Try.prog w .any base t v)
    (h : DataW.Trod enc Try.prog w 0 (fun _ => true) true t v d p) :
    ∃ l : List Row, RowsAt w v l ∧ (l = [] ∨ ∃ es sp, d = .slice es sp ∧ es.length = l.length) := by
  obtain ⟨fuel, hf⟩ := h
  rcases Deep.open_slice ht hf with ⟨hcs, hx⟩ | ⟨a, len, cap, m, n, D, Pl, hcs, _, hlc, hcm, hm, hx, hi⟩
  · have hv' : v = .slice none 0 0 := by
      cases v <;> simp_all [Value.cells]
      simp [Value.okWide, ht, Cell.okWide, Cell.ok] at hv
    subst hv'
    exact ⟨[], ⟨none, 0, rfl, Nat.le_refl _, Or.inl rfl, by simp⟩, Or.inl rfl⟩
  · have hv' : v = .slice (some a) len cap := by
      cases v <;> simp_all [Value.cells]
      simp [Value.okWide, ht, Cell.okWide, Cell.ok] at hv
    subst hv'
    simp only [if_true] at hm
    subst hm
    rw [Try.rowCellsOf] at hi
    have hd : d = _ := congrArg Prod.fst hx
    by_cases hl0 : len = 0
    · exact ⟨[], ⟨some a, m, by rw [hl0]; rfl, by simp, Or.inl rfl, by simp⟩, Or.inr ⟨_, _, hd, by simp [hl0]⟩⟩
    · obtain ⟨cs0, hc0, ht0⟩ := hi 0 (by omega)
      obtain ⟨x0, hx0, rfl⟩ := row_read ht0
      obtain ⟨_, _, hat0⟩ := World.cells?_some hc0
      have h00 : w.cell? a = some (.int .i32 (x0.getD 0 0)) := by
        have := hat0 0 (by omega)
        rw [rowCells_at hx0 (by omega)] at this
        simpa [Addr.add] using this
      have hsp := World.cell?_spot h00
      have hbl := World.block_lt_of_cell? w a h00
      obtain ⟨b, o, sp⟩ := a
      simp only at hsp
      subst hsp
      have hr : ∀ i, i < m → ∃ x : Row, IsRow x ∧ w.rangeAt b (o + i * 24) (rowCells x) := fun i hic => by
        obtain ⟨cs', hc, ht'⟩ := hi i hic
        obtain ⟨x, hxr, rfl⟩ := row_read ht'
        obtain ⟨_, hl, hat⟩ := World.cells?_some hc
        refine ⟨x, hxr, fun j v hj => ?_⟩
        have hjl : j < 24 := by
          have := (List.getElem?_eq_some_iff.1 hj).1
          rwa [hl] at this
        have := hat j hjl
        rw [Addr.add_mid, Addr.add_mid, hj] at this
        exact this
      obtain ⟨f, hf'⟩ := Deep.choose_lt hr
      refine ⟨(List.range len).map f, ⟨some ⟨b, o, none⟩, m, by simp, by simpa using hlc, Or.inr ⟨b, o, rfl, hbl, ?_⟩, ?_⟩, Or.inr ⟨_, _, hd, by simp⟩⟩
      · intro i x hx'
        rw [List.getElem?_map] at hx'
        by_cases hil : i < len
        · simp [hil] at hx'
          rw [← hx']
          exact (hf' i (by omega)).2
        · simp [hil] at hx'
      · intro x hx'
        obtain ⟨i, hil, rfl⟩ := List.mem_map.1 hx'
        exact (hf' i (by have := List.mem_range.1 hil; omega)).1
end

theorem Try.own : ownKnob Try.prog.godebug = none := by kernel_rfl

theorem wf_u8 {n : Int} (h : (Lit.int .u8 n).wf = true) : 0 ≤ n ∧ n < 256 := by
  simp [Lit.wf, IntKind.min, IntKind.max, IntKind.signed, IntKind.bits] at h
  omega
theorem wf_u32 {n : Int} (h : (Lit.int .u32 n).wf = true) : 0 ≤ n ∧ n < 4294967296 := by
  simp [Lit.wf, IntKind.min, IntKind.max, IntKind.signed, IntKind.bits] at h
  omega
theorem Try.bytesRow : Try.prog.bytesOf 34 = 96 := by kernel_rfl
end Go.Proofs.Ytepimaghpjkibaa

/-
  The loop of 'ask': its invariant, and what a round leaves.
-/
import Derived.Test.YtepimaghpjkibaaSmall
import Derived.Test.YtepimaghpjkibaaRange
import Derived.Test.YtepimaghpjkibaaOrder
import Derived.Test.YtepimaghpjkibaaMid
namespace Go.Proofs.Ytepimaghpjkibaa
open Go.RowKit Go.Shelf

/-- The groups behind rows that have come. -/
def insAll (m : Nat) (g : Groups) (pre : List (Nat × GRow)) : Groups := pre.foldl (fun g p => ins (keyR m p.2.1) p.1 g) g

theorem insAll_snoc (m : Nat) (g : Groups) (pre : List (Nat × GRow)) (p : Nat × GRow) : insAll m g (pre ++ [p]) = ins (keyR m p.2.1) p.1 (insAll m g pre) := by simp [insAll]

theorem insAll_items (m : Nat) (rows : List Row) (hok : ∀ x ∈ rows, IsRow x) (s : Nat) : ∀ k, s + k ≤ rows.length → insAll m (grp m (rows.take s)) (items rows hok s k) = grp m (rows.take (s + k))
  | 0, _ => by simp [items, insAll]
  | k + 1, h => by
    have hlt : s + k < rows.length := by omega
    rw [items_succ, insAll_snoc, insAll_items m rows hok s k (by omega)]
    have e : rows.take (s + (k + 1)) = rows.take (s + k) ++ [rows[s + k]] := by
      rw [← Nat.add_assoc, List.take_add_one, List.getElem?_eq_getElem hlt]; rfl
    rw [e, grp_snoc, List.length_take, Nat.min_eq_left (by omega)]
    simp [rowAt, List.getD_eq_getElem?_getD, List.getElem?_eq_getElem hlt]

theorem ins_len {k : Row} {i n : Nat} : ∀ {g : Groups}, (∀ p ∈ g, p.2.length ≤ n) → ∀ p ∈ ins k i g, p.2.length ≤ n + 1
  | [], _, p, hp => by simp [ins] at hp; subst hp; simp
  | q :: r, h, p, hp => by
    unfold ins at hp
    split at hp
    · rcases List.mem_cons.1 hp with rfl | hp
      · have := h q (by simp); simp; omega
      · have := h p (by simp [hp]); omega
    · rcases List.mem_cons.1 hp with rfl | hp
      · have := h p (by simp); omega
      · exact ins_len (fun q' hq' => h q' (by simp [hq'])) p hp

theorem idxs_len (m : Nat) (rows : List Row) : ∀ p ∈ grp m rows, p.2.length ≤ rows.length := by
  induction rows using list_snoc with
  | h0 => simp [grp, grpFrom]
  | h1 a x ih =>
    intro p hp
    rw [grp_snoc] at hp
    have := ins_len ih p hp
    simp
    omega

/-- Between two rounds. -/
def LoopI (W0 : World) (m : Nat) (x : Ixr) (pre : List (Nat × GRow)) (W : World) : Prop :=
  ∃ gs, GsAt W (x.put gs) ∧ (x.put gs).cont = insAll m x.cont pre ∧ (∀ c ∈ (x.put gs).inner, c ∈ x.inner ∨ W0.heap.size ≤ c) ∧ Fr x.inner W0 W ∧ (∀ p ∈ insAll m x.cont pre, p.2.length ≤ x.seen + pre.length)

theorem inner_cells {w : World} {x : Ixr} (h : GsAt w x) : ∀ c ∈ x.inner, c = x.km ∨ ∃ arr, w.heap[c]? = some (.cells arr 3 (0, 0)) := by
  intro c hc
  rcases mem_inner.1 hc with rfl | ⟨g, hg, e⟩
  · exact Or.inl rfl
  · rcases (h.own g hg).2 with ⟨h2, _⟩ | ⟨b, cap, cur, h2, _, h3, _⟩
    · rw [h2] at e; simp [Value.ownBlock] at e
    · rw [h2] at e
      simp [Value.ownBlock] at e
      subst e
      exact Or.inr ⟨_, h3⟩

theorem fr_grown_own {W0 W W' : World} {S : List Nat} {row : Option Nat} (h : Fr S W0 W) (hg : W.grownBy W' row) (hr : ∀ r, row = some r → W0.heap.size ≤ r ∧ ∃ o : Obj, W.heap[r]? = some o ∧ o.isCells = false) : Fr S W0 W' :=
  h.grown hg fun k e => Or.inr (hr k e).1

theorem loopI_own {W0 : World} {m : Nat} {x : Ixr} (hkm : x.km < W0.heap.size) : OwnFrom W0.heap.size (LoopI W0 m x) := by
  rintro pre W W' row ⟨gs, h1, h2, h3, h4, h5⟩ hg hr
  refine ⟨gs, h1.fr (Fr.of_grown hg) ?_, h2, h3, fr_grown_own h4 hg hr, h5⟩
  intro c hc hc'
  cases row with
  | none => cases hc'
  | some r =>
    simp at hc'
    subst hc'
    obtain ⟨hB, o, ho, hcell⟩ := hr c rfl
    rcases inner_cells h1 c hc with e | ⟨arr, e⟩
    · simp only [Ixr.put] at e
      omega
    · rw [e] at ho
      cases ho
      cases hcell

theorem loopI_start {W0 : World} {m : Nat} {x : Ixr} (h : GsAt W0 x) (hl : ∀ p ∈ x.cont, p.2.length ≤ x.seen) : LoopI W0 m x [] W0 :=
  ⟨x.gs, h, rfl, fun _ hc => Or.inl hc, Fr.refl _ _, by simpa [insAll] using hl⟩

theorem loopI_fr {W0 W W' : World} {m : Nat} {x : Ixr} {pre : List (Nat × GRow)} (h : LoopI W0 m x pre W) (hf : Fr [] W W') : LoopI W0 m x pre W' := by
  obtain ⟨gs, h1, h2, h3, h4, h5⟩ := h
  exact ⟨gs, h1.fr hf (fun _ _ => List.not_mem_nil), h2, h3, h4.trans hf (fun _ h => by cases h), h5⟩

/-- What a round leaves. -/
theorem loopI_round {W0 W W3 : World} {m : Nat} {x : Ixr} {pre : List (Nat × GRow)} {p : Nat × GRow} {gs gs' : List Grp} (hkm : x.km < W0.heap.size) (h1 : GsAt W (x.put gs)) (h2 : (x.put gs).cont = insAll m x.cont pre)
    (h3 : ∀ c ∈ (x.put gs).inner, c ∈ x.inner ∨ W0.heap.size ≤ c) (h4 : Fr x.inner W0 W) (h5 : ∀ q ∈ insAll m x.cont pre, q.2.length ≤ x.seen + pre.length)
    (hF : Fr (x.put gs).inner W W3) (g1 : GsAt W3 (x.put gs')) (g2 : (x.put gs').cont = ins (keyR m p.2.1) p.1 (x.put gs).cont) (g3 : ∀ c ∈ (x.put gs').inner, c ∈ (x.put gs).inner ∨ W.heap.size ≤ c) :
    KeepsFrom W0.heap.size W W3 ∧ KeepsRows W W3 ∧ LoopI W0 m x (pre ++ [p]) W3 := by
  refine ⟨?_, ?_, gs', g1, ?_, ?_, ?_, ?_⟩
  · refine ⟨hF.size, fun k o hB hk ho => hF.heap hk fun hc => ?_⟩
    rcases inner_cells h1 k hc with e | ⟨arr', e⟩
    · simp only [Ixr.put] at e
      omega
    · rw [e] at hk
      cases hk
      cases ho
  · intro b arr fr hb
    refine hF.heap hb fun hc => ?_
    rcases inner_cells h1 b hc with e | ⟨arr', e⟩
    · obtain ⟨es, ck, hm, _⟩ := h1.hm
      rw [e, hm] at hb
      cases hb
    · rw [e] at hb
      cases hb
  · rw [g2, h2, insAll_snoc]
  · intro c hc
    rcases g3 c hc with h | h
    · exact h3 c h
    · exact Or.inr (Nat.le_trans h4.size h)
  · exact h4.trans hF h3
  · intro q hq
    rw [insAll_snoc] at hq
    have := ins_len h5 q hq
    simp
    omega

theorem keepsFrom_fr {B : Nat} {W W' : World} (hF : Fr [] W W') : KeepsFrom B W W' := ⟨hF.size, fun _ _ _ hk _ => hF.heap hk List.not_mem_nil⟩
theorem keepsRows_fr {W W' : World} (hF : Fr [] W W') : KeepsRows W W' := fun _ _ _ hb => hF.heap hb List.not_mem_nil

section
variable {P : Program} {ops : Array Oper} {rest : List Oper} {o : Oper} {a : Act} {w : World} {Q : Exit → Act → World → Prop}
/-- 'mapEntry', its run known. -/
theorem list_mapEntry (hgd : o.guard = none) (t : TypeId) (m x : Operand) (ho : o.op = .mapEntry t m x) (mv kv v : Value) (hm : a.eval m = mv) (hx : a.eval x = kv) (w' : World)
    (hrun : (Instr.mapEntry t mv kv).run P w = .ok v w') (h : wpList P ops Q rest (a.put o.dst v) w') : wpList P ops Q (o :: rest) a w := by
  refine wpList_plain hgd fun K hK => ?_
  unfold Oper.wp execOp
  simp only [ho, hm, hx, Sem.run_bind, Sem.run_pure, Result.andThen_ok, hrun]
  exact hK _ _ h

/-- 'entryStore', its run known. -/
theorem list_entryStore (hgd : o.guard = none) (hd : o.dst = none) (t : TypeId) (m x y : Operand) (ho : o.op = .entryStore t m x y) (mv kv v : Value) (hm : a.eval m = mv) (hx : a.eval x = kv) (hy : a.eval y = v) (w' : World)
    (hrun : (Instr.entryStore t mv kv v).run P w = .ok () w') (h : wpList P ops Q rest a w') : wpList P ops Q (o :: rest) a w := by
  refine wpList_plain hgd fun K hK => ?_
  unfold Oper.wp execOp
  simp only [ho, hm, hx, hy, Sem.run_bind, Sem.run_pure, Result.andThen_ok, hrun]
  refine hK _ _ ?_
  rw [hd]
  exact h
end

section
variable {P : Program} {Q : Exit → Act → World → Prop}
/-- Twelve operations, the last but one ahead of the one that stands before it. -/
theorem round_swap {r n id : Nat} {a : Act} {w : World} {o0 o1 o2 o3 o4 o5 o6 o7 o8 o9 o10 o11 : Oper} (hl : ¬ LetsOut Q) (hd : noDefers [o0, o1, o2, o3, o4, o5, o6, o7, o8, o9, o10, o11] = true) (T : List Nat) (kn : Nat) (kinds : List Bool)
    (hm : P.follows .mixedOrders = true) (hB : orderB [o0, o1, o2, o3, o4, o5, o6, o7, o8, o9, o10, o11].toArray kn kinds [0, 1, 2, 3, 4, 5, 6, 7, 8, 10, 9, 11] = true) (hQ : ∀ c a d v w, Q (.panic c) (Act.put a d v) w → Q (.panic c) a w)
    (h : ∀ W : World, W.heap = w.heap → Fr [] w W → wpLex P [o0, o1, o2, o3, o4, o5, o6, o7, o8, o9, o10, o11].toArray Q (Fr T W) kinds [o0, o1, o2, o3, o4, o5, o6, o7, o8, o10, o9, o11] a W) :
    (Code.region id [o0, o1, o2, o3, o4, o5, o6, o7, o8, o9, o10, o11].toArray true).wpIn (Fence.wide.inRound r) n P Q a w :=
  round_order hl hd T kn kinds [0, 1, 2, 3, 4, 5, 6, 7, 8, 10, 9, 11] hm hB rfl hQ h
end

/-- The range over a relation's rows, its body's frame named by the row, its number and the row's own cell. -/
theorem range_rows {n : Nat} {g : Operand} {ps : Array Tmp} {assign body : Code} {Q : Exit → Act → World → Prop} {a : Act} {w : World} {lb : Array Value} {S Sp : List (Nat × GRow) → Prop} {N : Nat} (F : Nat × GRow → Nat → Act) (h1 : 1 ≤ n) (hg : a.eval g = .func (.func 57) #[] lb) (hps : 2 = ps.size)
    (hseq : SeqStopsK Fence.wide (n - 1) Try.prog 57 lb (fun x : Nat × GRow => #[.int .i64 x.1, rowV x.2.1]) KeepsRows S Sp N w) (I : List (Nat × GRow) → World → Prop) (hI : OwnFrom w.heap.size I) (h0 : I [] w)
    (hassign : ∀ (l : Nat) (pre : List (Nat × GRow)) (x : Nat × GRow) (W : World) (K : Act → World → Prop), I pre W → (∀ Bx W', KeepsFrom w.heap.size W W' → KeepsRows W W' → I pre W' → W'.heap[Bx]? = some (.cells (rowCells x.2.1).toArray 34 (0, 0)) → K (F x Bx) W') →
      assign.wpIn (Fence.wide.inRound l) (n - 1 - 1) Try.prog (Exit.then K (fun _ _ _ => False)) { tmps := (ps.zip #[.int .i64 x.1, rowV x.2.1]).foldl (fun t (p, v) => t.setIfInBounds p v) a.tmps, defers := [] } W)
    (hbody : ∀ (l : Nat) (pre : List (Nat × GRow)) (x : Nat × GRow) (Bx : Nat) (W : World), I pre W → W.heap[Bx]? = some (.cells (rowCells x.2.1).toArray 34 (0, 0)) → pre.length < N →
      body.wpIn (Fence.wide.inRound l) (n - 1 - 1) Try.prog (ownPostG w.heap.size KeepsRows I (fun _ _ _ => False) (pre ++ [x]) W) (F x Bx) W)
    (hdone : ∀ (D : Nat) (xs : List (Nat × GRow)) (W : World), w.heap.size ≤ D → S xs → I xs W → W.heap[D]? = some (.deferred (some [])) → Q .normal { a with defers := { target := .collected D, args := #[] } :: a.defers } W) :
    (Code.rangeFunc g ps assign body).wp Try.prog Q a w := by
  refine (wpIn_wide (n := n)).1 ?_
  refine wpIn_rangeFunc_ownH rfl h1 (gf := 57) (lb := lb) hg trivial (enters_of Try.func57 (by kernel_rfl) rfl) hseq keepsRows_t keepsRows_b (Below.refl _ _) (fun _ => hps) I (fun _ _ _ => False) hI (fun _ _ _ _ _ h _ _ => h) h0
    (fun p a' W => ∃ Bx : Nat, W.heap[Bx]? = some (.cells (rowCells p.2.1).toArray 34 (0, 0)) ∧ a' = F p Bx) ?hAx ?assign ?body hdone ?stop
  case hAx =>
    rintro p a' _ W W' row ⟨Bx, hb, rfl⟩ hg hr
    refine ⟨Bx, ?_, rfl⟩
    refine (Fr.of_grown hg).heap hb fun hc => ?_
    cases row with
    | none => cases hc
    | some r =>
      simp at hc
      subst hc
      obtain ⟨_, o, ho, hcell⟩ := hr _ rfl
      rw [hb] at ho
      cases ho
      cases hcell
  case assign =>
    exact fun l pre x W K hI hK => hassign l pre x W K hI fun Bx W' h1 h2 h3 h4 => hK _ _ h1 h2 h3 ⟨Bx, h4, rfl⟩
  case body =>
    rintro l pre x a' W _ _ hI ⟨Bx, hb, rfl⟩ hlt
    exact hbody l pre x Bx W hI hb hlt
  case stop =>
    exact fun _ _ _ _ _ _ h => h.elim
end Go.Proofs.Ytepimaghpjkibaa

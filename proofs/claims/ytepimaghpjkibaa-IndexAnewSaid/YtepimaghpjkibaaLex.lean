/-
  A region that draws its order, walked once, in the order of the text: operations that only read ('quiet') yield one value in every world that the others may leave ('Fr T w'); the others come in one forced order; behind them a tail in one forced order. No program in sight.
-/
import Derived.Test.YtepimaghpjkibaaBase
import Derived.OrdersHeld
import Derived.StillTail
namespace Go.Proofs.Ytepimaghpjkibaa
open Go.RowKit

section
variable {P : Program} {ops : Array Oper} {Q : Exit → Act → World → Prop} {md : Region.Mode} {S : World → Prop} {k : Nat}

/-- Whatever order is picked from here on; S holds behind each operation, as long as number k has not come up. -/
def wpAnyD (P : Program) (md : Region.Mode) (ops : Array Oper) (Q : Exit → Act → World → Prop) (S : World → Prop) (k : Nat) : Nat → Array Bool → Act → World → Prop
  | 0, listed, a, w => Region.ready md ops listed = [] ∧ Q .normal a w
  | fuel + 1, listed, a, w =>
    (Region.ready md ops listed = [] → Q .normal a w) ∧
    ∀ i ∈ Region.ready md ops listed, wpOp P ops Q i (fun a' w' => ((listed.setIfInBounds i true).getD k false = true ∨ S w') ∧ wpAnyD P md ops Q S k fuel (listed.setIfInBounds i true) a' w') a w

theorem wpAny_of_D : ∀ (fuel : Nat) (listed : Array Bool) (a : Act) (w : World), wpAnyD P md ops Q S k fuel listed a w → wpAny P md ops Q fuel listed a w
  | 0, _, _, _, h => h
  | fuel + 1, _, _, _, h => ⟨h.1, fun i hi => wpOp_mono (fun a' w' h' => wpAny_of_D fuel _ a' w' h'.2) (h.2 i hi)⟩

/-- Number k waits for number i (or there is no number k). -/
def Waits (md : Region.Mode) (ops : Array Oper) (k i : Nat) : Prop := ops.size ≤ k ∨ ∃ ok, ops[k]? = some ok ∧ ∃ e ∈ ok.after, Region.binds md e = true ∧ e.on = i

theorem wpAnyD_first {i : Nat} {oi : Oper} {v : Value} (hi : ops[i]? = some oi) (hsel : ∀ (j : Nat) (o : Oper) cs b, ops[j]? = some o → o.op ≠ .select cs b)
    (hQ : ∀ c a w, Q (.panic c) (a.put oi.dst v) w → Q (.panic c) a w) (hwait : Waits md ops k i) :
    ∀ (fuel : Nat) (listed : Array Bool) (a : Act) (w : World),
      (∀ j oj, ops[j]? = some oj → j ≠ i → listed.getD j true = false → (∀ e ∈ oj.after, Region.binds md e = true → e.on ≠ i) → oi.apart ops oj = true) →
      i ∈ Region.ready md ops listed → YieldsIf P ops S oi v a → S w → listed.getD k false = false → listed.size = ops.size →
      wpAnyD P md ops Q S k fuel (listed.setIfInBounds i true) (a.put oi.dst v) w → wpAnyD P md ops Q S k (fuel + 1) listed a w := by
  intro fuel
  induction fuel with
  | zero =>
    intro listed a w _ hr hy hS _ _ H
    refine ⟨fun h => (by rw [h] at hr; cases hr), fun j hj => ?_⟩
    by_cases hji : j = i
    · subst hji; exact hy.wpOp hi hS ⟨Or.inr hS, H⟩
    · have := ready_mono hj hji
      rw [H.1] at this
      cases this
  | succ fuel ih =>
    intro listed a w hfree hr hy hS hk hsz H
    refine ⟨fun h => (by rw [h] at hr; cases hr), fun j hj => ?_⟩
    by_cases hji : j = i
    · subst hji; exact hy.wpOp hi hS ⟨Or.inr hS, H⟩
    · have h1 := H.2 j (ready_mono hj hji)
      obtain ⟨hjun, oj, hoj, hall⟩ := mem_ready.1 hj
      have hnot : ∀ e ∈ oj.after, Region.binds md e = true → e.on ≠ i := fun e he hb heq => by
        have h1 := hall e he hb
        have h0 := (mem_ready.1 hr).1
        rw [heq] at h1
        rcases Nat.lt_or_ge i listed.size with h' | h'
        · simp [h'] at h0 h1; rw [h0] at h1; cases h1
        · simp [Array.getElem?_eq_none h'] at h1
      have hjk : j ≠ k := by
        rintro rfl
        rcases hwait with hw | ⟨ok, hok, e, he, hb, hon⟩
        · have := (Array.getElem?_eq_some_iff.1 hoj).1
          omega
        · rw [hoj] at hok
          cases hok
          exact hnot e he hb hon
      have hik : i ≠ k := by
        rintro rfl
        obtain ⟨hiun, oi', hoi', hall'⟩ := mem_ready.1 hr
        rcases hwait with hw | ⟨ok, hok, e, he, hb, hon⟩
        · have := (Array.getElem?_eq_some_iff.1 hoi').1
          omega
        · rw [hoi'] at hok
          cases hok
          have h2 := hall' e he hb
          rw [hon, hk] at h2
          cases h2
      have hDj : ∀ l : Array Bool, (l.setIfInBounds j true).getD k false = l.getD k false := fun l => getD_set_ne false hjk
      have hDi : ∀ l : Array Bool, (l.setIfInBounds i true).getD k false = l.getD k false := fun l => getD_set_ne false hik
      have h2 := wpOp_putIf hoj (hfree j oj hoj hji hjun hnot) (fun cs b => hsel i oi cs b hi) (fun cs b => hsel j oj cs b hoj) hQ hy h1
      have hfree' : ∀ k ok, ops[k]? = some ok → k ≠ i → (listed.setIfInBounds j true).getD k true = false →
          (∀ e ∈ ok.after, Region.binds md e = true → e.on ≠ i) → oi.apart ops ok = true := fun k ok hk hki hun hno => by
        refine hfree k ok hk hki ?_ hno
        by_cases hjk : j = k
        · subst hjk; exact hjun
        · rw [getD_set_ne true hjk] at hun; exact hun
      refine wpOp_mono (fun a' w' h3 => ?_) h2
      obtain ⟨hy3, hS3, h4⟩ := h3
      have hS' : S w' := by
        rcases hS3 with h | h
        · rw [hDj, hDi, hk] at h
          cases h
        · exact h
      refine ⟨Or.inr hS', ih (listed.setIfInBounds j true) a' w' hfree' (ready_mono hr (Ne.symm hji)) hy3 hS' (by rw [hDj]; exact hk) (by simpa using hsz) ?_⟩
      rw [Array.setIfInBounds_comm _ _ hji]
      exact h4

/-! ### the walk in the order of the text -/

/-- kinds: true: quiet; false: an operation that may turn the world within S; behind the kinds: a tail in one forced order. -/
def wpLex (P : Program) (ops : Array Oper) (Q : Exit → Act → World → Prop) (S : World → Prop) : List Bool → List Oper → Act → World → Prop
  | [], rest, a, w => wpList P ops Q rest a w
  | _ :: _, [], a, w => Q .normal a w
  | true :: ks, o :: rest, a, w => ∃ v, YieldsIf P ops S o v a ∧ wpLex P ops Q S ks rest (a.put o.dst v) w
  | false :: ks, o :: rest, a, w => ∀ K : Act → World → Prop, (∀ a' w', S w' → wpLex P ops Q S ks rest a' w' → K a' w') → wpList P ops (Exit.then K Q) [o] a w

theorem lex_tail {rest : List Oper} {a : Act} {w : World} (h : wpList P ops Q rest a w) : wpLex P ops Q S [] rest a w := h
theorem lex_quiet {ks : List Bool} {o : Oper} {rest : List Oper} {a : Act} {w : World} (v : Value) (h : ∀ W, S W → (execOp a.eval o).run P W = .ok (.value v) W) (hk : wpLex P ops Q S ks rest (a.put o.dst v) w)
    (hg : o.guard = none := by rfl) : wpLex P ops Q S (true :: ks) (o :: rest) a w := ⟨v, .inl ⟨by simp [Region.wanted, hg], h⟩, hk⟩
/-- A guarded operation that is wanted. -/
theorem lex_guard {ks : List Bool} {o : Oper} {rest : List Oper} {a : Act} {w : World} (hw : Region.wanted o (yielded ops a.tmps) = true) (v : Value) (h : ∀ W, S W → (execOp a.eval o).run P W = .ok (.value v) W)
    (hk : wpLex P ops Q S ks rest (a.put o.dst v) w) : wpLex P ops Q S (true :: ks) (o :: rest) a w := ⟨v, .inl ⟨hw, h⟩, hk⟩
/-- A guarded operation that is not wanted. -/
theorem lex_skip {ks : List Bool} {o : Oper} {rest : List Oper} {a : Act} {w : World} (hw : Region.wanted o (yielded ops a.tmps) = false) (hk : wpLex P ops Q S ks rest (a.put o.dst undef) w) :
    wpLex P ops Q S (true :: ks) (o :: rest) a w := ⟨undef, .inr ⟨hw, rfl⟩, hk⟩
theorem lex_held {ks : List Bool} {o : Oper} {rest : List Oper} {a : Act} {w : World} (h : ∀ K : Act → World → Prop, (∀ a' w', S w' → wpLex P ops Q S ks rest a' w' → K a' w') → wpList P ops (Exit.then K Q) [o] a w) :
    wpLex P ops Q S (false :: ks) (o :: rest) a w := h

/-- The first i have come up. -/
def upto (n : Nat) : Nat → Array Bool
  | 0 => Array.replicate n false
  | i + 1 => (upto n i).setIfInBounds i true

theorem upto_size (n : Nat) : ∀ i, (upto n i).size = n
  | 0 => by simp [upto]
  | i + 1 => by simp [upto, upto_size n i]

theorem upto_getD (n k : Nat) : ∀ i, i ≤ k → (upto n i).getD k false = false
  | 0, _ => by unfold upto; exact getD_replicate_false _ _
  | i + 1, h => by
    unfold upto
    rw [getD_set_ne false (by omega)]
    exact upto_getD n k i (by omega)

theorem upto_getD_in (n k : Nat) (hk : k < n) : ∀ i, k < i → (upto n i).getD k false = true
  | 0, h => by omega
  | i + 1, h => by
    unfold upto
    by_cases e : i = k
    · subst e
      have : i < (upto n i).size := by rw [upto_size]; exact hk
      simp [this]
    · exact getD_set_true (upto_getD_in n k hk i (by omega))

/-- The check on the region's text. -/
def lexMixB (md : Region.Mode) (ops : Array Oper) (kinds : List Bool) : Bool :=
  Region.noSelect ops && ops.all (fun o => o.guard.isNone) && decide (kinds.length ≤ ops.size) &&
  (List.range ops.size).all fun i =>
    match kinds[i]? with
    | some true => Region.free md ops (upto ops.size i) i && (Region.ready md ops (upto ops.size i)).contains i && (decide (ops.size ≤ kinds.length) || Region.waitsFor md ops kinds.length i)
    | _ => Region.ready md ops (upto ops.size i) == [i]

theorem Oper.wp_then {o : Oper} {a : Act} {w : World} {K K' : Act → World → Prop} (h : o.wp P a w K (Exit.then K' Q)) : o.wp P a w K Q := by
  unfold Oper.wp at *
  generalize (execOp a.eval o).run P w = r at *
  cases r with
  | ok n w' =>
    cases n <;> simp only [Oper.upon] at h ⊢ <;> exact h
  | halt x w' => cases x <;> simp only [Oper.upon] at h ⊢ <;> exact h

theorem lets_then {K : Act → World → Prop} (h : LetsOut (Exit.then K Q)) : LetsOut Q := h

theorem wpOp_of_list {o : Oper} {i : Nat} {a : Act} {w : World} {K : Act → World → Prop} (hi : ops[i]? = some o) (h : wpList P ops (Exit.then K Q) [o] a w) : wpOp P ops Q i K a w := by
  unfold wpOp
  simp only [hi]
  unfold wpList at h
  split at h
  · rename_i hw
    rw [if_pos hw]
    rcases h with h | ⟨h1, h2⟩
    · refine .inl (Oper.wp_then (K' := K) (Oper.wp_mono (fun a' w' h' => ?_) h))
      exact h'
    · exact .inr ⟨h1, lets_then h2⟩
  · rename_i hw
    rw [if_neg hw]
    exact h

theorem D_of_lex {kinds : List Bool} (hB : lexMixB md ops kinds = true) (hQ : ∀ c a d v w, Q (.panic c) (Act.put a d v) w → Q (.panic c) a w) : ∀ (rest : List Oper) (i : Nat) (ks : List Bool) (a : Act) (w : World),
    i + rest.length = ops.size → (∀ j, rest[j]? = ops[i + j]?) → ks = kinds.drop i → (i ≤ kinds.length → S w) → wpLex P ops Q S ks rest a w → wpAnyD P md ops Q S kinds.length rest.length (upto ops.size i) a w := by
  unfold lexMixB at hB
  simp only [Bool.and_eq_true, decide_eq_true_eq] at hB
  obtain ⟨⟨⟨hsel, hgd⟩, hlen⟩, hall⟩ := hB
  intro rest
  induction rest with
  | nil =>
    intro i ks a w hi _ hks _ h
    have hQn : Q .normal a w := by
      cases ks with
      | nil => exact h
      | cons b r => exact h
    have hr : Region.ready md ops (upto ops.size i) = [] := by
      rw [List.eq_nil_iff_forall_not_mem]
      intro j hj
      obtain ⟨h0, o, ho, _⟩ := mem_ready.1 hj
      have hjl := (Array.getElem?_eq_some_iff.1 ho).1
      simp only [List.length_nil, Nat.add_zero] at hi
      have h1 := upto_getD_in ops.size j hjl i (by omega)
      have hs : j < (upto ops.size i).size := by rw [upto_size]; exact hjl
      simp [hs] at h0 h1
      rw [h0] at h1
      cases h1
    exact ⟨hr, hQn⟩
  | cons o rest ih =>
    intro i ks a w hi hops hks hS h
    have hil : i < ops.size := by simp only [List.length_cons] at hi; omega
    have hoi : ops[i]? = some o := by have := hops 0; simpa using this.symm
    have hgo : o.guard = none := by
      have := Array.all_eq_true_iff_forall_mem.1 hgd o (Array.mem_of_getElem? hoi)
      simpa using this
    have hck := List.all_eq_true.1 hall i (List.mem_range.2 hil)
    have hi' : i + 1 + rest.length = ops.size := by simp only [List.length_cons] at hi; omega
    have hops' : ∀ j, rest[j]? = ops[i + 1 + j]? := fun j => by
      have := hops (j + 1)
      simp only [List.getElem?_cons_succ] at this
      rw [this]
      congr 1
      omega
    have hkd : ∀ b r, ks = b :: r → kinds[i]? = some b ∧ r = kinds.drop (i + 1) := fun b r e => by
      rw [hks] at e
      have h1 : (kinds.drop i)[0]? = some b := by rw [e]; rfl
      have h2 : kinds.drop (i + 1) = (kinds.drop i).drop 1 := by rw [List.drop_drop]
      refine ⟨by simpa using h1, ?_⟩
      rw [h2, e]
      rfl
    cases ks with
    | nil =>
      -- the tail
      have hki : kinds.length ≤ i := by
        have := congrArg List.length hks
        simp at this
        omega
      have hkn : kinds[i]? = none := List.getElem?_eq_none hki
      rw [hkn] at hck
      have hrd : Region.ready md ops (upto ops.size i) = [i] := by simpa using hck
      have h' : wpList P ops Q (o :: rest) a w := h
      refine ⟨fun h0 => (by rw [hrd] at h0; cases h0), fun j hj => ?_⟩
      rw [hrd] at hj
      simp only [List.mem_singleton] at hj
      subst hj
      unfold wpOp
      simp only [hoi]
      unfold wpList at h'
      have hw : Region.wanted o (yielded ops a.tmps) = true := by simp [Region.wanted, hgo]
      rw [if_pos hw] at h' ⊢
      refine h'.imp (Oper.wp_mono fun a' w' h3 => ?_) id
      have hkd' : (kinds.drop (j + 1)) = [] := List.drop_eq_nil_of_le (by omega)
      refine ⟨Or.inl ?_, ih (j + 1) [] a' w' hi' hops' hkd'.symm (fun hle => by omega) h3⟩
      exact upto_getD_in ops.size kinds.length (by omega) (j + 1) (by omega)
    | cons b r =>
      obtain ⟨hkb, hr'⟩ := hkd b r rfl
      have hilt : i < kinds.length := (List.getElem?_eq_some_iff.1 hkb).1
      have hSw := hS (by omega)
      rw [hkb] at hck
      cases b with
      | true =>
        obtain ⟨v, hy, h2⟩ := h
        simp only [Bool.and_eq_true, Bool.or_eq_true, decide_eq_true_eq] at hck
        obtain ⟨⟨hf, hc⟩, hwt⟩ := hck
        have hwait : Waits md ops kinds.length i := by
          rcases hwt with h1 | h1
          · exact Or.inl h1
          · obtain ⟨oj, hoj, e, he, hb, hon⟩ := Region.waitsFor_spec h1
            exact Or.inr ⟨oj, hoj, e, he, hb, hon⟩
        exact wpAnyD_first hoi (Region.noSelect_spec hsel) (fun c a w h => hQ c a _ _ w h) hwait rest.length (upto ops.size i) a w (Region.free_spec hoi hf) (by simpa using hc) hy hSw
          (upto_getD _ _ _ (by omega)) (upto_size _ _) (ih (i + 1) r _ w hi' hops' hr' (fun _ => hSw) h2)
      | false =>
        have hrd : Region.ready md ops (upto ops.size i) = [i] := by simpa using hck
        refine ⟨fun h0 => (by rw [hrd] at h0; cases h0), fun j hj => ?_⟩
        rw [hrd] at hj
        simp only [List.mem_singleton] at hj
        subst hj
        refine wpOp_of_list hoi (h _ fun a' w' hS' h3 => ?_)
        exact ⟨Or.inr hS', ih (j + 1) r a' w' hi' hops' hr' (fun _ => hS') h3⟩

/-- THE LAW. -/
theorem region_lex {id : Nat} {l : List Oper} {a : Act} {w : World} (T : List Nat) (kinds : List Bool) (hm : P.follows .mixedOrders = true) (hB : lexMixB .any l.toArray kinds = true)
    (hQ : ∀ c a d v w, Q (.panic c) (Act.put a d v) w → Q (.panic c) a w)
    (h : ∀ W : World, W.heap = w.heap → Fr [] w W → wpLex P l.toArray Q (Fr T W) kinds l a W) : (Code.region id l.toArray true).wp P Q a w := by
  refine wp_region_any hm (wpAny_of_D (S := Fr T { w with drawn := w.drawn + 1 }) (k := kinds.length) _ _ _ _ ?_)
  have h0 := h { w with drawn := w.drawn + 1 } rfl ⟨rfl, rfl, rfl, Nat.le_refl _, fun _ _ _ => rfl⟩
  have := D_of_lex (md := .any) hB hQ l 0 kinds a { w with drawn := w.drawn + 1 } (by simp) (fun j => by simp) (by simp) (fun _ => Fr.refl _ _) h0
  simpa [upto] using this

end
end Go.Proofs.Ytepimaghpjkibaa

/-
  A region that draws its order, walked once in an order of the walker's own choice.
-/
import Derived.Test.YtepimaghpjkibaaRound
namespace Go.Proofs.Ytepimaghpjkibaa
open Go.RowKit

section
variable {P : Program} {ops : Array Oper} {Q : Exit → Act → World → Prop} {md : Region.Mode} {S : World → Prop}

/-- The check on the region's text; kn: the number of the tail's first operation. -/
def chkO (md : Region.Mode) (ops : Array Oper) (kn : Nat) : List Bool → List Nat → Array Bool → Bool
  | _, [], listed => Region.ready md ops listed == []
  | true :: ks, i :: r, listed => Region.free md ops listed i && (Region.ready md ops listed).contains i && (decide (ops.size ≤ kn) || Region.waitsFor md ops kn i) && !(listed.getD kn false) && chkO md ops kn ks r (listed.setIfInBounds i true)
  | false :: ks, i :: r, listed => (Region.ready md ops listed == [i]) && chkO md ops kn ks r (listed.setIfInBounds i true)
  | [], i :: r, listed => (Region.ready md ops listed == [i]) && (listed.getD kn false || Nat.beq kn i) && chkO md ops kn [] r (listed.setIfInBounds i true)

theorem ready_only {listed : Array Bool} {i j : Nat} (h : (Region.ready md ops listed == [i]) = true) (hj : j ∈ Region.ready md ops listed) : j = i := by
  have e : Region.ready md ops listed = [i] := by simpa using h
  rw [e] at hj
  simpa using hj

theorem ready_ne {listed : Array Bool} {i : Nat} (h : (Region.ready md ops listed == [i]) = true) (h0 : Region.ready md ops listed = []) : False := by
  have e : Region.ready md ops listed = [i] := by simpa using h
  rw [e] at h0
  cases h0

theorem D_of_order {kn : Nat} (hsel : Region.noSelect ops = true) (hQ : ∀ c a d v w, Q (.panic c) (Act.put a d v) w → Q (.panic c) a w) :
    ∀ (ord : List Nat) (rest : List Oper) (ks : List Bool) (listed : Array Bool) (a : Act) (w : World), ord.map (ops[·]?) = rest.map some → chkO md ops kn ks ord listed = true → listed.size = ops.size → (listed.getD kn false = true ∨ S w) →
      wpLex P ops Q S ks rest a w → wpAnyD P md ops Q S kn rest.length listed a w := by
  intro ord
  induction ord with
  | nil =>
    intro rest ks listed a w hr hc _ _ h
    cases rest with
    | cons o r => simp at hr
    | nil =>
      have hready : Region.ready md ops listed = [] := by
        cases ks <;> simpa [chkO] using hc
      refine ⟨hready, ?_⟩
      cases ks with
      | nil => exact h
      | cons b r => cases b <;> exact h
  | cons i ord ih =>
    intro rest ks listed a w hr hc hsz hS h
    cases rest with
    | nil => simp at hr
    | cons o rest =>
      simp only [List.map_cons, List.cons.injEq] at hr
      obtain ⟨hoi, hr⟩ := hr
      have hil : i < ops.size := (Array.getElem?_eq_some_iff.1 hoi).1
      have hsz' : (listed.setIfInBounds i true).size = ops.size := by simpa using hsz
      cases ks with
      | nil =>
        simp only [chkO, Bool.and_eq_true, Bool.or_eq_true] at hc
        obtain ⟨⟨hrd, hkn⟩, hc⟩ := hc
        refine ⟨fun h0 => (ready_ne hrd h0).elim, fun j hj => ?_⟩
        obtain rfl := ready_only hrd hj
        have h' : wpList P ops Q (o :: rest) a w := h
        have hkn' : (listed.setIfInBounds j true).getD kn false = true := by
          rcases hkn with h1 | h1
          · by_cases e : j = kn
            · subst e
              simp [hsz, hil]
            · rw [getD_set_ne false e]; exact h1
          · have e : kn = j := Nat.eq_of_beq_eq_true h1
            subst e
            simp [hsz, hil]
        unfold wpOp
        simp only [hoi]
        unfold wpList at h'
        split
        · rename_i hw
          rw [if_pos hw] at h'
          refine h'.imp (Oper.wp_mono fun a' w' h3 => ?_) id
          exact ⟨Or.inl hkn', ih rest [] _ a' w' hr hc hsz' (Or.inl hkn') h3⟩
        · rename_i hw
          rw [if_neg hw] at h'
          exact ⟨Or.inl hkn', ih rest [] _ _ w hr hc hsz' (Or.inl hkn') h'⟩
      | cons b ks =>
        cases b with
        | true =>
          obtain ⟨v, hy, h2⟩ := h
          simp only [chkO, Bool.and_eq_true, Bool.or_eq_true, decide_eq_true_eq, Bool.not_eq_true'] at hc
          obtain ⟨⟨⟨⟨hf, hcon⟩, hwt⟩, hkn⟩, hc⟩ := hc
          have hSw : S w := hS.elim (fun e => by rw [hkn] at e; cases e) id
          have hwait : Waits md ops kn i := by
            rcases hwt with h1 | h1
            · exact Or.inl h1
            · obtain ⟨oj, hoj, e, he, hb, hon⟩ := Region.waitsFor_spec h1
              exact Or.inr ⟨oj, hoj, e, he, hb, hon⟩
          exact wpAnyD_first hoi (Region.noSelect_spec hsel) (fun c a w h => hQ c a _ _ w h) hwait rest.length listed a w (Region.free_spec hoi hf) (by simpa using hcon) hy hSw hkn hsz
            (ih rest ks _ _ w hr hc hsz' (Or.inr hSw) h2)
        | false =>
          simp only [chkO, Bool.and_eq_true] at hc
          obtain ⟨hrd, hc⟩ := hc
          refine ⟨fun h0 => (ready_ne hrd h0).elim, fun j hj => ?_⟩
          obtain rfl := ready_only hrd hj
          refine wpOp_of_list hoi (h _ fun a' w' hS' h3 => ?_)
          exact ⟨Or.inr hS', ih rest ks _ a' w' hr hc hsz' (Or.inr hS') h3⟩

def orderB (ops : Array Oper) (kn : Nat) (kinds : List Bool) (ord : List Nat) : Bool :=
  Region.noSelect ops && Nat.beq ord.length ops.size && chkO .any ops kn kinds ord (Array.replicate ops.size false)

theorem any_order {l rest : List Oper} {a : Act} {w : World} (T : List Nat) (kn : Nat) (kinds : List Bool) (ord : List Nat) (hB : orderB l.toArray kn kinds ord = true) (hr : ord.map (l.toArray[·]?) = rest.map some)
    (hQ : ∀ c a d v w, Q (.panic c) (Act.put a d v) w → Q (.panic c) a w)
    (h : ∀ W : World, W.heap = w.heap → Fr [] w W → wpLex P l.toArray Q (Fr T W) kinds rest a W) : wpAny P .any l.toArray Q l.toArray.size (Array.replicate l.toArray.size false) a { w with drawn := w.drawn + 1 } := by
  unfold orderB at hB
  simp only [Bool.and_eq_true] at hB
  obtain ⟨⟨hsel, hlen⟩, hc⟩ := hB
  have h0 := h { w with drawn := w.drawn + 1 } rfl ⟨rfl, rfl, rfl, Nat.le_refl _, fun _ _ _ => rfl⟩
  have hl : rest.length = l.toArray.size := by
    have h1 := congrArg List.length hr
    simp only [List.length_map] at h1
    rw [← h1]
    exact Nat.eq_of_beq_eq_true hlen
  have := D_of_order (md := .any) (S := Fr T { w with drawn := w.drawn + 1 }) (kn := kn) hsel hQ ord rest kinds (Array.replicate l.toArray.size false) a { w with drawn := w.drawn + 1 } hr hc (by simp) (Or.inr (Fr.refl _ _)) h0
  rw [hl] at this
  exact wpAny_of_D _ _ _ _ this

theorem region_order {id : Nat} {l rest : List Oper} {a : Act} {w : World} (T : List Nat) (kn : Nat) (kinds : List Bool) (ord : List Nat) (hm : P.follows .mixedOrders = true) (hB : orderB l.toArray kn kinds ord = true)
    (hr : ord.map (l.toArray[·]?) = rest.map some) (hQ : ∀ c a d v w, Q (.panic c) (Act.put a d v) w → Q (.panic c) a w)
    (h : ∀ W : World, W.heap = w.heap → Fr [] w W → wpLex P l.toArray Q (Fr T W) kinds rest a W) : (Code.region id l.toArray true).wp P Q a w :=
  wp_region_any hm (any_order T kn kinds ord hB hr hQ h)

theorem round_order {r n : Nat} {id : Nat} {l rest : List Oper} {a : Act} {w : World} (hl : ¬ LetsOut Q) (hd : noDefers l = true) (T : List Nat) (kn : Nat) (kinds : List Bool) (ord : List Nat) (hm : P.follows .mixedOrders = true)
    (hB : orderB l.toArray kn kinds ord = true) (hr : ord.map (l.toArray[·]?) = rest.map some) (hQ : ∀ c a d v w, Q (.panic c) (Act.put a d v) w → Q (.panic c) a w)
    (h : ∀ W : World, W.heap = w.heap → Fr [] w W → wpLex P l.toArray Q (Fr T W) kinds rest a W) : (Code.region id l.toArray true).wpIn (Fence.wide.inRound r) n P Q a w :=
  wpIn_region_any hm (any_round hl (fun o ho => noDefers_spec hd o (by simpa using ho)) _ _ _ _ (any_order T kn kinds ord hB hr hQ h))
end
end Go.Proofs.Ytepimaghpjkibaa

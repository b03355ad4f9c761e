/-
  A round of a range over a function: what a plain walk of a region shows holds in the round's fence as well.
-/
import Derived.Test.YtepimaghpjkibaaLex
import Derived.RangeFuncNested
import Derived.RangeFuncBound
import Derived.RangeFuncCalls
import Derived.RangeFuncLeaves
import Derived.OrdersIn
import Derived.TacticsIn
namespace Go.Proofs.Ytepimaghpjkibaa
open Go.RowKit

section
variable {P : Program} {ops : Array Oper} {Q : Exit → Act → World → Prop} {md : Region.Mode} {r n : Nat}

theorem rows_round {row : String} {args : Array Value} {w : World} {R : Value → World → Prop} (h : Rows P row args w R) : RowsIn (Fence.wide.inRound r) n P row args w R :=
  fun c cs _ => let ⟨v, w', q, s⟩ := h c cs; ⟨v, w', q, stepsIn_wide.2 s⟩

theorem calls_round {f : FuncId} {args : Array Value} {w : World} {R : Ending → World → Prop} (h : Calls P f args w R) : CallsIn (Fence.wide.inRound r) n P f args w R :=
  CallsIn.inRound r (callsIn_wide.2 h)

theorem op_round {o : Oper} {a : Act} {w : World} {K : Act → World → Prop} (hd : ∀ c, o.op ≠ .defer c) (h : o.wp P a w K Q) : o.wpIn (Fence.wide.inRound r) n P a w K Q := by
  refine ⟨fun _ _ => trivial, ?_⟩
  rw [Fence.inRound_round, Oper.semAt_some r _ _ hd]
  unfold Oper.wp at h
  generalize (execOp a.eval o).run P w = x at *
  cases x with
  | ok x w' =>
    cases x <;> simp only [Oper.upon, Oper.uponIn] at h ⊢ <;> first | exact h | exact ⟨fun h => (by cases h), calls_round h⟩ | exact ⟨fun h => (by cases h), rows_round h⟩ | exact h.elim
  | halt x w' => cases x <;> simp only [Oper.upon, Oper.uponIn] at h ⊢ <;> exact h

theorem list_round (hl : ¬ LetsOut Q) : ∀ (l : List Oper) (_ : ∀ o ∈ l, ∀ c, o.op ≠ .defer c) (a : Act) (w : World), wpList P ops Q l a w → wpListIn (Fence.wide.inRound r) n P ops Q l a w
  | [], _, _, _, h => h
  | o :: l, hd, a, w, h => by
    unfold wpList at h
    unfold wpListIn
    split
    · rename_i hw
      rw [if_pos hw] at h
      rcases h with h | h
      · exact Oper.wpIn_mono (fun a w h => list_round hl l (fun o ho => hd o (List.mem_cons_of_mem _ ho)) a w h) (op_round (hd o (by simp)) h)
      · exact absurd h.2 hl
    · rename_i hw
      rw [if_neg hw] at h
      exact ⟨fun _ _ => trivial, list_round hl l (fun o ho => hd o (List.mem_cons_of_mem _ ho)) _ w h⟩

theorem wpOp_round (hl : ¬ LetsOut Q) (hd : ∀ o ∈ ops, ∀ c, o.op ≠ .defer c) {i : Nat} {K : Act → World → Prop} {a : Act} {w : World} (h : wpOp P ops Q i K a w) : wpOpIn (Fence.wide.inRound r) n P ops Q i K a w := by
  unfold wpOp at h
  unfold wpOpIn
  split
  · rename_i he
    simpa [he] using h
  · rename_i o he
    simp only [he] at h
    split
    · rename_i hw
      rw [if_pos hw] at h
      rcases h with h | h
      · exact op_round (hd o (Array.mem_of_getElem? he)) h
      · exact absurd h.2 hl
    · rename_i hw
      rw [if_neg hw] at h
      exact ⟨fun _ _ => trivial, h⟩

theorem any_round (hl : ¬ LetsOut Q) (hd : ∀ o ∈ ops, ∀ c, o.op ≠ .defer c) : ∀ (fuel : Nat) (listed : Array Bool) (a : Act) (w : World), wpAny P md ops Q fuel listed a w → wpAnyIn (Fence.wide.inRound r) n P md ops Q fuel listed a w
  | 0, _, _, _, h => h
  | fuel + 1, _, _, _, h => ⟨h.1, fun i hi => wpOpIn_mono (fun a' w' h' => any_round hl hd fuel _ a' w' h') (wpOp_round hl hd (h.2 i hi))⟩

def noDefers (l : List Oper) : Bool := l.all fun o => match o.op with | .defer _ => false | _ => true

theorem noDefers_spec {l : List Oper} (h : noDefers l = true) : ∀ o ∈ l, ∀ c, o.op ≠ .defer c := fun o ho c he => by
  have := List.all_eq_true.1 h o ho
  rw [he] at this
  cases this

/-- A region in the text's order, in a round. -/
theorem round_list {id : Nat} {l : List Oper} {a : Act} {w : World} (hl : ¬ LetsOut Q) (hd : noDefers l = true) (h : (wpList P l.toArray Q l a w)) : (Code.region id l.toArray false).wpIn (Fence.wide.inRound r) n P Q a w :=
  wpIn_region_lit (list_round hl l (noDefers_spec hd) a w h)

/-- A region that draws its order, in a round. -/
theorem round_lex {id : Nat} {l : List Oper} {a : Act} {w : World} (hl : ¬ LetsOut Q) (hd : noDefers l = true) (T : List Nat) (kinds : List Bool) (hm : P.follows .mixedOrders = true) (hB : lexMixB .any l.toArray kinds = true)
    (hQ : ∀ c a d v w, Q (.panic c) (Act.put a d v) w → Q (.panic c) a w)
    (h : ∀ W : World, W.heap = w.heap → Fr [] w W → wpLex P l.toArray Q (Fr T W) kinds l a W) : (Code.region id l.toArray true).wpIn (Fence.wide.inRound r) n P Q a w := by
  refine wpIn_region_any hm (any_round hl (fun o ho => noDefers_spec hd o (by simpa using ho)) _ _ _ _ (wpAny_of_D (S := Fr T { w with drawn := w.drawn + 1 }) (k := kinds.length) _ _ _ _ ?_))
  have h0 := h { w with drawn := w.drawn + 1 } rfl ⟨rfl, rfl, rfl, Nat.le_refl _, fun _ _ _ => rfl⟩
  have := D_of_lex (md := .any) hB hQ l 0 kinds a { w with drawn := w.drawn + 1 } (by simp) (fun j => by simp) (by simp) (fun _ => Fr.refl _ _) h0
  simpa [upto] using this
end
end Go.Proofs.Ytepimaghpjkibaa

/-
  'asks' of a book that is not there.
-/
import Derived.Test.YtepimaghpjkibaaNones
import Derived.Test.YtepimaghpjkibaaKept
namespace Go.Proofs.Ytepimaghpjkibaa
open Go.RowKit

/-- The cells of a call. -/
def opCells (kind on book : Int) (m : Nat) (r : Row) : List Value := .int .i64 kind :: .int .i64 on :: .int .i64 book :: .int .u32 (m : Int) :: rowCells r
abbrev opV (kind on book : Int) (m : Nat) (r : Row) : Value := .agg (opCells kind on book m r).toArray

/-- A call's cells in a block. -/
structure OpAt (w : World) (b : Nat) (kind : Int) (m : Nat) (r : Row) : Prop where
  c0 : w.cell? ⟨b, 0, none⟩ = some (.int .i64 kind)
  c3 : w.cell? ⟨b, 3, none⟩ = some (.int .u32 (m : Int))
  row : w.rangeAt b 4 (rowCells r)

theorem OpAt.new (w : World) (t : TypeId) (kind on book : Int) (m : Nat) (r : Row) : OpAt (w.alloc (.cells (opCells kind on book m r).toArray t)) w.heap.size kind m r := by
  have hb := heap_alloc_new w (.cells (opCells kind on book m r).toArray t)
  refine ⟨by rw [cell_of_row _ _ 0 _ _ _ hb]; rfl, by rw [cell_of_row _ _ 3 _ _ _ hb]; rfl, fun j v hj => ?_⟩
  rw [cell_of_row _ _ _ _ _ _ hb, Nat.add_comm]
  simpa [opCells] using hj

theorem OpAt.fr {S : List Nat} {w w' : World} {b : Nat} {kind : Int} {m : Nat} {r : Row} (h : OpAt w b kind m r) (hf : Fr S w w') (hS : b ∉ S) : OpAt w' b kind m r :=
  ⟨hf.cell h.c0 hS, hf.cell h.c3 hS, range_fr h.row hf hS⟩

/-- What the keeping of lists leaves. -/
structure KeptTo (w w' : World) (K K' : KeptD) (k : Nat) : Prop where
  at_ : KeptAt w' K'
  eb : K'.b = K.b
  foot : ∀ c ∈ K'.foot, c ∈ K.foot ∨ w.heap.size ≤ c
  n : K'.n ≤ K.n + k
  is : K'.is.length ≤ K.is.length + k
  ms : K'.ms.length ≤ K.ms.length + k
  fr : Fr K.foot w w'

theorem KeptAt.lt {w : World} {K : KeptD} (h : KeptAt w K) : ∀ c ∈ K.foot, c < w.heap.size := by
  intro c hc
  simp only [KeptD.foot, List.mem_cons, List.mem_append, Option.mem_toList] at hc
  rcases hc with rfl | hc | hc
  · exact (Array.getElem?_eq_some_iff.1 h.hb).1
  · exact (h.oi.lt c hc).2
  · exact (h.om.lt c hc).2

theorem KeptAt.fr {S : List Nat} {w w' : World} {K : KeptD} (h : KeptAt w K) (hf : Fr S w w') (hS : ∀ c ∈ K.foot, c ∉ S) : KeptAt w' K :=
  ⟨hf.heap h.hb (hS _ (by simp [KeptD.foot])), hf.ownsRow h.oi (fun k hk => hS k (by simp [KeptD.foot, hk])), hf.ownsRow h.om (fun k hk => hS k (by simp [KeptD.foot, hk])), h.ap⟩

theorem KeptTo.of_fr {w w' : World} {K : KeptD} (h : KeptAt w K) (hf : Fr [] w w') : KeptTo w w' K K 0 :=
  ⟨h.fr hf (by simp), rfl, fun c hc => Or.inl hc, Nat.le_refl _, Nat.le_refl _, Nat.le_refl _, hf.mono (by simp)⟩

theorem KeptTo.trans {w w1 w2 : World} {K K1 K2 : KeptD} {a b : Nat} (h : KeptTo w w1 K K1 a) (k : KeptTo w1 w2 K1 K2 b) : KeptTo w w2 K K2 (a + b) where
  at_ := k.at_
  eb := k.eb.trans h.eb
  foot := fun c hc => (k.foot c hc).elim (h.foot c) (fun hle => Or.inr (Nat.le_trans h.fr.size hle))
  n := by have := h.n; have := k.n; omega
  is := by have := h.is; have := k.is; omega
  ms := by have := h.ms; have := k.ms; omega
  fr := h.fr.trans k.fr h.foot

theorem keep_int' {w : World} {K : KeptD} (h : KeptAt w K) (a : Option Addr) (l c : Nat) (hb : (K.is.length + 1) * 56 ≤ 140737488355328) (hn : K.n + 1 ≤ 140737488355328) :
    Calls Try.prog 31 #[.pointer (some ⟨K.b, 0, none⟩), .slice a l c] w fun e w' => e = .returned (.tuple #[]) ∧ ∃ K', KeptTo w w' K K' 1 :=
  (keep_int h a l c hb hn).mono fun e w' ⟨v', he, h1, h2, h3⟩ => ⟨he, _, h1, rfl, fun x hx => by
    simp only [KeptD.foot, List.mem_cons, List.mem_append, Option.mem_toList] at hx ⊢
    rcases hx with e | hx | hx
    · exact Or.inl (Or.inl e)
    · exact (h2 x hx).imp (fun h => Or.inr (Or.inl h)) id
    · exact Or.inl (Or.inr (Or.inr hx)), Nat.le_refl _, by simp, by simp, h3.mono (fun y hy => by simp only [KeptD.foot, List.mem_cons, List.mem_append] at hy ⊢; exact hy.imp id Or.inl)⟩

theorem keep_mask' {w : World} {K : KeptD} (h : KeptAt w K) (a : Option Addr) (l c : Nat) (hb : (K.ms.length + 1) * 56 ≤ 140737488355328) (hn : K.n + 1 ≤ 140737488355328) :
    Calls Try.prog 35 #[.pointer (some ⟨K.b, 0, none⟩), .slice a l c] w fun e w' => e = .returned (.tuple #[]) ∧ ∃ K', KeptTo w w' K K' 1 :=
  (keep_mask h a l c hb hn).mono fun e w' ⟨v', he, h1, h2, h3⟩ => ⟨he, _, h1, rfl, fun x hx => by
    simp only [KeptD.foot, List.mem_cons, List.mem_append, Option.mem_toList] at hx ⊢
    rcases hx with e | hx | hx
    · exact Or.inl (Or.inl e)
    · exact Or.inl (Or.inr (Or.inl hx))
    · exact (h2 x hx).imp (fun h => Or.inr (Or.inr h)) id, Nat.le_refl _, by simp, by simp, h3.mono (fun y hy => by simp only [KeptD.foot, List.mem_cons, List.mem_append] at hy ⊢; exact hy.imp id Or.inr)⟩

set_option maxRecDepth 100000 in
set_option maxHeartbeats 400000 in
theorem same_masks_nil (a1 a2 : Option Addr) {c1 c2 : Nat} (w : World) : Calls Try.prog 22 #[.slice a1 0 c1, .slice a2 0 c2] w fun e w' => e = .returned (.bool true) ∧ w = w' := by
  go_enter Try.func22, Try.ntmps22
  go_wp2_with fail
  refine wp_loop_rounds 1 ?_
  rw [rounds_succ]
  go_wp2_with fail
  go_ret
  exact ⟨rfl, rfl⟩

theorem region_seen {P : Program} {Q : Exit → Act → World → Prop} {id : Nat} {a : Act} {w : World} {o0 o1 o2 o3 o4 o5 o6 o7 o8 o9 : Oper} (T : List Nat) (kn : Nat) (kinds : List Bool) (hm : P.follows .mixedOrders = true)
    (hB : orderB [o0, o1, o2, o3, o4, o5, o6, o7, o8, o9].toArray kn kinds [0, 1, 2, 4, 5, 6, 3, 7, 8, 9] = true) (hQ : ∀ c a d v w, Q (.panic c) (Act.put a d v) w → Q (.panic c) a w)
    (h : ∀ W : World, W.heap = w.heap → Fr [] w W → wpLex P [o0, o1, o2, o3, o4, o5, o6, o7, o8, o9].toArray Q (Fr T W) kinds [o0, o1, o2, o4, o5, o6, o3, o7, o8, o9] a W) : (Code.region id [o0, o1, o2, o3, o4, o5, o6, o7, o8, o9].toArray true).wp P Q a w :=
  region_order T kn kinds [0, 1, 2, 4, 5, 6, 3, 7, 8, 9] hm hB rfl hQ h

/-- What is asked of the kept lists' room. -/
def Room (K : KeptD) (k : Nat) : Prop := K.n + k ≤ 1000000 ∧ K.is.length + k ≤ 1000000 ∧ K.ms.length + k ≤ 1000000

theorem ints_nil (w : World) : IntsAt w (.slice none 0 0) [] := ⟨none, 0, rfl, Nat.le_refl _, Or.inl rfl⟩

section
variable {w : World} {v : Value} {p : Nat} {K : KeptD} {on book : Int} {m : Nat} {r : Row}

set_option maxRecDepth 100000 in
set_option maxHeartbeats 800000 in
theorem asks_none3 (hm : m < 4294967296) (hr : IsRow r) (h : NoBook w v) (hw : NoWant w p) (hk : KeptAt w K) (hrm : Room K 2) :
    Calls Try.prog 16 #[v, .pointer (some ⟨p, 0, none⟩), .slice none 0 0, opV 3 on book m r, .pointer (some ⟨K.b, 0, none⟩)] w fun e w' => e = .returned (.bool true) ∧ ∃ K', KeptTo w w' K K' 2 := by
  have op0 := OpAt.new w 47 3 on book m r
  have hF0 : Fr [] w (w.alloc (.cells (opCells 3 on book m r).toArray 47)) := (Fr.refl _ _).alloc _
  have hm' := Lib.hid hm
  have hrm' := Lib.hid hrm
  have h' := Lib.hid h
  have hw' := Lib.hid hw
  have hk' := Lib.hid hk
  clear hm hrm h hw hk
  have o3 := op0.c3
  have oR := op0.row
  have a0 : (opCells 3 on book m r).toArray[0]? = some (.int .i64 3) := rfl
  have a3 : (opCells 3 on book m r).toArray[3]? = some (.int .u32 (m : Int)) := rfl
  go_enter Try.func16, Try.ntmps16
  go_wp2_with (first | (refine row_load rfl _ rfl w.heap.size 4 rfl r hr oR ?_))
  clear a0 a3
  refine (Look_none (h'.out.fr hF0 (by simp))).mono ?_
  rintro e w1 ⟨rfl, hB1⟩
  have hF1 := hF0.trans' (Below.fr hB1 [])
  have op1 := op0.fr (Below.fr hB1 []) (by simp)
  clear o3 oR
  have o3 := op1.c3
  have oR := op1.row
  go_wp2_with (first | (refine row_load rfl _ rfl w.heap.size 4 rfl r hr oR ?_))
  refine (want_Look_none (hw'.out.fr hF1 (by simp)) _).mono ?_
  rintro e w2 ⟨rfl, hB2⟩
  have hF2 := hF1.trans' (Below.fr hB2 [])
  have op2 := op1.fr (Below.fr hB2 []) (by simp)
  clear o3 oR
  have o3 := op2.c3
  have oR := op2.row
  go_wp2_with (first | (refine row_load rfl _ rfl w.heap.size 4 rfl r hr oR ?_))
  refine (Look_none (h'.out.fr hF2 (by simp))).mono ?_
  rintro e w3 ⟨rfl, hB3⟩
  have hF3 := hF2.trans' (Below.fr hB3 [])
  have op3 := op2.fr (Below.fr hB3 []) (by simp)
  clear o3 oR
  have o3 := op3.c3
  have oR := op3.row
  go_wp2_with (first | (refine row_load rfl _ rfl w.heap.size 4 rfl r hr oR ?_))
  refine (same_ints (l := []) (ints_nil _) (ints_nil _) (by simp)).mono ?_
  rintro e w4 ⟨rfl, hB4⟩
  have hF4 := hF3.trans' (Below.fr hB4 [])
  have op4 := op3.fr (Below.fr hB4 []) (by simp)
  clear o3 oR
  have o3 := op4.c3
  have oR := op4.row
  go_wp2_with (first | (refine row_load rfl _ rfl w.heap.size 4 rfl r hr oR ?_))
  refine (same_ints (l := []) (ints_nil _) (ints_nil _) (by simp)).mono ?_
  rintro e w5 ⟨rfl, hB5⟩
  have hF5 := hF4.trans' (Below.fr hB5 [])
  have op5 := op4.fr (Below.fr hB5 []) (by simp)
  clear o3 oR
  have o3 := op5.c3
  have oR := op5.row
  have hk5 := KeptTo.of_fr hk'.out hF5
  clear o3 oR
  go_wp2_with fail
  refine (keep_int' hk5.at_ none 0 0 (by have := hrm'.out.2.1; omega) (by have := hrm'.out.1; omega)).mono ?_
  rintro e w6 ⟨rfl, K6, hk6⟩
  have hk6' := Lib.hid hk6
  have e6 := hk6.eb
  have hi6 := hk6.is
  have hn6 := hk6.n
  go_wp2_with fail
  have hk7 := keep_int' hk6.at_ none 0 0 (by have := hrm'.out.2.1; omega) (by have := hrm'.out.1; omega)
  rw [e6] at hk7
  refine hk7.mono ?_
  rintro e w7 ⟨rfl, K7, hk8⟩
  clear e6 hk7 hi6 hn6 hk6
  go_wp2_with fail
  go_ret
  exact ⟨rfl, K7, (hk5.trans hk6'.out).trans hk8⟩

set_option maxRecDepth 100000 in
set_option maxHeartbeats 800000 in
theorem asks_none4 (hm : m < 4294967296) (hr : IsRow r) (h : NoBook w v) (hw : NoWant w p) (hk : KeptAt w K) (hrm : Room K 2) :
    Calls Try.prog 16 #[v, .pointer (some ⟨p, 0, none⟩), .slice none 0 0, opV 4 on book m r, .pointer (some ⟨K.b, 0, none⟩)] w fun e w' => e = .returned (.bool true) ∧ ∃ K', KeptTo w w' K K' 2 := by
  have op0 := OpAt.new w 47 4 on book m r
  have hF0 : Fr [] w (w.alloc (.cells (opCells 4 on book m r).toArray 47)) := (Fr.refl _ _).alloc _
  have hm' := Lib.hid hm
  have hrm' := Lib.hid hrm
  have h' := Lib.hid h
  have hw' := Lib.hid hw
  have hk' := Lib.hid hk
  clear hm hrm h hw hk
  have o3 := op0.c3
  have oR := op0.row
  have a0 : (opCells 4 on book m r).toArray[0]? = some (.int .i64 4) := rfl
  have a3 : (opCells 4 on book m r).toArray[3]? = some (.int .u32 (m : Int)) := rfl
  go_enter Try.func16, Try.ntmps16
  go_wp2_with (first | (refine row_load rfl _ rfl w.heap.size 4 rfl r hr oR ?_))
  clear a0 a3
  refine (Count_none (h'.out.fr hF0 (by simp))).mono ?_
  rintro e w1 ⟨rfl, hB1⟩
  have hF1 := hF0.trans' (Below.fr hB1 [])
  have op1 := op0.fr (Below.fr hB1 []) (by simp)
  clear o3 oR
  have o3 := op1.c3
  have oR := op1.row
  go_wp2_with (first | (refine row_load rfl _ rfl w.heap.size 4 rfl r hr oR ?_))
  refine (want_Count_none (hw'.out.fr hF1 (by simp)) _).mono ?_
  rintro e w2 ⟨rfl, hB2⟩
  have hF2 := hF1.trans' (Below.fr hB2 [])
  have op2 := op1.fr (Below.fr hB2 []) (by simp)
  clear o3 oR
  have o3 := op2.c3
  have oR := op2.row
  go_wp2_with fail
  go_ret
  have hk5 := KeptTo.of_fr hk'.out hF2
  exact ⟨rfl, K, hk5.at_, hk5.eb, hk5.foot, by omega, by omega, by omega, hk5.fr⟩

set_option maxRecDepth 100000 in
set_option maxHeartbeats 800000 in
theorem asks_none5 (hm : m < 4294967296) (h : NoBook w v) (hw : NoWant w p) (hk : KeptAt w K) (hrm : Room K 2) :
    Calls Try.prog 16 #[v, .pointer (some ⟨p, 0, none⟩), .slice none 0 0, opV 5 on book m r, .pointer (some ⟨K.b, 0, none⟩)] w fun e w' => e = .returned (.bool true) ∧ ∃ K', KeptTo w w' K K' 2 := by
  have op0 := OpAt.new w 47 5 on book m r
  have hF0 : Fr [] w (w.alloc (.cells (opCells 5 on book m r).toArray 47)) := (Fr.refl _ _).alloc _
  have hm' := Lib.hid hm
  have hrm' := Lib.hid hrm
  have h' := Lib.hid h
  have hw' := Lib.hid hw
  have hk' := Lib.hid hk
  clear hm hrm h hw hk
  have o3 := op0.c3
  have oR := op0.row
  have a0 : (opCells 5 on book m r).toArray[0]? = some (.int .i64 5) := rfl
  have a3 : (opCells 5 on book m r).toArray[3]? = some (.int .u32 (m : Int)) := rfl
  go_enter Try.func16, Try.ntmps16
  go_wp2_with fail
  clear a0 a3
  refine (Distinct_none (h'.out.fr hF0 (by simp))).mono ?_
  rintro e w1 ⟨rfl, hB1⟩
  have hF1 := hF0.trans' (Below.fr hB1 [])
  have op1 := op0.fr (Below.fr hB1 []) (by simp)
  clear o3 oR
  have o3 := op1.c3
  have oR := op1.row
  go_wp2_with fail
  refine (want_Distinct_none (hw'.out.fr hF1 (by simp)) _).mono ?_
  rintro e w2 ⟨rfl, rfl⟩
  go_wp2_with fail
  go_ret
  have hk5 := KeptTo.of_fr hk'.out hF1
  exact ⟨rfl, K, hk5.at_, hk5.eb, hk5.foot, by omega, by omega, by omega, hk5.fr⟩

set_option maxRecDepth 100000 in
set_option maxHeartbeats 800000 in
theorem asks_none6 (hm : m < 4294967296) (h : NoBook w v) (hw : NoWant w p) (hk : KeptAt w K) (hrm : Room K 2) :
    Calls Try.prog 16 #[v, .pointer (some ⟨p, 0, none⟩), .slice none 0 0, opV 6 on book m r, .pointer (some ⟨K.b, 0, none⟩)] w fun e w' => e = .returned (.bool true) ∧ ∃ K', KeptTo w w' K K' 2 := by
  have op0 := OpAt.new w 47 6 on book m r
  have hF0 : Fr [] w (w.alloc (.cells (opCells 6 on book m r).toArray 47)) := (Fr.refl _ _).alloc _
  have hm' := Lib.hid hm
  have hrm' := Lib.hid hrm
  have h' := Lib.hid h
  have hw' := Lib.hid hw
  have hk' := Lib.hid hk
  clear hm hrm h hw hk
  have o3 := op0.c3
  have oR := op0.row
  have a0 : (opCells 6 on book m r).toArray[0]? = some (.int .i64 6) := rfl
  have a3 : (opCells 6 on book m r).toArray[3]? = some (.int .u32 (m : Int)) := rfl
  go_enter Try.func16, Try.ntmps16
  go_wp2_with fail
  clear a0 a3
  refine (Masks_none (h'.out.fr hF0 (by simp))).mono ?_
  rintro e w1 ⟨v1, rfl, hv1, hB1⟩
  have hF1 := hF0.trans' (Below.fr hB1 [])
  have op1 := op0.fr (Below.fr hB1 []) (by simp)
  clear o3 oR
  have o3 := op1.c3
  have oR := op1.row
  obtain ⟨a1, c1, rfl⟩ := owns_slice hv1
  go_wp2_with fail
  refine (Masks_none (h'.out.fr hF1 (by simp))).mono ?_
  rintro e w2 ⟨v2, rfl, hv2, hB2⟩
  have hF2 := hF1.trans' (Below.fr hB2 [])
  have op2 := op1.fr (Below.fr hB2 []) (by simp)
  clear o3 oR
  have o3 := op2.c3
  have oR := op2.row
  obtain ⟨a2, c2, rfl⟩ := owns_slice hv2
  go_wp2_with fail
  refine (want_Masks_none (hw'.out.fr hF2 (by simp))).mono ?_
  rintro e w3 ⟨rfl, rfl⟩
  clear o3 oR
  go_wp2_with (go_at_call 22; refine (same_masks_nil _ _ _).mono ?_; rintro e w3 ⟨rfl, rfl⟩)
  have hk5 := KeptTo.of_fr hk'.out hF2
  refine (keep_mask' hk5.at_ a1 0 c1 (by have := hrm'.out.2.2; omega) (by have := hrm'.out.1; omega)).mono ?_
  rintro e w6 ⟨rfl, K6, hk6⟩
  have hk6' := Lib.hid hk6
  have e6 := hk6.eb
  have hi6 := hk6.ms
  have hn6 := hk6.n
  go_wp2_with fail
  have hk7 := keep_mask' hk6.at_ a2 0 c2 (by have := hrm'.out.2.2; omega) (by have := hrm'.out.1; omega)
  rw [e6] at hk7
  refine hk7.mono ?_
  rintro e w7 ⟨rfl, K7, hk8⟩
  clear e6 hk7 hi6 hn6 hk6
  go_wp2_with fail
  go_ret
  exact ⟨rfl, K7, (hk5.trans hk6'.out).trans hk8⟩

set_option maxRecDepth 100000 in
set_option maxHeartbeats 800000 in
theorem asks_none7 (hm : m < 4294967296) (h : NoBook w v) (hw : NoWant w p) (hk : KeptAt w K) (hrm : Room K 2) :
    Calls Try.prog 16 #[v, .pointer (some ⟨p, 0, none⟩), .slice none 0 0, opV 7 on book m r, .pointer (some ⟨K.b, 0, none⟩)] w fun e w' => e = .returned (.bool true) ∧ ∃ K', KeptTo w w' K K' 2 := by
  have op0 := OpAt.new w 47 7 on book m r
  have hF0 : Fr [] w (w.alloc (.cells (opCells 7 on book m r).toArray 47)) := (Fr.refl _ _).alloc _
  have hm' := Lib.hid hm
  have hrm' := Lib.hid hrm
  have h' := Lib.hid h
  have hw' := Lib.hid hw
  have hk' := Lib.hid hk
  clear hm hrm h hw hk
  have o3 := op0.c3
  have oR := op0.row
  have a0 : (opCells 7 on book m r).toArray[0]? = some (.int .i64 7) := rfl
  have a3 : (opCells 7 on book m r).toArray[3]? = some (.int .u32 (m : Int)) := rfl
  go_enter Try.func16, Try.ntmps16
  go_wp2_with fail
  refine region_seen [] 9 [true, true, true, true, true, true, false, false, true] (by kernel_rfl) (by kernel_rfl) (by intro c a d v w h; cases d <;> exact h) ?_
  intro W1 hWh hF1
  have g3 : ∀ W', Fr [] W1 W' → W'.cell? ⟨w.heap.size, 3, none⟩ = some (.int .u32 (m : Int)) := fun W' h' => (hF1.trans' h').cell o3 (by simp)
  clear hWh a0 a3 o3 oR
  repeat (refine lex_quiet ?_ (fun W' hW' => ?_) ?_; rotate_left; (go_simp; first | done | rfl); (try simp only [Act.put, List.setIfInBounds_toArray, List.set_cons_succ, List.set_cons_zero]))
  refine lex_held (fun K9 hK9 => ?_)
  go_wp2_with fail
  refine (Seen_none hm'.out (h'.out.fr (hF0.trans' hF1) (by simp))).mono ?_
  rintro e w2 ⟨rfl, rfl⟩
  go_wp2_with fail
  refine hK9 _ _ (Fr.refl _ _) ?_
  try simp only [Act.put, List.setIfInBounds_toArray, List.set_cons_succ, List.set_cons_zero]
  clear hK9
  refine lex_held (fun K9 hK9 => ?_)
  go_wp2_with fail
  refine (want_Seen_none (hw'.out.fr (hF0.trans' hF1) (by simp))).mono ?_
  rintro e w2 ⟨rfl, rfl⟩
  go_wp2_with fail
  refine hK9 _ _ (Fr.refl _ _) ?_
  try simp only [Act.put, List.setIfInBounds_toArray, List.set_cons_succ, List.set_cons_zero]
  clear hK9
  repeat (refine lex_quiet ?_ (fun W' hW' => ?_) ?_; rotate_left; (go_simp; first | done | rfl); (try simp only [Act.put, List.setIfInBounds_toArray, List.set_cons_succ, List.set_cons_zero]))
  refine lex_tail ?_
  go_wp2_with fail
  go_ret
  have hk5 := KeptTo.of_fr hk'.out (hF0.trans' hF1)
  exact ⟨rfl, K, hk5.at_, hk5.eb, hk5.foot, by omega, by omega, by omega, hk5.fr⟩

set_option maxRecDepth 100000 in
set_option maxHeartbeats 800000 in
theorem asks_none_rest {kind : Int} (n3 : kind ≠ 3) (n4 : kind ≠ 4) (n5 : kind ≠ 5) (n6 : kind ≠ 6) (n7 : kind ≠ 7) (hm : m < 4294967296) (h : NoBook w v) (hw : NoWant w p) (hk : KeptAt w K) (hrm : Room K 2) :
    Calls Try.prog 16 #[v, .pointer (some ⟨p, 0, none⟩), .slice none 0 0, opV kind on book m r, .pointer (some ⟨K.b, 0, none⟩)] w fun e w' => e = .returned (.bool true) ∧ ∃ K', KeptTo w w' K K' 2 := by
  have op0 := OpAt.new w 47 kind on book m r
  have hF0 : Fr [] w (w.alloc (.cells (opCells kind on book m r).toArray 47)) := (Fr.refl _ _).alloc _
  have hm' := Lib.hid hm
  have hrm' := Lib.hid hrm
  have h' := Lib.hid h
  have hw' := Lib.hid hw
  have hk' := Lib.hid hk
  clear hm hrm h hw hk
  have o3 := op0.c3
  have oR := op0.row
  have a0 : (opCells kind on book m r).toArray[0]? = some (.int .i64 kind) := rfl
  have a3 : (opCells kind on book m r).toArray[3]? = some (.int .u32 (m : Int)) := rfl
  have b3 : (kind == 3) = false := by simpa using n3
  have b4 : (kind == 4) = false := by simpa using n4
  have b5 : (kind == 5) = false := by simpa using n5
  have b6 : (kind == 6) = false := by simpa using n6
  have b7 : (kind == 7) = false := by simpa using n7
  clear n3 n4 n5 n6 n7
  go_enter Try.func16, Try.ntmps16
  go_wp2_with fail
  go_ret
  have hk5 := KeptTo.of_fr hk'.out hF0
  exact ⟨rfl, K, hk5.at_, hk5.eb, hk5.foot, by omega, by omega, by omega, hk5.fr⟩

/-- Whatever the call. -/
theorem asks_none {kind : Int} (hm : m < 4294967296) (hr : IsRow r) (h : NoBook w v) (hw : NoWant w p) (hk : KeptAt w K) (hrm : Room K 2) :
    Calls Try.prog 16 #[v, .pointer (some ⟨p, 0, none⟩), .slice none 0 0, opV kind on book m r, .pointer (some ⟨K.b, 0, none⟩)] w fun e w' => e = .returned (.bool true) ∧ ∃ K', KeptTo w w' K K' 2 := by
  by_cases n3 : kind = 3
  · subst n3; exact asks_none3 hm hr h hw hk hrm
  by_cases n4 : kind = 4
  · subst n4; exact asks_none4 hm hr h hw hk hrm
  by_cases n5 : kind = 5
  · subst n5; exact asks_none5 hm h hw hk hrm
  by_cases n6 : kind = 6
  · subst n6; exact asks_none6 hm h hw hk hrm
  by_cases n7 : kind = 7
  · subst n7; exact asks_none7 hm h hw hk hrm
  · exact asks_none_rest n3 n4 n5 n6 n7 hm h hw hk hrm
end
end Go.Proofs.Ytepimaghpjkibaa

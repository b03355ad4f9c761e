/-
  maps.Keys and slices.Collect over a book's map of masks.
-/
import Derived.Test.YtepimaghpjkibaaTell
import Derived.Test.YtepimaghpjkibaaNums
import Derived.RangeFuncStops
import Derived.RangeFuncFrom
import Derived.Sort.MapsRangeIn
import Derived.Laws.IdiomRangeMap
import Derived.Maps.Range
import Derived.Test.YtepimaghpjkibaaLoop
import Derived.RegionIn
namespace Go.Proofs.Ytepimaghpjkibaa
open Go.RowKit Go.Shelf
open Go.Maps (Keyed)
open Go.WideShapes Go.ChangeMaps
attribute [local go_sem] Oper.semAt_some

/-- Whatever an entry's value is, it reads. -/
def anyElem (_ : Value) : Option (DataW Unit × List MemPlace) := some (.nil, [])

theorem wf_mask {m : Nat} (h : m < 4294967296) : (Lit.int .u32 (m : Int)).wf = true := by
  simp [Lit.wf, IntKind.min, IntKind.max, IntKind.signed, IntKind.bits]
  omega

/-- A map of masks, as the kit's word for a map. -/
theorem masks_own {w : World} {b : Nat} {kv : List (Value × Value)} {ms : List Nat} (h : MapIs w b kv) (hkv : kv.map (·.1) = ms.map (fun (m : Nat) => Value.int .u32 (m : Int))) (hlt : ∀ m ∈ ms, m < 4294967296) (hnd : ms.Nodup) (hlen : ms.length ≤ maxLen) :
    ∃ D : DataW Unit, w.ownsMap Try.prog 24 anyElem b ms.length D ∧ Maps.size D = ms.length ∧ ∀ x : Nat, Maps.has D (.int .u32 (x : Int)) = true ↔ x ∈ ms := by
  obtain ⟨es, ck, hb, rfl, hn, hl⟩ := h
  have hk : es.toList.map (·.key) = ms.map (fun (m : Nat) => Value.int .u32 (m : Int)) := by rw [← hkv]; simp [Function.comp_def]
  have hsz : es.size = ms.length := by
    have := congrArg List.length hk
    simpa using this
  have hkey : ∀ x ∈ es.toList, ∃ m : Nat, m ∈ ms ∧ x.key = .int .u32 (m : Int) := fun x hx => by
    have : x.key ∈ es.toList.map (·.key) := List.mem_map.2 ⟨x, hx, rfl⟩
    rw [hk] at this
    obtain ⟨m, hm, e⟩ := List.mem_map.1 this
    exact ⟨m, hm, e.symm⟩
  have hrd : ∀ x ∈ es.toList, ∀ m : Nat, m ∈ ms → x.key = .int .u32 (m : Int) → WideElems.rd Try.prog 24 anyElem x = some (.int .u32 (m : Int), .nil) := fun x hx m hm e => by
    unfold WideElems.rd
    rw [e, Maps.keyOf_int_mk Try.underlying24 (wf_mask (hlt m hm))]
    rfl
  refine ⟨_, ⟨es, ck, hb, ⟨by omega, ⟨hl, hn, ?_⟩, fun x hx => ?_⟩, by omega, rfl⟩, ?_, fun x => ?_⟩
  · rw [hk]
    exact List.pairwise_map.2 (hnd.imp fun hne e => hne (by simp at e; omega))
  · obtain ⟨m, hm, e⟩ := hkey x hx
    exact ⟨_, hrd x hx m hm e⟩
  · rw [Maps.size_eq, (sorted_perm _).length_eq]
    simpa using hsz
  · rw [Maps.has_eq, List.any_eq_true]
    constructor
    · rintro ⟨p, hp, hs⟩
      obtain ⟨y, hy, rfl⟩ := List.mem_map.1 (mem_sorted.1 hp)
      obtain ⟨m, hm, e⟩ := hkey y hy
      rw [WideElems.rg_of (hrd y hy m hm e)] at hs
      simp [Lit.sameKey] at hs
      have : m = x := by omega
      rw [← this]; exact hm
    · intro hx
      have : Value.int .u32 (x : Int) ∈ es.toList.map (·.key) := by rw [hk]; exact List.mem_map.2 ⟨x, hx, rfl⟩
      obtain ⟨y, hy, e⟩ := List.mem_map.1 this
      refine ⟨(.int .u32 (x : Int), .nil), mem_sorted.2 (List.mem_map.2 ⟨y, hy, WideElems.rg_of (hrd y hy x hx e)⟩), by simp [Lit.sameKey]⟩

/-- What has come of a map's keys: no key twice; those that are not left. -/
def Came (D : DataW Unit) (left : Lit → Bool) (ss : List Nat) : Prop := ss.Nodup ∧ ∀ x : Nat, x ∈ ss ↔ (Maps.has D (.int .u32 (x : Int)) = true ∧ left (.int .u32 (x : Int)) = false)

theorem Came.start (D : DataW Unit) : Came D (Maps.has D) [] := ⟨List.nodup_nil, fun x => by cases Maps.has D (.int .u32 (x : Int)) <;> simp⟩

theorem Came.step {D : DataW Unit} {left : Lit → Bool} {ss : List Nat} (h : Came D left ss) {x : Nat} {y : DataW Unit} (hlk : left (.int .u32 (x : Int)) = true) (hat : ∀ zd, D.atKey (.int .u32 (x : Int)) zd = y) :
    Came D (fun z => left z && !z.sameKey (.int .u32 (x : Int))) (ss ++ [x]) := by
  have hhas : Maps.has D (.int .u32 (x : Int)) = true := Maps.has_true_of_atKey hat
  have hnew : x ∉ ss := fun hx => by have := ((h.2 x).1 hx).2; rw [hlk] at this; cases this
  refine ⟨List.nodup_append.2 ⟨h.1, by simp, fun a ha b hb => by simp at hb; subst hb; exact fun e => hnew (e ▸ ha)⟩, fun y => ?_⟩
  by_cases hy : y = x
  · subst hy; simp [hhas, Lit.sameKey]
  · have : ¬ (y : Int) = (x : Int) := by omega
    simp [h.2 y, hy, Lit.sameKey, this]

theorem Came.perm {D : DataW Unit} {left : Lit → Bool} {ss ms : List Nat} (h : Came D left ss) (hl : ∀ kl, left kl = false) (hnd : ms.Nodup) (hm : ∀ x : Nat, Maps.has D (.int .u32 (x : Int)) = true ↔ x ∈ ms) : ss.Perm ms :=
  (List.perm_ext_iff_of_nodup h.1 hnd).2 fun x => by rw [h.2 x, hl, hm]; simp

/-- maps.Keys. -/
theorem maps_Keys (mb : Option Nat) (w : World) : Calls Try.prog 41 #[.map mb] w fun e w' => e = .returned (.func (.func 55) #[] #[.pointer (some ⟨w.heap.size, 0, none⟩)]) ∧ w' = w.alloc (.cells #[.map mb] 94) := by
  go_enter Try.func41, Try.ntmps41
  go_wp2
  go_ret
  exact ⟨rfl, rfl⟩

theorem mask_key_inv {key : Value} {kl : Lit} (h : Go.keyOf Try.prog 24 key = some kl) : ∃ m : Nat, key = .int .u32 (m : Int) ∧ kl = .int .u32 (m : Int) ∧ m < 4294967296 := by
  obtain ⟨x, rfl, rfl, hw⟩ := Maps.keyOf_int_inv Try.underlying24 h
  simp [Lit.wf, IntKind.min, IntKind.max, IntKind.signed, IntKind.bits] at hw
  obtain ⟨m, rfl⟩ := Int.eq_ofNat_of_zero_le hw.1
  exact ⟨m, rfl, rfl, by omega⟩

set_option maxRecDepth 100000 in
set_option maxHeartbeats 1000000 in
/-- The iterator over a map's keys. -/
theorem keys_stops {w : World} {b : Nat} {kv : List (Value × Value)} {ms : List Nat} (h : MapIs w b kv) (hkv : kv.map (·.1) = ms.map (fun (m : Nat) => Value.int .u32 (m : Int))) (hlt : ∀ m ∈ ms, m < 4294967296) (hnd : ms.Nodup) (hlen : ms.length ≤ maxLen)
    (n : Nat) (hn : 1 ≤ n) (Bm : Nat) (hBm : w.cell? ⟨Bm, 0, none⟩ = some (.map (some b))) :
    SeqStopsK Fence.wide n Try.prog 55 #[.pointer (some ⟨Bm, 0, none⟩)] (fun m : Nat => #[.int .u32 (m : Int)]) KeepsWalks (fun xs => xs.Perm ms) (fun _ => True) ms.length w := by
  intro l J Jx W hW hJ hJx hY h0
  have hBl := World.block_lt_of_cell? w _ hBm
  have hm := (hW.cell (p := ⟨Bm, 0, none⟩) hBl).trans hBm
  obtain ⟨D0, hown, hsz, hhas⟩ := masks_own (h.fr (Below.fr hW []) (by simp)) hkv hlt hnd hlen
  have hhas' := Lib.hid hhas
  have hsz' := Lib.hid hsz
  clear hhas hsz h hkv hlt hBm
  refine callsIn_of_wp Try.func55 rfl trivial ?_ rfl
  simp only [Try.ntmps55, List.size_toArray, List.length_cons, List.length_nil, Nat.reduceAdd, Nat.reduceSub, Array.replicate_succ, Array.replicate_zero, List.push_toArray, List.append_toArray, List.nil_append, List.cons_append]
  gi_wp2_with (first
    | (gi_at_range; refine wpListIn_range_own _ rfl _ 94 rfl 24 114 Try.maskLaw Try.underlying94 _ b ms.length _ rfl hown ?_; intro w0 hrg0 hg0 hs0)
    | gi_in)
  try go_frame
  gi_loopw [3] (fun _ wr => ∃ (left : Lit → Bool) (cnt : Nat) (ss : List Nat), wr.ranges Try.prog 24 anyElem b W.heap.size ms.length D0 left cnt ∧ ss.length + cnt ≤ Maps.size D0 ∧ Came D0 left ss ∧ J ss wr)
    (fun _ wr => wr.rangeLeft b W.heap.size)
  case atStart =>
    exact ⟨_, _, [], hrg0, by simp, Came.start D0, hJ [] W w0 none h0 hg0 (fun r e => by cases e)⟩
  case round =>
    obtain ⟨left, cnt, ss, hrg, hcs, hC, hJs⟩ := hrel
    gi_wp2_with (first
      | (gi_at_next; refine wpListIn_next_ranges _ rfl _ rfl 24 Try.maskLaw anyElem (fun m : Nat => Value.int .u32 (m : Int)) id (fun key kl hk => by obtain ⟨x, hx, _⟩ := mask_key_inv hk; exact ⟨x, hx⟩) (fun v _ _ => ⟨v, rfl⟩) b W.heap.size ms.length _ _ _ rfl hrg ?_ ?_)
      | gi_in)
    · intro hc0 hl0
      gi_wp2
      go_end0
      exact ⟨⟨_, rfl⟩, .inl ⟨ss, hC.perm hl0 hnd hhas'.out, hJs⟩⟩
    · intro x c kl yd yp w2 cnt2 hkey hlk hv hat hrg2 hlt hg2 hs2 hen
      obtain ⟨x', ex, rfl, hx32⟩ := mask_key_inv hkey
      obtain rfl : x = x' := by simp at ex; omega
      have hJ2 : J ss w2 := hJ ss wr w2 (some W.heap.size) hJs hg2 (fun r e => by cases e; exact ⟨Nat.le_refl _, hrg.iter_walk⟩)
      obtain ⟨fn, tmps, assign, body, hy, hR⟩ := hY ss x w2 hJ2 (by have := hsz'.out; omega)
      clear hs2 ex
      gi_wp2
      refine hR.mono ?_
      have hC2 := hC.step hlk hat
      rintro e W3 (⟨rfl, hJ3, hk3⟩ | ⟨rfl, hJx3⟩)
      · gi_wp2
        have hrg3 := hrg2.of_walks hk3
        go_roundw
        case rel => exact ⟨_, cnt2, ss ++ [x], hrg3, by simp; omega, hC2, hJ3⟩
        case measure => rw [hrg3.left_eq, hrg.left_eq]; exact hlt
      · gi_wp2
        refine bodyPost_ret (results_none rfl _ _ _) rfl ?_
        exact ⟨⟨_, rfl⟩, .inr ⟨ss ++ [x], trivial, hJx3⟩⟩

set_option maxRecDepth 100000 in
set_option maxHeartbeats 400000 in
/-- .. over no map. -/
theorem keys_stops_nil {w : World} (n Bm : Nat) (hBm : w.cell? ⟨Bm, 0, none⟩ = some (.map none)) :
    SeqStopsK Fence.wide n Try.prog 55 #[.pointer (some ⟨Bm, 0, none⟩)] (fun m : Nat => #[.int .u32 (m : Int)]) KeepsWalks (fun xs => xs.Perm []) (fun _ => True) 0 w := by
  intro l J Jx W hW hJ hJx hY h0
  have hm := (hW.cell (p := ⟨Bm, 0, none⟩) (World.block_lt_of_cell? w _ hBm)).trans hBm
  clear hBm
  refine callsIn_of_wp Try.func55 rfl trivial ?_ rfl
  simp only [Try.ntmps55, List.size_toArray, List.length_cons, List.length_nil, Nat.reduceAdd, Nat.reduceSub, Array.replicate_succ, Array.replicate_zero, List.push_toArray, List.append_toArray, List.nil_append, List.cons_append]
  have hrg := run_range_nilMap (P := Try.prog) W 94 24 114 Try.underlying94
  have hnx : ∀ ty, (Instr.next (.pointer (some ⟨W.heap.size, 0, none⟩)) false ty).run Try.prog (W.alloc (.mapIter none 0 #[] 0)) = _ := fun ty => run_next_nilMap _ ty 0 0 #[]
  gi_wp2
  refine wpIn_loop_rounds 1 ?_
  rw [roundsIn_succ]
  gi_wp2
  go_end0
  exact ⟨⟨_, rfl⟩, .inl ⟨[], .refl _, hJ [] W _ none h0 (World.grownBy_alloc W _ none) (fun r e => by cases e)⟩⟩
end Go.Proofs.Ytepimaghpjkibaa

/-
  A book in memory ('BkAt'): its index for each mask ('IxAt'), the groups' slices; how they stay where other blocks turn.
-/
import Derived.Test.YtepimaghpjkibaaEntry
import Derived.Test.YtepimaghpjkibaaRel
namespace Go.Proofs.Ytepimaghpjkibaa
open Go.RowKit

structure Grp where
  key : Row
  idx : List Nat
  v : Value

structure Ixr where
  rk : Nat
  km : Nat
  seen : Nat
  gone : Nat
  gs : List Grp

def ints (l : List Nat) : List Value := l.map fun (i : Nat) => Value.int .i64 (i : Int)

def Ixr.kv (x : Ixr) : List (Value × Value) := x.gs.map fun g => (rowV g.key, g.v)
def Ixr.cont (x : Ixr) : Groups := x.gs.map fun g => (g.key, g.idx)
/-- What a round of the call's loop may turn. -/
def Ixr.inner (x : Ixr) : List Nat := x.km :: x.gs.flatMap fun g => g.v.ownBlock.toList
def Ixr.foot (x : Ixr) : List Nat := x.rk :: x.inner

/-- The map of an index and its groups' slices. -/
structure GsAt (w : World) (x : Ixr) : Prop where
  hm : MapB w x.km x.kv
  own : ∀ g ∈ x.gs, w.ownsRow 0 3 1 g.v g.idx.length (ints g.idx)
  ok : ∀ g ∈ x.gs, IsRow g.key
  nd : (x.gs.map (·.key)).Nodup
  ap : ∀ (i j : Nat) (a b : Grp) (c : Nat), x.gs[i]? = some a → x.gs[j]? = some b → a.v.ownBlock = some c → b.v.ownBlock = some c → i = j

structure IxAt (w : World) (x : Ixr) : Prop where
  hk : w.heap[x.rk]? = some (.cells #[.map (some x.km), .int .i64 x.seen, .int .i64 x.gone] 120 (0, 0))
  gs : GsAt w x

structure BkD where
  b : Nat
  m : Nat
  tab : List (Nat × Ixr)

def BkD.kv (B : BkD) : List (Value × Value) := B.tab.map fun p => (.int .u32 (p.1 : Int), .pointer (some ⟨p.2.rk, 0, none⟩))
def BkD.foot (B : BkD) : List Nat := B.b :: B.m :: B.tab.flatMap fun p => p.2.foot

/-- What an index of a mask holds of a relation. -/
structure IxInv (m : Nat) (x : Ixr) (R : RelD) : Prop where
  le : x.gone ≤ R.gone
  same : x.gone = R.gone → x.seen ≤ R.rows.length ∧ x.cont = grp m (R.rows.take x.seen)

structure BkAt (w : World) (B : BkD) (R : RelD) : Prop where
  hb : w.heap[B.b]? = some (.cells #[.pointer (some ⟨R.p, 0, none⟩), .map (some B.m)] 96 (0, 0))
  hm : MapIs w B.m B.kv
  ix : ∀ p ∈ B.tab, IxAt w p.2
  nd : (B.tab.map (·.1)).Nodup
  lt : ∀ p ∈ B.tab, p.1 < 4294967296
  apI : ∀ (i j : Nat) (p q : Nat × Ixr) (c : Nat), B.tab[i]? = some p → B.tab[j]? = some q → c ∈ p.2.foot → c ∈ q.2.foot → i = j
  apB : ∀ p ∈ B.tab, ∀ c ∈ p.2.foot, c ≠ B.b ∧ c ≠ B.m
  apR : ∀ c ∈ B.foot, c ∉ R.foot
  inv : ∀ p ∈ B.tab, IxInv p.1 p.2 R

theorem mem_inner {x : Ixr} {c : Nat} : c ∈ x.inner ↔ c = x.km ∨ ∃ g ∈ x.gs, g.v.ownBlock = some c := by
  simp [Ixr.inner, List.mem_flatMap]

theorem mem_foot {x : Ixr} {c : Nat} : c ∈ x.foot ↔ c = x.rk ∨ c ∈ x.inner := by simp [Ixr.foot]

theorem mem_bfoot {B : BkD} {c : Nat} : c ∈ B.foot ↔ c = B.b ∨ c = B.m ∨ ∃ p ∈ B.tab, c ∈ p.2.foot := by
  simp only [BkD.foot, List.mem_cons, List.mem_flatMap]

theorem GsAt.lt {w : World} {x : Ixr} (h : GsAt w x) : ∀ c ∈ x.inner, c < w.heap.size := by
  intro c hc
  rcases mem_inner.1 hc with rfl | ⟨g, hg, e⟩
  · exact h.hm.lt
  · exact ((h.own g hg).lt c e).2

theorem IxAt.lt {w : World} {x : Ixr} (h : IxAt w x) : ∀ c ∈ x.foot, c < w.heap.size := by
  intro c hc
  rcases mem_foot.1 hc with rfl | hc
  · exact (Array.getElem?_eq_some_iff.1 h.hk).1
  · exact h.gs.lt c hc

theorem BkAt.flt {w : World} {B : BkD} {R : RelD} (h : BkAt w B R) : ∀ c ∈ B.foot, c < w.heap.size := by
  intro c hc
  rcases mem_bfoot.1 hc with rfl | rfl | ⟨p, hp, hc⟩
  · exact (Array.getElem?_eq_some_iff.1 h.hb).1
  · exact h.hm.lt
  · exact (h.ix p hp).lt c hc

theorem GsAt.fr {S : List Nat} {w w' : World} {x : Ixr} (h : GsAt w x) (hf : Fr S w w') (hS : ∀ c ∈ x.inner, c ∉ S) : GsAt w' x where
  hm := h.hm.fr hf (hS _ (mem_inner.2 (Or.inl rfl)))
  own := fun g hg => hf.ownsRow (h.own g hg) fun k hk => hS k (mem_inner.2 (Or.inr ⟨g, hg, hk⟩))
  ok := h.ok
  nd := h.nd
  ap := h.ap

theorem IxAt.fr {S : List Nat} {w w' : World} {x : Ixr} (h : IxAt w x) (hf : Fr S w w') (hS : ∀ c ∈ x.foot, c ∉ S) : IxAt w' x where
  hk := hf.heap h.hk (hS _ (mem_foot.2 (Or.inl rfl)))
  gs := h.gs.fr hf fun c hc => hS c (mem_foot.2 (Or.inr hc))

theorem BkAt.fr {S : List Nat} {w w' : World} {B : BkD} {R : RelD} (h : BkAt w B R) (hf : Fr S w w') (hS : ∀ c ∈ B.foot, c ∉ S) : BkAt w' B R where
  hb := hf.heap h.hb (hS _ (mem_bfoot.2 (Or.inl rfl)))
  hm := h.hm.fr hf (hS _ (mem_bfoot.2 (Or.inr (Or.inl rfl))))
  ix := fun p hp => (h.ix p hp).fr hf fun c hc => hS c (mem_bfoot.2 (Or.inr (Or.inr ⟨p, hp, hc⟩)))
  nd := h.nd
  lt := h.lt
  apI := h.apI
  apB := h.apB
  apR := h.apR
  inv := h.inv

theorem BkAt.below {w w' : World} {B : BkD} {R : RelD} (h : BkAt w B R) (hf : Below w.heap.size w w') : BkAt w' B R :=
  h.fr (Below.fr hf []) (fun _ _ => List.not_mem_nil)

/-- Another relation under it, of which its indexes hold as much. -/
theorem BkAt.rel {w : World} {B : BkD} {R R' : RelD} (h : BkAt w B R) (hp : R'.p = R.p) (hap : ∀ c ∈ B.foot, c ∉ R'.foot) (hinv : ∀ p ∈ B.tab, IxInv p.1 p.2 R') : BkAt w B R' where
  hb := by rw [hp]; exact h.hb
  hm := h.hm
  ix := h.ix
  nd := h.nd
  lt := h.lt
  apI := h.apI
  apB := h.apB
  apR := hap
  inv := hinv

/-- A row more. -/
theorem IxInv.more {m : Nat} {x : Ixr} {R R' : RelD} (h : IxInv m x R) (hg : R'.gone = R.gone) {l : List Row} (hr : R'.rows = R.rows ++ l) : IxInv m x R' where
  le := by rw [hg]; exact h.le
  same := fun e => by
    obtain ⟨h1, h2⟩ := h.same (by rw [← hg]; exact e)
    refine ⟨by rw [hr, List.length_append]; omega, ?_⟩
    rw [h2, hr, List.take_append_of_le_length h1]

/-- A row less: all indexes are of before. -/
theorem IxInv.less {m : Nat} {x : Ixr} {R R' : RelD} (h : IxInv m x R) (hg : R'.gone = R.gone + 1) : IxInv m x R' where
  le := by have := h.le; omega
  same := fun e => by have := h.le; omega

/-- The entry of number j changed, within its own blocks and new ones. -/
theorem BkAt.set {w w' : World} {B : BkD} {R : RelD} (h : BkAt w B R) {j m : Nat} {x x' : Ixr} (hj : B.tab[j]? = some (m, x)) (hf : Fr x.foot w w') (hx : IxAt w' x') (hrk : x'.rk = x.rk)
    (hft : ∀ c ∈ x'.foot, c ∈ x.foot ∨ w.heap.size ≤ c) (hlt : ∀ c ∈ R.foot, c < w.heap.size) (hinv : IxInv m x' R) : BkAt w' { B with tab := B.tab.set j (m, x') } R := by
  have hjl : j < B.tab.length := (List.getElem?_eq_some_iff.1 hj).1
  have hmem : (m, x) ∈ B.tab := List.mem_of_getElem? hj
  have hset : ∀ (i : Nat) (p : Nat × Ixr), (B.tab.set j (m, x'))[i]? = some p → (i = j ∧ p = (m, x')) ∨ (i ≠ j ∧ B.tab[i]? = some p) := fun i p hp => by
    rw [List.getElem?_set] at hp
    by_cases e : j = i
    · subst e
      rw [if_pos rfl, if_pos hjl] at hp
      exact Or.inl ⟨rfl, (Option.some.inj hp).symm⟩
    · rw [if_neg e] at hp
      exact Or.inr ⟨fun e' => e e'.symm, hp⟩
  have hmset : ∀ p ∈ B.tab.set j (m, x'), p = (m, x') ∨ ∃ i, i ≠ j ∧ B.tab[i]? = some p := fun p hp => by
    obtain ⟨i, hi⟩ := List.getElem?_of_mem hp
    rcases hset i p hi with ⟨_, e⟩ | ⟨hne, hi⟩
    · exact Or.inl e
    · exact Or.inr ⟨i, hne, hi⟩
  have hfst : (B.tab.set j (m, x')).map (·.1) = B.tab.map (·.1) := by
    rw [List.map_set]
    apply List.ext_getElem?
    intro i
    rw [List.getElem?_set]
    split
    · rename_i e
      subst e
      simp [hjl]
      have := (List.getElem?_eq_some_iff.1 hj).2
      rw [this]
    · rfl
  have hkv : BkD.kv { B with tab := B.tab.set j (m, x') } = B.kv := by
    unfold BkD.kv
    simp only [List.map_set]
    apply List.ext_getElem?
    intro i
    rw [List.getElem?_set]
    split
    · rename_i e
      subst e
      have := (List.getElem?_eq_some_iff.1 hj).2
      simp [hjl, this, hrk]
    · rfl
  have hxfoot : ∀ c ∈ x'.foot, c ≠ B.b ∧ c ≠ B.m := fun c hc => by
    rcases hft c hc with h1 | h1
    · exact h.apB _ hmem c h1
    · have hb := h.flt B.b (mem_bfoot.2 (Or.inl rfl))
      have hm := h.flt B.m (mem_bfoot.2 (Or.inr (Or.inl rfl)))
      omega
  have hother : ∀ (i : Nat) (p : Nat × Ixr), i ≠ j → B.tab[i]? = some p → ∀ c ∈ p.2.foot, c ∉ x.foot := fun i p hne hp c hc hcx => hne (h.apI i j p (m, x) c hp hj hc hcx)
  have hother' : ∀ (i : Nat) (p : Nat × Ixr), i ≠ j → B.tab[i]? = some p → ∀ c ∈ p.2.foot, c ∉ x'.foot := fun i p hne hp c hc hcx => by
    rcases hft c hcx with h1 | h1
    · exact hother i p hne hp c hc h1
    · have := (h.ix p (List.mem_of_getElem? hp)).lt c hc
      omega
  refine ⟨?_, ?_, ?_, ?_, ?_, ?_, ?_, ?_, ?_⟩
  · exact hf.heap h.hb (fun hc => (h.apB _ hmem _ hc).1 rfl)
  · rw [hkv]
    exact h.hm.fr hf (fun hc => (h.apB _ hmem _ hc).2 rfl)
  · intro p hp
    rcases hmset p hp with rfl | ⟨i, hne, hi⟩
    · exact hx
    · exact (h.ix p (List.mem_of_getElem? hi)).fr hf (hother i p hne hi)
  · show ((B.tab.set j (m, x')).map (·.1)).Nodup
    rw [hfst]; exact h.nd
  · intro p hp
    rcases hmset p hp with rfl | ⟨i, _, hi⟩
    · exact h.lt (m, x) hmem
    · exact h.lt p (List.mem_of_getElem? hi)
  · intro i k p q c hp hq hcp hcq
    rcases hset i p hp with ⟨rfl, rfl⟩ | ⟨hne, hp1⟩
    · rcases hset k q hq with ⟨rfl, _⟩ | ⟨hne, hq1⟩
      · rfl
      · exact absurd hcp (hother' k q hne hq1 c hcq)
    · rcases hset k q hq with ⟨rfl, rfl⟩ | ⟨hne', hq1⟩
      · exact absurd hcq (hother' i p hne hp1 c hcp)
      · exact h.apI i k p q c hp1 hq1 hcp hcq
  · intro p hp c hc
    rcases hmset p hp with rfl | ⟨i, _, hi⟩
    · exact hxfoot c hc
    · exact h.apB p (List.mem_of_getElem? hi) c hc
  · intro c hc
    rcases mem_bfoot.1 hc with rfl | rfl | ⟨p, hp, hc⟩
    · exact h.apR _ (mem_bfoot.2 (Or.inl rfl))
    · exact h.apR _ (mem_bfoot.2 (Or.inr (Or.inl rfl)))
    · rcases hmset p hp with rfl | ⟨i, _, hi⟩
      · rcases hft c hc with h1 | h1
        · exact h.apR c (mem_bfoot.2 (Or.inr (Or.inr ⟨_, hmem, h1⟩)))
        · intro hR
          have := hlt c hR
          omega
      · exact h.apR c (mem_bfoot.2 (Or.inr (Or.inr ⟨p, List.mem_of_getElem? hi, hc⟩)))
  · intro p hp
    rcases hmset p hp with rfl | ⟨i, _, hi⟩
    · exact hinv
    · exact h.inv p (List.mem_of_getElem? hi)

/-- An entry more, of new blocks. -/
theorem BkAt.snoc {w w' : World} {B : BkD} {R : RelD} (h : BkAt w B R) {m : Nat} {x : Ixr} {S : List Nat} (hS : ∀ c ∈ S, c = B.m ∨ c ∉ B.foot) (hno : m ∉ B.tab.map (·.1)) (hmlt : m < 4294967296) (hf : Fr S w w') (hm : MapIs w' B.m (B.kv ++ [(.int .u32 (m : Int), .pointer (some ⟨x.rk, 0, none⟩))]))
    (hx : IxAt w' x) (hft : ∀ c ∈ x.foot, w.heap.size ≤ c) (hlt : ∀ c ∈ R.foot, c < w.heap.size) (hinv : IxInv m x R) : BkAt w' { B with tab := B.tab ++ [(m, x)] } R := by
  have hget : ∀ (i : Nat) (p : Nat × Ixr), (B.tab ++ [(m, x)])[i]? = some p → (i < B.tab.length ∧ B.tab[i]? = some p) ∨ (i = B.tab.length ∧ p = (m, x)) := fun i p hp => by
    by_cases hi : i < B.tab.length
    · rw [List.getElem?_append_left hi] at hp
      exact Or.inl ⟨hi, hp⟩
    · rw [List.getElem?_append_right (by omega)] at hp
      have hi' : i - B.tab.length = 0 := by
        have := (List.getElem?_eq_some_iff.1 hp).1
        simp at this
        omega
      rw [hi'] at hp
      simp at hp
      exact Or.inr ⟨by omega, hp.symm⟩
  have hmb : B.m ≠ B.b := fun e => by
    obtain ⟨es, ck, h1, _⟩ := h.hm
    rw [e, h.hb] at h1
    cases h1
  refine ⟨?_, ?_, ?_, ?_, ?_, ?_, ?_, ?_, ?_⟩
  · exact hf.heap h.hb (fun hc => (hS _ hc).elim (fun e => hmb e.symm) (fun e => e (mem_bfoot.2 (Or.inl rfl))))
  · simpa [BkD.kv] using hm
  · intro p hp
    rcases List.mem_append.1 hp with hp | hp
    · exact (h.ix p hp).fr hf fun c hc hc' => (hS _ hc').elim (fun e => (h.apB p hp c hc).2 e) (fun e => e (mem_bfoot.2 (Or.inr (Or.inr ⟨p, hp, hc⟩))))
    · simp at hp; subst hp; exact hx
  · simp only [List.map_append, List.map_cons, List.map_nil]
    exact List.nodup_append.2 ⟨h.nd, by simp, fun a ha b hb e => by simp at hb; subst hb; subst e; exact hno ha⟩
  · intro p hp
    rcases List.mem_append.1 hp with hp | hp
    · exact h.lt p hp
    · simp at hp; subst hp; exact hmlt
  · intro i k p q c hp hq hcp hcq
    rcases hget i p hp with ⟨_, hp⟩ | ⟨hi, rfl⟩
    · rcases hget k q hq with ⟨_, hq⟩ | ⟨_, rfl⟩
      · exact h.apI i k p q c hp hq hcp hcq
      · have h1 := (h.ix p (List.mem_of_getElem? hp)).lt c hcp
        have h2 := hft c hcq
        omega
    · rcases hget k q hq with ⟨_, hq⟩ | ⟨hk, rfl⟩
      · have h1 := (h.ix q (List.mem_of_getElem? hq)).lt c hcq
        have h2 := hft c hcp
        omega
      · omega
  · intro p hp c hc
    rcases List.mem_append.1 hp with hp | hp
    · exact h.apB p hp c hc
    · simp at hp
      subst hp
      have h1 := hft c hc
      have hb := h.flt B.b (mem_bfoot.2 (Or.inl rfl))
      have hm := h.flt B.m (mem_bfoot.2 (Or.inr (Or.inl rfl)))
      simp only
      omega
  · intro c hc
    rcases mem_bfoot.1 hc with rfl | rfl | ⟨p, hp, hc⟩
    · exact h.apR _ (mem_bfoot.2 (Or.inl rfl))
    · exact h.apR _ (mem_bfoot.2 (Or.inr (Or.inl rfl)))
    · rcases List.mem_append.1 hp with hp | hp
      · exact h.apR c (mem_bfoot.2 (Or.inr (Or.inr ⟨p, hp, hc⟩)))
      · simp at hp
        subst hp
        intro hR
        have h1 := hft c hc
        have h2 := hlt c hR
        omega
  · intro p hp
    rcases List.mem_append.1 hp with hp | hp
    · exact h.inv p hp
    · simp at hp; subst hp; exact hinv
end Go.Proofs.Ytepimaghpjkibaa

/-
  'm[k] = append(m[k], ..)': a map whose entries bear stamps: an entry found or laid ('mapEntry'), and stored into by its stamp ('entryStore').
-/
import Derived.Test.YtepimaghpjkibaaBase
namespace Go.Proofs.Ytepimaghpjkibaa
open Go.RowKit
open Go.Maps (Keyed)
open Go.ChangeMaps (setBlock heap_setBlock_same heap_setBlock_other)

/-- Block b is a map that holds these pairs, its stamps in order. -/
def MapB (w : World) (b : Nat) (kv : List (Value × Value)) : Prop :=
  ∃ es clock, w.heap[b]? = some (.map es clock) ∧ es.toList.map (fun e => (e.key, e.val)) = kv ∧ Stamped es clock

/-- .. and the entry of number j bears the stamp st. -/
def EntryAt (w : World) (b : Nat) (kv : List (Value × Value)) (j st : Nat) : Prop :=
  ∃ es clock, w.heap[b]? = some (.map es clock) ∧ es.toList.map (fun e => (e.key, e.val)) = kv ∧ Stamped es clock ∧ ∃ e, es[j]? = some e ∧ e.born = st

theorem MapB.is {w : World} {b : Nat} {kv : List (Value × Value)} (h : MapB w b kv) : MapIs w b kv := by
  exact h

theorem MapB.made (w : World) : MapB (w.alloc (.map #[] 0)) w.heap.size [] := ⟨#[], 0, (MapKept.heap_alloc w _).1, rfl, by simp, by simp⟩

theorem MapB.lt {w : World} {b : Nat} {kv : List (Value × Value)} (h : MapB w b kv) : b < w.heap.size := h.is.lt

theorem MapB.fr {S : List Nat} {a w : World} {b : Nat} {kv : List (Value × Value)} (h : MapB a b kv) (hf : Fr S a w) (hS : b ∉ S) : MapB w b kv := by
  obtain ⟨es, ck, hb, e⟩ := h
  exact ⟨es, ck, hf.heap hb hS, e⟩

theorem EntryAt.fr {S : List Nat} {a w : World} {b : Nat} {kv : List (Value × Value)} {j st : Nat} (h : EntryAt a b kv j st) (hf : Fr S a w) (hS : b ∉ S) : EntryAt w b kv j st := by
  obtain ⟨es, ck, hb, e⟩ := h
  exact ⟨es, ck, hf.heap hb hS, e⟩

section
variable {P : Program} {k t e : TypeId} {w : World} {b : Nat} {kv : List (Value × Value)} {key : Value} {kl : Lit}

theorem MapB.clear (h : MapB w b kv) {ty : TypeId} (ht : P.underlying t = some (.map k e)) :
    ∃ w', (Builtin.clear_ #[t] ty #[.map (some b)]).run P w = .ok (.tuple #[]) w' ∧ MapB w' b [] ∧ w.grownBy w' (some b) := by
  obtain ⟨es, ck, hb, rfl, _⟩ := h
  refine ⟨setBlock w b (.map #[] ck), ?_, ⟨_, _, heap_setBlock_same hb _, rfl, by simp, by simp⟩, ⟨rfl, rfl, rfl, by simp [setBlock], fun i _ hi => heap_setBlock_other hb _ (fun e => hi (by rw [e]))⟩⟩
  simp [Builtin.clear_, run_underlying ht, MapKept.run_getObj_map hb, MapKept.run_setObj_map _ hb, Result.andThen, setBlock]

theorem MapB.entry_none (h : MapB w b kv) (K : Keyed P k) (ht : P.underlying t = some (.map k e)) (hks : KeysOk P k kv) (hkey : Go.keyOf P k key = some kl) (hno : ∀ p ∈ kv, p.1 ≠ key)
    {z : Value} (hz : (zeroValue e).run P w = .ok z w) :
    ∃ w' st, (Instr.mapEntry t (.map (some b)) key).run P w = .ok (.tuple #[z, .int .i64 (st : Nat)]) w' ∧ EntryAt w' b (kv ++ [(key, z)]) kv.length st ∧ w.grownBy w' (some b) := by
  obtain ⟨es, ck, hb, rfl, hn, hlt⟩ := h
  rcases K.find w hkey es.toList (fun x hx => hks _ (List.mem_map.2 ⟨x, hx, rfl⟩)) with ⟨h1, _⟩ | ⟨j, e0, _, h2, h3⟩
  · refine ⟨setBlock w b (.map (es.push ⟨key, z, ck⟩) (ck + 1)), ck, ?_, ⟨_, _, heap_setBlock_same hb _, by simp, ⟨?_, ?_⟩, ⟨key, z, ck⟩, by simp, rfl⟩, ⟨rfl, rfl, rfl, by simp [setBlock], fun i _ hi => heap_setBlock_other hb _ (fun e => hi (by rw [e]))⟩⟩
    · simp [Instr.mapEntry, run_underlying ht, MapKept.run_getObj_map hb, K.check w false hkey, h1, hz, MapKept.run_setObj_map _ hb, Result.andThen, setBlock, goInt]
    · rw [Array.toList_push, List.map_append, List.nodup_append]
      refine ⟨hn, by simp, ?_⟩
      intro a ha b' hb' e'
      simp at hb'
      obtain ⟨x, hx, rfl⟩ := List.mem_map.1 ha
      have := hlt x hx
      omega
    · intro x hx
      rw [Array.toList_push] at hx
      rcases List.mem_append.1 hx with hx | hx
      · have := hlt x hx; omega
      · simp at hx; subst hx; simp
  · exact absurd h3 (hno (e0.key, e0.val) (List.mem_map.2 ⟨e0, List.mem_of_getElem? h2, rfl⟩))

theorem MapB.entry_some (h : MapB w b kv) (K : Keyed P k) (ht : P.underlying t = some (.map k e)) (hks : KeysOk P k kv) (hkey : Go.keyOf P k key = some kl) (hn : (kv.map (·.1)).Nodup) {j : Nat} {u : Value}
    (hj : kv[j]? = some (key, u)) :
    ∃ w' st, (Instr.mapEntry t (.map (some b)) key).run P w = .ok (.tuple #[u, .int .i64 (st : Nat)]) w' ∧ EntryAt w' b kv j st ∧ w.grownBy w' (some b) := by
  obtain ⟨es, ck, hb, rfl, hbn, hlt⟩ := h
  rcases K.find w hkey es.toList (fun x hx => hks _ (List.mem_map.2 ⟨x, hx, rfl⟩)) with ⟨_, h2⟩ | ⟨j', e0, h1, h2, h3⟩
  · obtain ⟨x, hx, he⟩ := List.mem_map.1 (List.mem_of_getElem? hj)
    exact absurd (congrArg Prod.fst he) (h2 x hx)
  · obtain ⟨rfl, hv⟩ := entry_at hn hj h2 h3
    have hj' : es[j']? = some e0 := by simpa using h2
    have hmod : es.modify j' (fun e' => { e' with key := key }) = es := by
      apply Array.ext
      · simp
      · intro i h1 h2
        rw [Array.getElem_modify]
        split
        · rename_i hi
          subst hi
          have : es[j'] = e0 := by rw [Array.getElem?_eq_getElem h2] at hj'; exact Option.some.inj hj'
          rw [this]
          cases e0
          simp at h3
          subst h3
          rfl
        · rfl
    refine ⟨setBlock w b (.map es ck), e0.born, ?_, ⟨_, _, heap_setBlock_same hb _, rfl, ⟨hbn, hlt⟩, e0, hj', rfl⟩, ⟨rfl, rfl, rfl, by simp [setBlock], fun i _ hi => heap_setBlock_other hb _ (fun e => hi (by rw [e]))⟩⟩
    subst hv
    simp [Instr.mapEntry, run_underlying ht, MapKept.run_getObj_map hb, K.check w false hkey, h1, hj', h3, K.stays w hkey, MapKept.run_setObj_map _ hb, Result.andThen, setBlock, goInt, hmod]

theorem EntryAt.store {j st : Nat} {u : Value} (h : EntryAt w b kv j st) (hj : kv[j]? = some (key, u)) (v : Value) :
    ∃ w', (Instr.entryStore t (.map (some b)) (.int .i64 (st : Nat)) v).run P w = .ok () w' ∧ MapB w' b (kv.set j (key, v)) ∧ w.grownBy w' (some b) := by
  obtain ⟨es, ck, hb, rfl, ⟨hbn, hlt⟩, e0, hj', rfl⟩ := h
  have hjl : j < es.size := (Array.getElem?_eq_some_iff.1 hj').1
  have he0 : es[j] = e0 := (Array.getElem?_eq_some_iff.1 hj').2
  have hk0 : e0.key = key := by
    rw [List.getElem?_map] at hj
    have : es.toList[j]? = some e0 := by simpa using hj'
    rw [this] at hj
    simp at hj
    exact hj.1
  have hfind : es.findIdx? (fun e => (e.born : Int) == (e0.born : Int)) = some j := by
    rw [Array.findIdx?_eq_some_iff_getElem]
    refine ⟨hjl, by simp [he0], fun i hi => ?_⟩
    have hil : i < es.size := by omega
    have hne : es[i].born ≠ e0.born := by
      intro e'
      have h1 : (es.toList.map (·.born))[i]? = some e0.born := by simp [hil, e']
      have h2 : (es.toList.map (·.born))[j]? = some e0.born := by simp [hjl, he0]
      have := (List.getElem?_inj (by simpa using hil) hbn).1 (h1.trans h2.symm)
      omega
    simp
    omega
  refine ⟨setBlock w b (.map (es.modify j (fun e' => { e' with val := v })) ck), ?_, ⟨_, _, heap_setBlock_same hb _, ?_, ⟨?_, ?_⟩⟩, ⟨rfl, rfl, rfl, by simp [setBlock], fun i _ hi => heap_setBlock_other hb _ (fun e => hi (by rw [e]))⟩⟩
  · simp [Instr.entryStore, MapKept.run_getObj_map hb, asInt, asIntOf, hfind, MapKept.run_setObj_map _ hb, Result.andThen, setBlock]
  · rw [Array.toList_modify, ChangeMaps.modify_eq_set _ _ _ _ (by simpa using hj' : es.toList[j]? = some e0), List.map_set]
    simp [hk0]
  · rw [Array.toList_modify, ChangeMaps.modify_eq_set _ _ _ _ (by simpa using hj' : es.toList[j]? = some e0), List.map_set]
    have hs : (es.toList.map (·.born)).set j e0.born = es.toList.map (·.born) := by
      apply List.ext_getElem?
      intro i
      rw [List.getElem?_set]
      split
      · rename_i hi
        subst hi
        simp [hjl, he0]
      · rfl
    simp only
    rw [hs]
    exact hbn
  · intro x hx
    rw [Array.toList_modify, ChangeMaps.modify_eq_set _ _ _ _ (by simpa using hj' : es.toList[j]? = some e0)] at hx
    rcases List.mem_or_eq_of_mem_set hx with hx | rfl
    · exact hlt x hx
    · exact hlt e0 (List.mem_of_getElem? (by simpa using hj'))
end
end Go.Proofs.Ytepimaghpjkibaa

/-
  One round of 'ask': the key's entry found or laid, its slice grown, the entry stored into.
-/
import Derived.Test.YtepimaghpjkibaaBook
namespace Go.Proofs.Ytepimaghpjkibaa
open Go.RowKit

def Ixr.put (x : Ixr) (gs : List Grp) : Ixr := { x with gs := gs }

theorem kv_keysOk {x : Ixr} (ok : ∀ g ∈ x.gs, IsRow g.key) : KeysOk Try.prog 34 x.kv := fun p hp => by
  obtain ⟨g, hg, rfl⟩ := List.mem_map.1 hp
  exact row_keyOf (ok g hg)

theorem kv_keys_nodup {x : Ixr} (nd : (x.gs.map (·.key)).Nodup) : (x.kv.map (·.1)).Nodup := by
  have e : x.kv.map (·.1) = (x.gs.map (·.key)).map rowV := by simp [Ixr.kv, Function.comp_def]
  rw [e]
  exact List.pairwise_map.2 (List.Pairwise.imp (fun h e => h (rowV_inj e)) nd)

theorem cont_nodup {x : Ixr} (nd : (x.gs.map (·.key)).Nodup) : (x.cont.map (·.1)).Nodup := by
  have e : x.cont.map (·.1) = x.gs.map (·.key) := by simp [Ixr.cont, Function.comp_def]
  rw [e]; exact nd

/-- The entry of a key, found or laid. -/
theorem entry_gs {w : World} {x : Ixr} (h : GsAt w x) {k : Row} (hk : IsRow k) :
    ∃ w1 gs j idx v st, (Instr.mapEntry 118 (.map (some x.km)) (rowV k)).run Try.prog w = .ok (.tuple #[v, .int .i64 (st : Nat)]) w1 ∧ w.grownBy w1 (some x.km) ∧ GsAt w1 (x.put gs) ∧ gs[j]? = some ⟨k, idx, v⟩ ∧
      EntryAt w1 x.km (x.put gs).kv j st ∧ (∀ i, ins k i x.cont = (x.put gs).cont.set j (k, idx ++ [i])) ∧ (∀ c, c ∈ (x.put gs).inner ↔ c ∈ x.inner) ∧ (∀ n, (∀ p ∈ x.cont, p.2.length ≤ n) → idx.length ≤ n) := by
  obtain ⟨kl, hkl⟩ := row_keyOf hk
  by_cases hm : ∃ g ∈ x.gs, g.key = k
  · obtain ⟨g, hg, rfl⟩ := hm
    obtain ⟨j, hj⟩ := List.getElem?_of_mem hg
    have hkj : x.kv[j]? = some (rowV g.key, g.v) := by simp [Ixr.kv, hj]
    have hcj : x.cont[j]? = some (g.key, g.idx) := by simp [Ixr.cont, hj]
    obtain ⟨w1, st, hrun, hE, hgr⟩ := h.hm.entry_some Try.rowLaw Try.underlying118 (kv_keysOk h.ok) hkl (kv_keys_nodup h.nd) hkj
    refine ⟨w1, x.gs, j, g.idx, g.v, st, hrun, hgr, ?_, hj, hE, fun i => ins_at (cont_nodup h.nd) hcj, fun c => Iff.rfl, fun n hn => hn _ (List.mem_of_getElem? hcj)⟩
    have hF := Fr.of_grown hgr
    refine ⟨?_, fun g' hg' => hF.ownsRow (h.own g' hg') ?_, h.ok, h.nd, h.ap⟩
    · obtain ⟨es, ck, h1, h2, h3, _⟩ := hE
      exact ⟨es, ck, h1, h2, h3⟩
    · intro c hc hc'
      simp at hc'
      subst hc'
      exact gs_ne h hg' hc
  · have hno : ∀ p ∈ x.kv, p.1 ≠ rowV k := fun p hp e => by
      obtain ⟨g, hg, rfl⟩ := List.mem_map.1 hp
      exact hm ⟨g, hg, rowV_inj e⟩
    have hnoc : ∀ p ∈ x.cont, p.1 ≠ k := fun p hp e => by
      obtain ⟨g, hg, rfl⟩ := List.mem_map.1 hp
      exact hm ⟨g, hg, e⟩
    obtain ⟨w1, st, hrun, hE, hgr⟩ := h.hm.entry_none Try.rowLaw Try.underlying118 (kv_keysOk h.ok) hkl hno (Try.zeroInts w)
    have hl : x.kv.length = x.gs.length := by simp [Ixr.kv]
    have hkv : (x.put (x.gs ++ [⟨k, [], .slice none 0 0⟩])).kv = x.kv ++ [(rowV k, .slice none 0 0)] := by simp [Ixr.kv, Ixr.put]
    refine ⟨w1, x.gs ++ [⟨k, [], .slice none 0 0⟩], x.gs.length, [], .slice none 0 0, st, hrun, hgr, ?_, by simp, by rw [hkv, ← hl]; exact hE, ?_, ?_, fun n _ => Nat.zero_le _⟩
    · have hF := Fr.of_grown hgr
      refine ⟨?_, ?_, ?_, ?_, ?_⟩
      · obtain ⟨es, ck, h1, h2, h3, _⟩ := hE
        exact ⟨es, ck, h1, by rw [hkv]; exact h2, h3⟩
      · intro g' hg'
        rcases List.mem_append.1 hg' with hg' | hg'
        · refine hF.ownsRow (h.own g' hg') fun c hc hc' => ?_
          simp at hc'
          subst hc'
          exact gs_ne h hg' hc
        · simp at hg'; subst hg'
          exact World.ownsRow_nil _ _ _ _
      · intro g' hg'
        rcases List.mem_append.1 hg' with hg' | hg'
        · exact h.ok g' hg'
        · simp at hg'; subst hg'; exact hk
      · simp only [Ixr.put, List.map_append, List.map_cons, List.map_nil]
        exact List.nodup_append.2 ⟨h.nd, by simp, fun a ha b hb e => by
          simp at hb
          subst hb
          subst e
          obtain ⟨g, hg, e⟩ := List.mem_map.1 ha
          exact hm ⟨g, hg, e⟩⟩
      · intro i i' a b c ha hb hac hbc
        have hget : ∀ (n : Nat) (g : Grp) (c : Nat), (x.gs ++ [⟨k, [], .slice none 0 0⟩])[n]? = some g → g.v.ownBlock = some c → x.gs[n]? = some g := fun n g c hn hc => by
          by_cases hlt : n < x.gs.length
          · rwa [List.getElem?_append_left hlt] at hn
          · rw [List.getElem?_append_right (by omega)] at hn
            have := List.mem_of_getElem? hn
            simp at this
            subst this
            simp [Value.ownBlock] at hc
        exact h.ap i i' a b c (hget i a c ha hac) (hget i' b c hb hbc) hac hbc
    · intro i
      rw [ins_none hnoc]
      simp [Ixr.cont, Ixr.put]
    · intro c
      rw [mem_inner, mem_inner]
      simp [Ixr.put, Value.ownBlock]
where
  gs_ne {w : World} {x : Ixr} (h : GsAt w x) {g : Grp} (hg : g ∈ x.gs) (hc : g.v.ownBlock = some x.km) : False := by
    obtain ⟨es, ck, h1, _⟩ := h.hm
    rcases (h.own g hg).2 with ⟨h2, _⟩ | ⟨b, cap, cur, h2, _, h3, _⟩
    · rw [h2] at hc; simp [Value.ownBlock] at hc
    · rw [h2] at hc
      simp [Value.ownBlock] at hc
      subst hc
      rw [h1] at h3
      cases h3

/-- The slice of entry j grown by one number, and the entry stored into. -/
theorem store_gs {w1 w2 : World} {x : Ixr} {gs : List Grp} {j : Nat} {k : Row} {idx : List Nat} {v v' : Value} {st i : Nat} (h : GsAt w1 (x.put gs)) (hj : gs[j]? = some ⟨k, idx, v⟩) (hE : EntryAt w1 x.km (x.put gs).kv j st)
    (hg : w1.grownBy w2 v.ownBlock) (hv : w2.ownsRow 0 3 1 v' (idx.length + 1) (ints idx ++ [.int .i64 (i : Int)])) (hat : v'.ownBlock = v.ownBlock ∨ ∃ n, v'.ownBlock = some n ∧ w1.heap.size ≤ n) :
    ∃ w3, (Instr.entryStore 118 (.map (some x.km)) (.int .i64 (st : Nat)) v').run Try.prog w2 = .ok () w3 ∧ w2.grownBy w3 (some x.km) ∧ GsAt w3 (x.put (gs.set j ⟨k, idx ++ [i], v'⟩)) ∧
      (x.put (gs.set j ⟨k, idx ++ [i], v'⟩)).cont = (x.put gs).cont.set j (k, idx ++ [i]) ∧ (∀ c ∈ (x.put (gs.set j ⟨k, idx ++ [i], v'⟩)).inner, c ∈ (x.put gs).inner ∨ w1.heap.size ≤ c) := by
  have hjl : j < gs.length := (List.getElem?_eq_some_iff.1 hj).1
  have hmem : (⟨k, idx, v⟩ : Grp) ∈ gs := List.mem_of_getElem? hj
  have hkm : v.ownBlock ≠ some x.km := fun e => entry_gs.gs_ne h (g := ⟨k, idx, v⟩) hmem e
  have hF := Fr.of_grown hg
  have hE2 : EntryAt w2 x.km (x.put gs).kv j st := hE.fr hF (by simpa using fun e : v.ownBlock = some x.km => hkm e)
  have hkj : (x.put gs).kv[j]? = some (rowV k, v) := by simp [Ixr.kv, Ixr.put, hj]
  obtain ⟨w3, hrun, hM, hgr⟩ := hE2.store (P := Try.prog) (t := 118) hkj v'
  have hset : ∀ g ∈ gs.set j ⟨k, idx ++ [i], v'⟩, g = ⟨k, idx ++ [i], v'⟩ ∨ ∃ n, n ≠ j ∧ gs[n]? = some g := fun g hgm => by
    obtain ⟨n, hn⟩ := List.getElem?_of_mem hgm
    rw [List.getElem?_set] at hn
    by_cases e : j = n
    · subst e
      rw [if_pos rfl, if_pos hjl] at hn
      exact Or.inl (Option.some.inj hn).symm
    · rw [if_neg e] at hn
      exact Or.inr ⟨n, fun e' => e e'.symm, hn⟩
  have hF3 := Fr.of_grown hgr
  have hkm' : v'.ownBlock ≠ some x.km := fun e => by
    rcases hat with h1 | ⟨n, h1, h2⟩
    · exact hkm (h1.symm.trans e)
    · rw [h1] at e
      cases e
      have := h.hm.lt
      simp only [Ixr.put] at this
      omega
  have hoth : ∀ n g c, n ≠ j → gs[n]? = some g → g.v.ownBlock = some c → v.ownBlock ≠ some c := fun n g c hne hn hc e => hne (h.ap n j g ⟨k, idx, v⟩ c hn hj hc e)
  have hoth' : ∀ n g c, n ≠ j → gs[n]? = some g → g.v.ownBlock = some c → v'.ownBlock ≠ some c := fun n g c hne hn hc e => by
    rcases hat with h1 | ⟨n', h1, h2⟩
    · exact hoth n g c hne hn hc (h1.symm.trans e)
    · rw [h1] at e
      cases e
      have := ((h.own g (List.mem_of_getElem? hn)).lt _ hc).2
      omega
  refine ⟨w3, hrun, hgr, ⟨?_, ?_, ?_, ?_, ?_⟩, ?_, ?_⟩
  · have e : (x.put (gs.set j ⟨k, idx ++ [i], v'⟩)).kv = (x.put gs).kv.set j (rowV k, v') := by simp [Ixr.kv, Ixr.put, List.map_set]
    rw [e]; exact hM
  · intro g hgm
    refine hF3.ownsRow (a := w2) ?_ ?_
    · rcases hset g hgm with rfl | ⟨n, hne, hn⟩
      · simpa [ints] using hv
      · exact hF.ownsRow (h.own g (List.mem_of_getElem? hn)) fun c hc hc' => hoth n g c hne hn hc (by simpa using hc')
    · intro c hc hc'
      simp at hc'
      subst hc'
      rcases hset g hgm with rfl | ⟨n, hne, hn⟩
      · exact hkm' hc
      · exact entry_gs.gs_ne h (List.mem_of_getElem? hn) hc
  · intro g hgm
    rcases hset g hgm with rfl | ⟨n, _, hn⟩
    · exact h.ok ⟨k, idx, v⟩ hmem
    · exact h.ok g (List.mem_of_getElem? hn)
  · have e : (gs.set j ⟨k, idx ++ [i], v'⟩).map (·.key) = gs.map (·.key) := by
      rw [List.map_set]
      apply List.ext_getElem?
      intro n
      rw [List.getElem?_set]
      split
      · rename_i e
        subst e
        have := (List.getElem?_eq_some_iff.1 hj).2
        simp [hjl, this]
      · rfl
    show ((gs.set j ⟨k, idx ++ [i], v'⟩).map (·.key)).Nodup
    rw [e]; exact h.nd
  · intro n n' a b c ha hb hac hbc
    have ha' : (gs.set j ⟨k, idx ++ [i], v'⟩)[n]? = some a := ha
    have hb' : (gs.set j ⟨k, idx ++ [i], v'⟩)[n']? = some b := hb
    rw [List.getElem?_set] at ha' hb'
    by_cases e : j = n
    · subst e
      rw [if_pos rfl, if_pos hjl] at ha'
      obtain rfl := Option.some.inj ha'
      by_cases e' : j = n'
      · exact e'
      · rw [if_neg e'] at hb'
        exact absurd hac (hoth' n' b c (fun h => e' h.symm) hb' hbc)
    · rw [if_neg e] at ha'
      by_cases e' : j = n'
      · subst e'
        rw [if_pos rfl, if_pos hjl] at hb'
        obtain rfl := Option.some.inj hb'
        exact absurd hbc (hoth' n a c (fun h => e h.symm) ha' hac)
      · rw [if_neg e'] at hb'
        exact h.ap n n' a b c ha' hb' hac hbc
  · simp [Ixr.cont, Ixr.put, List.map_set]
  · intro c hc
    rcases mem_inner.1 hc with rfl | ⟨g, hgm, hgc⟩
    · exact Or.inl (mem_inner.2 (Or.inl rfl))
    · rcases hset g hgm with rfl | ⟨n, _, hn⟩
      · rcases hat with h1 | ⟨n, h1, h2⟩
        · exact Or.inl (mem_inner.2 (Or.inr ⟨_, hmem, h1.symm.trans hgc⟩))
        · have e : some n = some c := h1.symm.trans hgc
          cases e
          exact Or.inr h2
      · exact Or.inl (mem_inner.2 (Or.inr ⟨g, List.mem_of_getElem? hn, hgc⟩))

end Go.Proofs.Ytepimaghpjkibaa

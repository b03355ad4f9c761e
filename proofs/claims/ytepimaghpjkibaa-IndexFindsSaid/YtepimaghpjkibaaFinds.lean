import Derived.Test.YtepimaghpjkibaaFilled
import Derived.Test.YtepimaghpjkibaaFirsts
namespace Go.Proofs.Ytepimaghpjkibaa
open Go.RowKit

theorem RowsAt.fr {w w' : World} {v : Value} {l : List Row} (h : RowsAt w v l) (hf : Fr [] w w') : RowsAt w' v l := by
  obtain ⟨sa, c, h1, h2, h3, h4⟩ := h
  refine ⟨sa, c, h1, h2, ?_, h4⟩
  rcases h3 with h3 | ⟨g, o, h5, h6, h7⟩
  · exact Or.inl h3
  · exact Or.inr ⟨g, o, h5, Nat.lt_of_lt_of_le h6 hf.size, fun i x hi => range_fr (h7 i x hi) hf (by simp)⟩

section
variable {ops : Array Oper} {rest : List Oper} {o : Oper} {a : Act} {w : World} {Q : Exit → Act → World → Prop} {S : World → Prop} {ks : List Bool}
theorem lex_row_loadG (x : Operand) (ho : o.op = .load 34 x) (b off : Nat) (hx : a.eval x = .pointer (some ⟨b, off, none⟩)) (r : Row) (hr : IsRow r) (hc : ∀ W, S W → W.rangeAt b off (rowCells r))
    (hk : wpLex Try.prog ops Q S ks rest (a.put o.dst (rowV r)) w) (hw : Region.wanted o (yielded ops a.tmps) = true) : wpLex Try.prog ops Q S (true :: ks) (o :: rest) a w := by
  refine lex_guard hw (rowV r) (fun W hW => ?_) hk
  unfold execOp
  simp only [ho, hx, Instr.loadAt, Instr.sureAddr, Sem.run_bind, Sem.run_pure, Result.andThen_ok, run_loadRow W hr (hc W hW)]
end

/-- How many first rows there are among the first k, and what their counts make up. -/
def cnt (m : Nat) (rows : List Row) (k : Nat) : Nat := (firsts m rows k).length
def tot (m : Nat) (rows : List Row) (k : Nat) : Nat := ((firsts m rows k).map (fun i => (mates m rows i).length)).sum

theorem mine_step {k : Nat} {G : List Nat} {j : Nat} (h : j < G.length) : decide (k ∈ G.take (j + 1)) = (decide (k ∈ G.take j) || decide (G.getD j 0 = k)) := by
  rw [List.take_add_one, List.getElem?_eq_getElem h, List.getD_eq_getElem?_getD, List.getElem?_eq_getElem h]
  simp only [Option.toList_some, List.mem_append, List.mem_singleton, Option.getD_some, Bool.decide_or]
  congr 1
  simp [eq_comm]

theorem wrap64_nat {a : Nat} (h : a ≤ 140737488355328) : wrap64 (a : Int) = (a : Int) := IntWalk.wrap64_in _ (by omega)
theorem wrap64_succ {a : Nat} (h : a + 1 ≤ 140737488355328) : wrap64 ((a : Int) + 1) = ((a + 1 : Nat) : Int) := by
  have := wrap64_nat h
  simpa using this
theorem wrap64_add {a b : Nat} (h : a + b ≤ 140737488355328) : wrap64 ((a : Int) + (b : Int)) = ((a + b : Nat) : Int) := by
  have := wrap64_nat h
  simpa using this

theorem less_step (n k : Nat) (z : Int) (h : z = ((k + 1 : Nat) : Int)) (hl : k < n) : n - (intOf (.int .i64 z)).toNat < n - (intOf (.int .i64 (k : Int))).toNat := by
  simp only [intOf]
  omega

theorem cnt_first {m : Nat} {rows : List Row} {k : Nat} (hf : isFirst m rows k = true) : cnt m rows (k + 1) = cnt m rows k + 1 ∧ tot m rows (k + 1) = tot m rows k + (mates m rows k).length := by
  have e : firsts m rows (k + 1) = firsts m rows k ++ [k] := by
    unfold firsts
    rw [List.range_succ, List.filter_append]
    simp [hf]
  unfold cnt tot
  rw [e]
  simp

theorem cnt_not {m : Nat} {rows : List Row} {k : Nat} (hf : isFirst m rows k = false) : cnt m rows (k + 1) = cnt m rows k ∧ tot m rows (k + 1) = tot m rows k := by
  have e : firsts m rows (k + 1) = firsts m rows k := by
    unfold firsts
    rw [List.range_succ, List.filter_append]
    simp [hf]
  unfold cnt tot
  rw [e]
  exact ⟨rfl, rfl⟩

theorem tot_mono {m : Nat} {rows : List Row} (k d : Nat) : tot m rows k ≤ tot m rows (k + d) := by
  induction d with
  | zero => exact Nat.le_refl _
  | succ d ih =>
    cases h : isFirst m rows (k + d) with
    | true => have := (cnt_first h).2; rw [show k + (d + 1) = k + d + 1 by omega, this]; omega
    | false => have := (cnt_not h).2; rw [show k + (d + 1) = k + d + 1 by omega, this]; exact ih

theorem tot_le {m : Nat} {rows : List Row} {k : Nat} (h : k ≤ rows.length) : tot m rows k ≤ rows.length := by
  have h1 := tot_mono (m := m) (rows := rows) k (rows.length - k)
  rw [show k + (rows.length - k) = rows.length by omega] at h1
  have h2 := sum_firsts m rows
  unfold tot at h1 ⊢
  omega

theorem cnt_le {m : Nat} {rows : List Row} (k : Nat) : cnt m rows k ≤ k := by
  unfold cnt firsts
  exact Nat.le_trans (List.length_filter_le _ _) (by simp)

theorem first_head {m : Nat} {rows : List Row} {k : Nat} (h : k < rows.length) : isFirst m rows k = decide ((mates m rows k).getD 0 0 = k) := by
  have hm := self_mate (m := m) h
  unfold isFirst
  cases hl : mates m rows k with
  | nil => rw [hl] at hm; cases hm
  | cons y r => simp

set_option maxRecDepth 100000 in
set_option maxHeartbeats 4000000 in
theorem finds_true {w : World} {v : Value} {l : List Row} (c m n : Nat) (hc : c < 256) (hm : m < 4294967296) (hn : n < 4294967296) (hl : RowsAt w v l) (h47 : l.length * 96 ≤ 140737488355328) :
    Calls Try.prog 3 #[.int .u8 c, v, .int .u32 m, .int .u32 n] w fun e w' => e = .returned (.bool true) ∧ Below w.heap.size w w' := by
  have hcI : (c : Int) < 256 := by omega
  have hmod : ((c : Int)).tmod 25 = ((c % 25 : Nat) : Int) := by rw [Int.tmod_eq_emod_of_nonneg (by omega)]; omega
  have hmod2 : ((c : Int)) % 25 = ((c % 25 : Nat) : Int) := by omega
  have ha : c % 25 ≤ 24 := by omega
  obtain ⟨a, hac⟩ : ∃ a, a = c % 25 := ⟨_, rfl⟩
  rw [← hac] at hmod hmod2 ha
  have hm' := Lib.hid hm
  have hn' := Lib.hid hn
  have hac' := Lib.hid hac
  have h47' := Lib.hid h47
  have hlv := lives_true w
  clear hm hn hac h47 hc
  go_enter Try.func3, Try.ntmps3
  go_wp2_with (go_at_call 6; refine hlv.mono ?_; rintro e w1 ⟨rfl, hB1⟩)
  refine (filled_ok a ha (hl.fr (Below.fr hB1 [])) h47'.out).mono ?_
  rintro e w2 ⟨R, B, rfl, hR, hB, hRa, hRg, hRr, htab, hRf, hBf, hB2⟩
  have hR' := Lib.hid hR
  have hB' := Lib.hid hB
  have hfacts := Lib.hid (show R.arity = a ∧ R.gone = 0 ∧ R.rows = fitAll a l ∧ B.tab = [] from ⟨hRa, hRg, hRr, htab⟩)
  clear hR hB hRa hRg hRr htab hlv hmod hmod2
  obtain ⟨mL, hmL⟩ : ∃ mL, mL = m % 2 ^ a := ⟨_, rfl⟩
  obtain ⟨nL, hnL⟩ : ∃ nL, nL = n % 2 ^ a := ⟨_, rfl⟩
  have hlo1 := low_any m a w2 hm'.out ha
  have hlo2 := low_any n a w2 hn'.out ha
  rw [← hmL] at hlo1
  rw [← hnL] at hlo2
  have hmLt : mL < 2 ^ a := by rw [hmL]; exact Nat.mod_lt _ (Nat.two_pow_pos a)
  have hnLt : nL < 2 ^ a := by rw [hnL]; exact Nat.mod_lt _ (Nat.two_pow_pos a)
  have hor : mL ||| nL < 2 ^ a := Nat.or_lt_two_pow hmLt hnLt
  have h24 : 2 ^ a ≤ 16777216 := Nat.le_trans (Nat.pow_le_pow_right (by omega) ha) (by decide)
  have hbo := bits_or_u32 mL nL (by omega) (by omega)
  have hmLt' := Lib.hid hmLt
  have hor' := Lib.hid hor
  have h24' := Lib.hid h24
  clear hmL hnL hmLt hnLt hor h24
  obtain ⟨mm, hmm⟩ : ∃ mm, mm = mL ||| nL := ⟨_, rfl⟩
  rw [← hmm] at hbo
  have hmm' := Lib.hid hmm
  clear hmm
  go_wp2_with fail
  refine hlo1.mono ?_
  rintro e w3 ⟨rfl, rfl⟩
  go_wp2_with fail
  refine hlo2.mono ?_
  rintro e w3 ⟨rfl, rfl⟩
  clear hlo1 hlo2
  go_wp2_with fail
  have hNlen : R.rows.length ≤ l.length := by rw [hfacts.out.2.2.1]; exact fitAll_len a l
  have h96 := Lib.hid (show R.rows.length * 96 ≤ 140737488355328 by have := h47'.out; omega)
  have hB0 : Below w.heap.size w w2 := hB1.trans (hB2.mono hB1.size)
  obtain ⟨N, hN⟩ : ∃ N, N = R.rows.length := ⟨_, rfl⟩
  have hN' := Lib.hid hN
  have hRf' := Lib.hid hRf
  clear hN hNlen hRf hbo hcI ha
  go_loopw [13, 14, 15] (fun ks sm ix wr => ∃ (k : Nat) (Bk : BkD), k ≤ N ∧ ix = .int .i64 k ∧ ks = .int .i64 (cnt mL R.rows k) ∧ sm = .int .i64 (tot mL R.rows k) ∧ RelAt wr R ∧ BkAt wr Bk R ∧ Bk.b = B.b ∧ (∀ c ∈ Bk.foot, w.heap.size ≤ c) ∧ Below w.heap.size w wr) (fun _ _ i _ => N - (intOf i).toNat)
  case atStart => exact ⟨0, B, Nat.zero_le _, rfl, by simp [cnt, firsts], by simp [tot, firsts], hR'.out, hB'.out, rfl, fun c hc => Nat.le_trans hB1.size (hBf c hc), hB0⟩
  case round =>
    obtain ⟨k, Bk, hk, rfl, rfl, rfl, hRk, hBk, hBb, hBkf, hBw⟩ := hrel
    have hLn := rel_Len hRk
    rw [← hN'.out] at hLn
    by_cases hlt : k < N
    · have hltI : (k : Int) < N := by omega
      obtain ⟨x, hx⟩ : ∃ x, R.rows[k]? = some x := ⟨_, List.getElem?_eq_getElem (by rw [← hN'.out]; exact hlt)⟩
      have hxr := hRk.ok x (List.mem_of_getElem? hx)
      have hAt := rel_At_yes hRk k x hx
      have hx' := Lib.hid hx
      clear hx hB0 hBf hB1 hB2
      go_wp2_with (first | (go_at_call 9; refine hLn.mono ?_; rintro e w4 ⟨rfl, rfl⟩) | (go_at_call 10; refine hAt.mono ?_; rintro e w4 ⟨rfl, hB4⟩) | (refine row_store_new rfl _ _ rfl rfl x hxr rfl rfl ?_) | (refine row_load rfl _ rfl w4.heap.size 0 rfl x hxr (rangeAt_new _ _ _) ?_))
      have hX : w4.heap.size ∉ Bk.foot := fun h => by have := hBk.flt _ h; have := hB4.size; omega
      have hF5 : Fr [] wr (w4.alloc (.cells (rowCells x).toArray 34)) := (Below.fr hB4 []).alloc _
      have hXr5 := rangeAt_new w4 34 (rowCells x)
      have hXw : w.heap.size ≤ w4.heap.size := Nat.le_trans hBw.size hB4.size
      have hXl : w4.heap.size < (w4.alloc (.cells (rowCells x).toArray 34)).heap.size := by simp
      have hR5 := hRk.fr hF5 (by simp)
      have hB5 := hBk.fr hF5 (by simp)
      clear hAt hLn hBk hRk
      generalize w4.alloc (.cells (rowCells x).toArray 34) = W5 at hF5 hXr5 hXl hR5 hB5 ⊢
      generalize w4.heap.size = X at hX hXr5 hXl hXw ⊢
      have hkx : keyR mL x = keyAt mL R.rows k := by unfold keyAt; rw [List.getD_eq_getElem?_getD, hx'.out]; rfl
      have hkx2 : keyR mm x = keyAt mm R.rows k := by unfold keyAt; rw [List.getD_eq_getElem?_getD, hx'.out]; rfl
      have hL1 := book_Look (r := x) (m := mL) hxr hB5 hR5 (by rw [hfacts.out.1]; exact hmLt'.out) h96.out
      rw [hBb, hkx] at hL1
      refine hL1.mono ?_
      rintro e w6 ⟨B6, v1, rfl, hT6, hv1, hf1⟩
      have hX6 : X ∉ B6.foot := fun h => (hT6.foot X h).elim hX (fun h => by omega)
      have hXr6 := range_fr hXr5 hT6.fr hX
      have hL2 := book_Look (r := x) (m := mm) hxr hT6.bk hT6.rl (by rw [hfacts.out.1, hmm'.out]; exact hor'.out) h96.out
      rw [hT6.eb, hBb, hkx2] at hL2
      obtain ⟨a1, c1, rfl⟩ := owns_slice hv1
      clear hL1
      go_wp2_with (refine row_load rfl _ rfl X 0 rfl x hxr hXr6 ?_)
      refine hL2.mono ?_
      rintro e w7 ⟨B7, v2, rfl, hT7, hv2, hf2⟩
      have hX7 : X ∉ B7.foot := fun h => (hT7.foot X h).elim hX6 (fun h => by have := hT6.fr.size; omega)
      have hXr7 := range_fr hXr6 hT7.fr hX6
      have hC := book_Count (r := x) (m := mL) hxr hT7.bk hT7.rl (by rw [hfacts.out.1]; exact hmLt'.out) h96.out
      rw [hT7.eb, hT6.eb, hBb, hkx] at hC
      obtain ⟨a2, c2, rfl⟩ := owns_slice hv2
      clear hL2
      go_wp2_with (refine row_load rfl _ rfl X 0 rfl x hxr hXr7 ?_)
      refine hC.mono ?_
      rintro e w8 ⟨B8, rfl, hT8⟩
      have hX8 : X ∉ B8.foot := fun h => (hT8.foot X h).elim hX7 (fun h => by have := hT6.fr.size; have := hT7.fr.size; omega)
      have hXr8 := range_fr hXr7 hT8.fr hX7
      obtain ⟨G, hG⟩ : ∃ G, G = idxs mL R.rows (keyAt mL R.rows k) := ⟨_, rfl⟩
      obtain ⟨n2, hn2⟩ : ∃ n2, n2 = (idxs mm R.rows (keyAt mm R.rows k)).length := ⟨_, rfl⟩
      obtain ⟨n1, hn1⟩ : ∃ n1, n1 = G.length := ⟨_, rfl⟩
      have hle : (n2 : Int) ≤ n1 := by
        have := mates_more (m := mL) (m' := mm) (rows := R.rows) (by rw [hmm'.out]; exact fun x y h => key_more x y h) k
        unfold mates at this
        rw [← hn2, ← hG, ← hn1] at this
        omega
      have hltd : decide (n1 < n2) = false := decide_eq_false (by omega)
      rw [← hG] at hv1 hf1
      have hI1 := ints_of_own hv1
      have hI8 := ((hI1.fr hT7.fr hf1).fr hT8.fr (fun kk hk hb => by
        rcases hT7.foot kk hb with h | h
        · exact hf1 kk hk h
        · have := (hv1.lt kk hk).2; omega))
      rw [← hG, ← hn2, ← hn1]
      have hG' := Lib.hid hG
      have hn1' := Lib.hid hn1
      have hF8 : Fr Bk.foot wr w8 := by
        have f6 := (hF5.mono (fun _ h => by cases h)).trans' hT6.fr
        have f7 := f6.trans hT7.fr (fun c hc => (hT6.foot c hc).imp id fun h => Nat.le_trans hF5.size h)
        exact f7.trans hT8.fr (fun c hc => (hT7.foot c hc).elim (fun h => (hT6.foot c h).imp id fun h => Nat.le_trans hF5.size h) (fun h => Or.inr (Nat.le_trans (Nat.le_trans hF5.size hT6.fr.size) h)))
      have hft8 : ∀ c ∈ B8.foot, w.heap.size ≤ c := fun c hc => (hT8.foot c hc).elim (fun h => (hT7.foot c h).elim (fun h => (hT6.foot c h).elim (hBkf c) (fun h => by have := hBw.size; have := hF5.size; omega)) (fun h => by have := hBw.size; have := hF5.size; have := hT6.fr.size; omega)) (fun h => by have := hBw.size; have := hF5.size; have := hT6.fr.size; have := hT7.fr.size; omega)
      have hBw8 : Below w.heap.size w w8 := ((Below.fr hBw []).trans hF8 (fun c hc => Or.inr (hBkf c hc))).below (fun _ h => by cases h) (Nat.le_refl _)
      have hBb8 : B8.b = B.b := by rw [hT8.eb, hT7.eb, hT6.eb, hBb]
      have hB8 := hT8.bk
      have hR8 := hT8.rl
      clear hn2 hn1 hG hC hI1 hv1 hv2 hf1 hf2 hT6 hT7 hT8 hXr5 hXr6 hXr7 hF5 hR5 hB5 hF8
      have hn1b := Lib.hid (show n1 ≤ R.rows.length by rw [hn1'.out, hG'.out]; exact idxs_le _ _ _)
      have hkG : k ∈ G := by rw [hG'.out]; exact self_mate (by rw [← hN'.out]; exact hlt)
      obtain ⟨a1', c1', e1, hcl, hcell⟩ := hI8
      simp only [Value.slice.injEq] at e1
      obtain ⟨rfl, _, rfl⟩ := e1
      obtain ⟨g, o, rfl, hcs⟩ := hcell.resolve_left (fun e => by rw [e] at hkG; cases hkG)
      rw [← hn1'.out] at hcl hcs
      have hcs' := Lib.hid hcs
      have hkG' := Lib.hid hkG
      clear hcs hkG hcell
      go_wp2_with fail
      go_loopw [24, 25] (fun mn ix wi => ∃ j : Nat, j ≤ n1 ∧ ix = .int .i64 j ∧ mn = .bool (decide (k ∈ G.take j)) ∧ Fr [] w8 wi) (fun _ i _ => n1 - (intOf i).toNat)
      case atStart => exact ⟨0, Nat.zero_le _, rfl, by simp, Fr.refl _ _⟩
      case round =>
        obtain ⟨j, hj, rfl, rfl, hFj⟩ := hrel
        obtain ⟨mine, hmine⟩ : ∃ mine, mine = decide (k ∈ G.take j) := ⟨_, rfl⟩
        rw [← hmine]
        have hmine' := Lib.hid hmine
        clear hmine
        by_cases hjl : j < n1
        · have hjI : (j : Int) < n1 := by omega
          have cj := hFj.cell (hcs'.out j hjl) (by simp)
          obtain ⟨y, hy⟩ : ∃ y, y = G.getD j 0 := ⟨_, rfl⟩
          rw [← hy] at cj
          have hyG : y ∈ G := by
            rw [hy, List.getD_eq_getElem?_getD, List.getElem?_eq_getElem (by rw [← hn1'.out]; exact hjl)]
            exact List.getElem_mem _
          have hym := hyG
          rw [hG'.out] at hym
          obtain ⟨hyl, hyk⟩ := mem_idxs.1 hym
          obtain ⟨z, hz⟩ : ∃ z, R.rows[y]? = some z := ⟨_, List.getElem?_eq_getElem hyl⟩
          have hzr := hR8.ok z (List.mem_of_getElem? hz)
          have hkz : keyR mL x = keyR mL z := by rw [hkx, ← hyk, List.getD_eq_getElem?_getD, hz]; rfl
          have hAt := rel_At_yes (hR8.fr hFj (by simp)) y z hz
          have hy' := Lib.hid hy
          have hkz' := Lib.hid hkz
          clear hy hz hym hyk hkx hkx2 hkz
          have hXrj := range_fr hXr8 hFj (by simp)
          go_wp2_with (first | (go_at_call 10; refine hAt.mono ?_; rintro e w9 ⟨rfl, hB9⟩) | (refine row_store_new rfl _ _ rfl rfl z hzr rfl rfl ?_))
          have hZr9 := rangeAt_new w9 34 (rowCells z)
          have hXr9 : (w9.alloc (.cells (rowCells z).toArray 34)).rangeAt X 0 (rowCells x) := range_fr hXrj ((Below.fr hB9 []).alloc _) (by simp)
          have cj9 := ((Below.fr hB9 []).alloc (.cells (rowCells z).toArray 34)).cell cj (by simp)
          have hF9 : Fr [] w8 (w9.alloc (.cells (rowCells z).toArray 34)) := hFj.trans' ((Below.fr hB9 []).alloc _)
          clear hXrj hAt cj
          have hwj : wrap64 ((j : Int) + 1) = ((j + 1 : Nat) : Int) := wrap64_succ (by have := h96.out; have := hn1b.out; omega)
          have hwj' := Lib.hid hwj
          clear hwj
          by_cases hj0 : j = 0
          · have hgt : decide (0 < j) = false := decide_eq_false (by omega)
            clear hj0
            refine region_text [] 25 [true, true, true, true, true, true, false, true, true, true, true, true, true, true, true, true, true, true, true, true, true, true, true, true, true] (by kernel_rfl) (by kernel_rfl) (by intro c a d v w h; cases d <;> exact h) ?_
            intro W1 hWh hF1
            have rx : ∀ W', Fr [] W1 W' → W'.rangeAt X 0 (rowCells x) := fun W' h' => range_fr (range_fr hXr9 hF1 (by simp)) h' (by simp)
            have rz : ∀ W', Fr [] W1 W' → W'.rangeAt w9.heap.size 0 (rowCells z) := fun W' h' => range_fr (range_fr hZr9 hF1 (by simp)) h' (by simp)
            have hlike := like_any (w := W1) (m := mL) (by have := hmLt'.out; have := h24'.out; omega) hxr hzr
            rw [decide_eq_true hkz'.out] at hlike
            clear hWh
            repeat (first | (refine lex_quiet ?_ (fun W' hW' => ?_) ?_; rotate_left; (go_simp; first | done | rfl); (try simp only [Act.put, List.setIfInBounds_toArray, List.set_cons_succ, List.set_cons_zero])) | (refine lex_row_loadG _ rfl X 0 rfl x hxr rx ?_ (by rfl); (try simp only [Act.put, List.setIfInBounds_toArray, List.set_cons_succ, List.set_cons_zero])) | (refine lex_row_loadG _ rfl w9.heap.size 0 rfl z hzr rz ?_ (by rfl); (try simp only [Act.put, List.setIfInBounds_toArray, List.set_cons_succ, List.set_cons_zero])) | (refine lex_guard (by rfl) ?_ (fun W' hW' => ?_) ?_; rotate_left; (go_simp; first | done | rfl); (try simp only [Act.put, List.setIfInBounds_toArray, List.set_cons_succ, List.set_cons_zero])) | (refine lex_skip (by rfl) ?_; (try simp only [Act.put, List.setIfInBounds_toArray, List.set_cons_succ, List.set_cons_zero])))
            refine lex_held (fun K9 hK9 => ?_)
            go_wp2_with (go_at_call 13; refine hlike.mono ?_; rintro e w10 ⟨rfl, hB10⟩)
            refine hK9 _ _ (Below.fr hB10 []) ?_
            try simp only [Act.put, List.setIfInBounds_toArray, List.set_cons_succ, List.set_cons_zero]
            clear hK9
            repeat (first | (refine lex_quiet ?_ (fun W' hW' => ?_) ?_; rotate_left; (go_simp; first | done | rfl); (try simp only [Act.put, List.setIfInBounds_toArray, List.set_cons_succ, List.set_cons_zero])) | (refine lex_guard (by rfl) ?_ (fun W' hW' => ?_) ?_; rotate_left; (go_simp; first | done | rfl); (try simp only [Act.put, List.setIfInBounds_toArray, List.set_cons_succ, List.set_cons_zero])) | (refine lex_skip (by rfl) ?_; (try simp only [Act.put, List.setIfInBounds_toArray, List.set_cons_succ, List.set_cons_zero])))
            refine lex_tail ?_
            have hFend : Fr [] w8 w10 := hF9.trans' (hF1.trans' (Below.fr hB10 []))
            have cjz := (hF1.trans' (Below.fr hB10 [])).cell cj9 (by simp)
            have hms := mine_step (k := k) (G := G) (j := j) (by rw [← hn1'.out]; exact hjl)
            rw [← hy'.out, ← hmine'.out] at hms
            have hms' := Lib.hid hms
            clear hms rx rz hlike
            cases mine with
            | true =>
              go_wp2_with fail
              go_roundw
              case rel => refine ⟨j + 1, by omega, ?_, ?_, hFend⟩; (rw [hwj'.out]); (rw [hms'.out]; rfl)
              case measure => exact less_step n1 j _ hwj'.out hjl
            | false =>
              by_cases hyk : y = k
              · have hbe : ((y : Int) == (k : Int)) = true := by simp [hyk]
                have hyk' := Lib.hid hyk
                clear hyk
                go_wp2_with fail
                go_roundw
                case rel => refine ⟨j + 1, by omega, ?_, ?_, hFend⟩; (rw [hwj'.out]); (rw [hms'.out]; simp [hyk'.out])
                case measure => exact less_step n1 j _ hwj'.out hjl
              · have hbe : ((y : Int) == (k : Int)) = false := by simp; omega
                go_wp2_with fail
                go_roundw
                case rel => refine ⟨j + 1, by omega, ?_, ?_, hFend⟩; (rw [hwj'.out]); (rw [hms'.out]; simp [hyk])
                case measure => exact less_step n1 j _ hwj'.out hjl
          · obtain ⟨i, hi⟩ : ∃ i, j = i + 1 := ⟨j - 1, by omega⟩
            have hgt : decide (0 < j) = true := decide_eq_true (by omega)
            have hwm : IntKind.i64.wrap ((j : Int) - 1) = (i : Int) := by have := h96.out; have := hn1b.out; rw [show (j : Int) - 1 = (i : Int) by omega]; exact IntWalk.i64_in _ (by omega)
            have ci := hFj.cell (hcs'.out i (by omega)) (by simp)
            have ci9 := ((Below.fr hB9 []).alloc (.cells (rowCells z).toArray 34)).cell ci (by simp)
            have hiI : (i : Int) < n1 := by omega
            obtain ⟨y0, hy0⟩ : ∃ y0, y0 = G.getD i 0 := ⟨_, rfl⟩
            rw [← hy0] at ci9
            have hlty : y0 < y := by
              have hs := idxs_sorted mL R.rows (keyAt mL R.rows k)
              rw [← hG'.out] at hs
              have h1 : i < G.length := by rw [← hn1'.out]; omega
              have h2 : j < G.length := by rw [← hn1'.out]; omega
              rw [hy0, hy'.out, List.getD_eq_getElem?_getD, List.getD_eq_getElem?_getD, List.getElem?_eq_getElem h1, List.getElem?_eq_getElem h2]
              exact (List.pairwise_iff_getElem.1 hs) i j h1 h2 (by omega)
            have hge : decide (y ≤ y0) = false := decide_eq_false (by omega)
            have hi' := Lib.hid hi
            clear hj0 hi ci hy0 hlty
            refine region_text [] 25 [true, true, true, true, true, true, false, true, true, true, true, true, true, true, true, true, true, true, true, true, true, true, true, true, true] (by kernel_rfl) (by kernel_rfl) (by intro c a d v w h; cases d <;> exact h) ?_
            intro W1 hWh hF1
            have rx : ∀ W', Fr [] W1 W' → W'.rangeAt X 0 (rowCells x) := fun W' h' => range_fr (range_fr hXr9 hF1 (by simp)) h' (by simp)
            have rz : ∀ W', Fr [] W1 W' → W'.rangeAt w9.heap.size 0 (rowCells z) := fun W' h' => range_fr (range_fr hZr9 hF1 (by simp)) h' (by simp)
            have f1 : ∀ W', Fr [] W1 W' → W'.cell? ⟨g, o + j, none⟩ = some (.int .i64 (y : Int)) := fun W' h' => (hF1.trans' h').cell cj9 (by simp)
            have f2 : ∀ W', Fr [] W1 W' → W'.cell? ⟨g, o + i, none⟩ = some (.int .i64 (y0 : Int)) := fun W' h' => (hF1.trans' h').cell ci9 (by simp)
            have hlike := like_any (w := W1) (m := mL) (by have := hmLt'.out; have := h24'.out; omega) hxr hzr
            rw [decide_eq_true hkz'.out] at hlike
            clear hWh ci9
            repeat (first | (refine lex_quiet ?_ (fun W' hW' => ?_) ?_; rotate_left; (go_simp; first | done | rfl); (try simp only [Act.put, List.setIfInBounds_toArray, List.set_cons_succ, List.set_cons_zero])) | (refine lex_row_loadG _ rfl X 0 rfl x hxr rx ?_ (by rfl); (try simp only [Act.put, List.setIfInBounds_toArray, List.set_cons_succ, List.set_cons_zero])) | (refine lex_row_loadG _ rfl w9.heap.size 0 rfl z hzr rz ?_ (by rfl); (try simp only [Act.put, List.setIfInBounds_toArray, List.set_cons_succ, List.set_cons_zero])) | (refine lex_guard (by rfl) ?_ (fun W' hW' => ?_) ?_; rotate_left; (go_simp; first | done | rfl); (try simp only [Act.put, List.setIfInBounds_toArray, List.set_cons_succ, List.set_cons_zero])) | (refine lex_skip (by rfl) ?_; (try simp only [Act.put, List.setIfInBounds_toArray, List.set_cons_succ, List.set_cons_zero])))
            refine lex_held (fun K9 hK9 => ?_)
            go_wp2_with (go_at_call 13; refine hlike.mono ?_; rintro e w10 ⟨rfl, hB10⟩)
            refine hK9 _ _ (Below.fr hB10 []) ?_
            try simp only [Act.put, List.setIfInBounds_toArray, List.set_cons_succ, List.set_cons_zero]
            clear hK9
            repeat (first | (refine lex_quiet ?_ (fun W' hW' => ?_) ?_; rotate_left; (go_simp; first | done | rfl); (try simp only [Act.put, List.setIfInBounds_toArray, List.set_cons_succ, List.set_cons_zero])) | (refine lex_guard (by rfl) ?_ (fun W' hW' => ?_) ?_; rotate_left; (go_simp; first | done | rfl); (try simp only [Act.put, List.setIfInBounds_toArray, List.set_cons_succ, List.set_cons_zero])) | (refine lex_skip (by rfl) ?_; (try simp only [Act.put, List.setIfInBounds_toArray, List.set_cons_succ, List.set_cons_zero])))
            refine lex_tail ?_
            clear f1 f2 hgt hge hwm
            have hFend : Fr [] w8 w10 := hF9.trans' (hF1.trans' (Below.fr hB10 []))
            have cjz := (hF1.trans' (Below.fr hB10 [])).cell cj9 (by simp)
            have hms := mine_step (k := k) (G := G) (j := j) (by rw [← hn1'.out]; exact hjl)
            rw [← hy'.out, ← hmine'.out] at hms
            have hms' := Lib.hid hms
            clear hms rx rz hlike
            cases mine with
            | true =>
              go_wp2_with fail
              go_roundw
              case rel => refine ⟨j + 1, by omega, ?_, ?_, hFend⟩; (rw [hwj'.out]); (rw [hms'.out]; rfl)
              case measure => exact less_step n1 j _ hwj'.out hjl
            | false =>
              by_cases hyk : y = k
              · have hbe : ((y : Int) == (k : Int)) = true := by simp [hyk]
                have hyk' := Lib.hid hyk
                clear hyk
                go_wp2_with fail
                go_roundw
                case rel => refine ⟨j + 1, by omega, ?_, ?_, hFend⟩; (rw [hwj'.out]); (rw [hms'.out]; simp [hyk'.out])
                case measure => exact less_step n1 j _ hwj'.out hjl
              · have hbe : ((y : Int) == (k : Int)) = false := by simp; omega
                go_wp2_with fail
                go_roundw
                case rel => refine ⟨j + 1, by omega, ?_, ?_, hFend⟩; (rw [hwj'.out]); (rw [hms'.out]; simp [hyk])
                case measure => exact less_step n1 j _ hwj'.out hjl
        · obtain rfl : n1 = j := by omega
          have hkN : k < R.rows.length := by rw [← hN'.out]; exact hlt
          have hmt : mine = true := by rw [hmine'.out]; exact decide_eq_true (by rw [hn1'.out, List.take_length]; exact hkG'.out)
          subst hmt
          have hpos : 0 < n1 := by rw [hn1'.out]; exact List.length_pos_of_mem hkG'.out
          have c0 := hFj.cell (hcs'.out 0 hpos) (by simp)
          rw [Nat.add_zero] at c0
          obtain ⟨y, hy⟩ : ∃ y, y = G.getD 0 0 := ⟨_, rfl⟩
          rw [← hy] at c0
          have hfst := first_head (m := mL) hkN
          have hGm : mates mL R.rows k = G := hG'.out.symm
          rw [hGm, ← hy] at hfst
          have hfst' := Lib.hid hfst
          have hGm' := Lib.hid hGm
          have hRi := hR8.fr hFj (by simp)
          have hBi := hB8.fr hFj (by simp)
          have hBwi : Below w.heap.size w wr := ((Below.fr hBw8 []).trans' hFj).below (fun _ h => by cases h) (Nat.le_refl _)
          have hwk := Lib.hid (show wrap64 ((k : Int) + 1) = ((k + 1 : Nat) : Int) from wrap64_succ (by have := h96.out; omega))
          have hcl := cnt_le (m := mL) (rows := R.rows) k
          have hcl' := Lib.hid (show wrap64 ((cnt mL R.rows k : Nat) + 1 : Int) = ((cnt mL R.rows k + 1 : Nat) : Int) from wrap64_succ (by have := h96.out; omega))
          obtain ⟨Cn, hCn⟩ : ∃ Cn, Cn = cnt mL R.rows k := ⟨_, rfl⟩
          obtain ⟨Tn, hTn⟩ : ∃ Tn, Tn = tot mL R.rows k := ⟨_, rfl⟩
          rw [← hCn] at hcl' ⊢
          rw [← hTn]
          have hCn' := Lib.hid hCn
          have hTn' := Lib.hid hTn
          clear hcl hfst hGm hy hCn hTn hB8 hR8 hFj hBw8 hxr hkx hkx2 hmine' hXr8 hX8
          by_cases hyk : y = k
          · have hbe : ((y : Int) == (k : Int)) = true := by simp [hyk]
            have hst := cnt_first (m := mL) (rows := R.rows) (k := k) (by rw [hfst'.out]; exact decide_eq_true hyk)
            rw [hGm'.out, ← hCn'.out, ← hTn'.out, ← hn1'.out] at hst
            have hst' := Lib.hid hst
            have htl' := Lib.hid (show wrap64 ((Tn : Int) + (n1 : Int)) = ((Tn + n1 : Nat) : Int) by have h := tot_le (m := mL) (rows := R.rows) (k := k + 1) hkN; rw [hst.2] at h; have := h96.out; exact wrap64_add (by omega))
            clear hst hyk
            go_wp2_with fail
            go_roundw
            case rel => exact ⟨k + 1, B8, by omega, by rw [hwk.out], by rw [hcl'.out, hst'.out.1], by rw [htl'.out, hst'.out.2], hRi, hBi, hBb8, hft8, hBwi⟩
            case measure => exact less_step N k _ hwk.out hlt
          · have hbe : ((y : Int) == (k : Int)) = false := by simp; omega
            have hst := cnt_not (m := mL) (rows := R.rows) (k := k) (by rw [hfst'.out]; exact decide_eq_false hyk)
            rw [← hCn'.out, ← hTn'.out] at hst
            have hst' := Lib.hid hst
            clear hst hyk
            go_wp2_with fail
            go_roundw
            case rel => exact ⟨k + 1, B8, by omega, by rw [hwk.out], by rw [hst'.out.1], by rw [hst'.out.2], hRi, hBi, hBb8, hft8, hBwi⟩
            case measure => exact less_step N k _ hwk.out hlt
    · obtain rfl : N = k := by omega
      have hcN : cnt mL R.rows N = (grp mL R.rows).length := by rw [hN'.out]; exact count_firsts mL R.rows
      have htN : tot mL R.rows N = N := by rw [hN'.out]; exact sum_firsts mL R.rows
      have hD1 := book_Distinct (m := mL) hBk hRk (by rw [hfacts.out.1]; exact hmLt'.out) h96.out
      rw [hBb] at hD1
      have hge : (grp mL R.rows).length ≤ (grp mm R.rows).length := by
        rw [← count_firsts, ← count_firsts]
        exact firsts_le (by rw [hmm'.out]; exact fun x y h => key_more x y h)
      obtain ⟨d1, hd1⟩ : ∃ d1, d1 = (grp mL R.rows).length := ⟨_, rfl⟩
      obtain ⟨d2, hd2⟩ : ∃ d2, d2 = (grp mm R.rows).length := ⟨_, rfl⟩
      rw [← hd1] at hcN hD1 hge
      rw [← hd2] at hge
      have hgeb : decide (d1 ≤ d2) = true := decide_eq_true hge
      have hgeI : (d1 : Int) ≤ d2 := by omega
      rw [hcN, htN]
      have hd2' := Lib.hid hd2
      clear hd1 hd2 hcN htN hRk hBk
      go_wp2_with fail
      refine hLn.mono ?_
      rintro e w4 ⟨rfl, rfl⟩
      clear hLn
      go_wp2_with fail
      refine hD1.mono ?_
      rintro e w6 ⟨B6, rfl, hT6⟩
      have hD2 := book_Distinct (m := mm) hT6.bk hT6.rl (by rw [hfacts.out.1, hmm'.out]; exact hor'.out) h96.out
      rw [hT6.eb, hBb, ← hd2'.out] at hD2
      clear hD1
      go_wp2_with fail
      refine hD2.mono ?_
      rintro e w7 ⟨B7, rfl, hT7⟩
      have hLn := rel_Len hT7.rl
      rw [← hN'.out] at hLn
      have hfin : Below w.heap.size w w7 := (((Below.fr hBw []).trans hT6.fr (fun c hc => Or.inr (hBkf c hc))).trans hT7.fr (fun c hc => (hT6.foot c hc).elim (fun h => Or.inr (hBkf c h)) (fun h => Or.inr (Nat.le_trans hBw.size h)))).below (fun _ h => by cases h) (Nat.le_refl _)
      clear hD2 hBb hT6 hT7
      go_wp2_with (go_at_call 9; refine hLn.mono ?_; rintro e w8 ⟨rfl, rfl⟩)
      go_ret
      exact ⟨rfl, hfin⟩
end Go.Proofs.Ytepimaghpjkibaa

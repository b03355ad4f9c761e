/-
  'filled': a relation of so many columns with these rows, and a book over it.
-/
import Derived.Test.YtepimaghpjkibaaLives
import Derived.Deep.CutBlock
import Derived.Deep.DeepCutAuto
namespace Go.Proofs.Ytepimaghpjkibaa
open Go.RowKit

def fitAll (a : Nat) (l : List Row) : List Row := l.foldl (fun rs x => addRow rs (fitRow x a)) []

theorem fitAll_snoc (a : Nat) (l : List Row) (x : Row) : fitAll a (l ++ [x]) = addRow (fitAll a l) (fitRow x a) := by simp [fitAll]

theorem fitAll_len (a : Nat) (l : List Row) : (fitAll a l).length ≤ l.length := by
  induction l using list_snoc with
  | h0 => simp [fitAll]
  | h1 l x ih =>
    rw [fitAll_snoc, addRow]
    split <;> simp <;> omega

/-- A slice of these rows. -/
def RowsAt (w : World) (v : Value) (l : List Row) : Prop :=
  ∃ sa c, v = .slice sa l.length c ∧ l.length ≤ c ∧ (l = [] ∨ ∃ g o, sa = some ⟨g, o, none⟩ ∧ g < w.heap.size ∧ ∀ (i : Nat) (x : Row), l[i]? = some x → w.rangeAt g (o + i * 24) (rowCells x)) ∧ ∀ x ∈ l, IsRow x

set_option maxRecDepth 100000 in
set_option maxHeartbeats 400000 in
theorem filled_ok {w : World} {v : Value} {l : List Row} (a : Nat) (ha : a ≤ 24) (hl : RowsAt w v l) (h47 : l.length * 96 ≤ 140737488355328) :
    Calls Try.prog 7 #[.int .i64 a, v] w fun e w' => ∃ (R : RelD) (B : BkD), e = .returned (.tuple #[.pointer (some ⟨R.p, 0, none⟩), .pointer (some ⟨B.b, 0, none⟩)]) ∧ RelAt w' R ∧ BkAt w' B R ∧ R.arity = a ∧ R.gone = 0 ∧ R.rows = fitAll a l ∧ B.tab = [] ∧
      (∀ c ∈ R.foot, w.heap.size ≤ c) ∧ (∀ c ∈ B.foot, w.heap.size ≤ c) ∧ Below w.heap.size w w' := by
  obtain ⟨sa, sc, rfl, hlc, hsl, hok⟩ := hl
  have hN := rel_New a w ha
  have haI : (a : Int) ≤ 24 := by omega
  have hsl' := Lib.hid hsl
  have hok' := Lib.hid hok
  obtain ⟨n, hn⟩ : ∃ n, n = l.length := ⟨_, rfl⟩
  rw [← hn] at hlc h47 ⊢
  have h47' := Lib.hid h47
  have hn' := Lib.hid hn
  clear h47 hn hsl hok
  go_enter Try.func7, Try.ntmps7
  go_wp2_with (go_at_call 23; refine hN.mono ?_; rintro e w1 ⟨R0, rfl, hR0, har0, hgn0, hrs0, hft0, hB1⟩)
  obtain ⟨p0, hp0⟩ : ∃ p0, p0 = R0.p := ⟨_, rfl⟩
  rw [← hp0]
  go_loopw [8, 9] (fun b i wr => ∃ (k : Nat) (R : RelD), k ≤ n + 1 ∧ i = .int .i64 k ∧ RelAt wr R ∧ R.p = p0 ∧ R.arity = a ∧ R.gone = 0 ∧ R.rows = fitAll a (l.take k) ∧ (∀ c ∈ R.foot, w.heap.size ≤ c) ∧ Below w.heap.size w wr ∧
    ((k ≤ n / 2 ∧ b = .pointer none) ∨ (n / 2 < k ∧ ∃ B : BkD, b = .pointer (some ⟨B.b, 0, none⟩) ∧ BkAt wr B R ∧ B.tab = [] ∧ ∀ c ∈ B.foot, w.heap.size ≤ c))) (fun _ i _ => n + 1 - (intOf i).toNat)
  case atStart => exact ⟨0, R0, by omega, rfl, hR0, hp0.symm, har0, hgn0, by rw [hrs0]; rfl, hft0, hB1, Or.inl ⟨by omega, rfl⟩⟩
  case round =>
    obtain ⟨k, R, hk, rfl, hR, hRp, hRa, hRg, hRr, hRf, hBw, hb⟩ := hrel
    by_cases hle : k ≤ n
    · have hleI : (k : Int) ≤ n := by omega
      have hwq : wrap64 ((n : Int) / 2) = ((n / 2 : Nat) : Int) := by have := h47'.out; unfold wrap64; omega
      obtain ⟨q, hq⟩ : ∃ q, q = n / 2 := ⟨_, rfl⟩
      rw [← hq] at hwq hb
      have hq' := Lib.hid hq
      have hRr' := Lib.hid hRr
      have hRa' := Lib.hid hRa
      have hRg' := Lib.hid hRg
      clear hq hRr hRa hRg hN hR0 har0 hgn0 hrs0 hft0 hB1 hp0
      obtain rfl := hRp
      go_upto_if 33 with (fail)
      go_cut [8, 10, 11] (fun b _ _ wd => RelAt wd R ∧ Below w.heap.size w wd ∧ ((k < q ∧ b = .pointer none) ∨ (q ≤ k ∧ ∃ B : BkD, b = .pointer (some ⟨B.b, 0, none⟩) ∧ BkAt wd B R ∧ B.tab = [] ∧ ∀ c ∈ B.foot, w.heap.size ≤ c)))
      case first =>
        by_cases hkq : k = q
        · have hbe : ((k : Int) == (q : Int)) = true := by simp [hkq]
          have hkq' := Lib.hid hkq
          clear hkq
          rw [hwq, hbe]
          go_wp2_with (go_at_call 15; refine (book_New hR).mono ?_; rintro e w4 ⟨B, rfl, hB4, htab, hft4, hBl4⟩)
          go_meet
          case rel => exact ⟨hR.below hBl4, hBw.trans (hBl4.mono hBw.size), Or.inr ⟨by have := hkq'.out; omega, B, rfl, hB4, htab, fun c hc => Nat.le_trans hBw.size (hft4 c hc)⟩⟩
        · have hbe : ((k : Int) == (q : Int)) = false := by simp; omega
          rw [hwq, hbe]
          go_wp2_with fail
          go_meet
          case rel => exact ⟨hR, hBw, hb.imp (fun h => ⟨by omega, h.2⟩) (fun h => ⟨by omega, h.2⟩)⟩
      case rest =>
        obtain ⟨hRd, hBd, hbd⟩ := hcut
        have hwk : wrap64 ((k : Int) + 1) = (k : Int) + 1 := by have := h47'.out; unfold wrap64; omega
        by_cases hlt : k < n
        · have hltI : (k : Int) < n := by omega
          obtain ⟨x, hx⟩ : ∃ x, l[k]? = some x := ⟨_, List.getElem?_eq_getElem (by rw [← hn'.out]; exact hlt)⟩
          have hxr := hok'.out x (List.mem_of_getElem? hx)
          obtain ⟨g, o, rfl, hgl, hra⟩ := hsl'.out.resolve_left (fun e => by rw [e] at hx; cases hx)
          have hrk := range_fr (hra k x hx) (Below.fr hBd []) (by simp)
          have hx' := Lib.hid hx
          clear hra hx hwq
          have hlen := fitAll_len a (l.take k)
          rw [List.length_take] at hlen
          go_wp2_with (first | (refine row_load rfl _ rfl g (o + k * 24) rfl x hxr hrk ?_) | (go_at_call 24; refine (fit_any a hxr ha).mono ?_; rintro e w5 ⟨rfl, hB5⟩))
          have hAdd := rel_Add (hRd.below hB5) (x := fitRow x a) (by rw [hRa'.out]; exact fit_good hxr a) (by have := h47'.out; rw [hRr'.out]; omega)
          refine hAdd.mono ?_
          rintro e w6 ⟨b6, sv6, rfl, hR6, hsv6, hF6⟩
          have hBB6 : ∀ B : BkD, BkAt wc B R → BkAt w6 B { R with rows := addRow R.rows (fitRow x a), sv := sv6 } := fun B hB => (hB.below hB5).added (x := fitRow x a) hF6 hsv6
          have hf6 : Fr [] w w6 := ((Below.fr hBd []).trans' (Below.fr hB5 [])).trans hF6 (fun c hc => Or.inr (hRf c (R.inner_foot c hc)))
          clear hAdd hRd
          go_wp2_with fail
          refine ⟨⟨k + 1, _, by omega, by rw [hwk]; rfl, hR6, rfl, hRa'.out, hRg'.out, ?_, ?_, hf6.below (fun _ h => by cases h) (Nat.le_refl _), ?_⟩, by rw [hwk]; simp only [intOf]; omega⟩
          · show addRow R.rows _ = _
            rw [List.take_add_one, hx'.out, Option.toList_some, fitAll_snoc, hRr'.out]
          · intro c hc
            simp only [RelD.foot, List.mem_cons, Option.mem_toList] at hc
            rcases hc with e | e | e | e
            · exact hRf c (by simp [RelD.foot, e])
            · exact hRf c (by simp [RelD.foot, e])
            · exact hRf c (by simp [RelD.foot, e])
            · rcases hsv6 c e with e' | e'
              · exact hRf c (by simp [RelD.foot, e'])
              · exact Nat.le_trans (Nat.le_trans hBd.size hB5.size) e'
          · rw [← hq'.out]
            exact hbd.imp (fun h => ⟨by omega, h.2⟩) (fun ⟨h, B, h1, h2, h3, h4⟩ => ⟨by omega, B, h1, hBB6 B h2, h3, h4⟩)
        · have hkn := Lib.hid (show k = n by omega)
          have hltb : ((k : Int) < n) = False := by simp; omega
          clear hwq
          go_wp2_with fail
          refine ⟨⟨k + 1, R, by omega, by rw [hwk]; rfl, hRd, rfl, hRa'.out, hRg'.out, ?_, hRf, hBd, ?_⟩, by rw [hwk]; simp only [intOf]; omega⟩
          · rw [hRr'.out, List.take_of_length_le (by rw [← hn'.out]; omega), List.take_of_length_le (by rw [← hn'.out]; omega)]
          · rw [← hq'.out]
            exact hbd.imp (fun h => ⟨by omega, h.2⟩) (fun ⟨h, h2⟩ => ⟨by omega, h2⟩)
    · have hnl : ¬ (k : Int) ≤ n := by omega
      obtain ⟨B, rfl, hBB, htab, hBf⟩ := (hb.resolve_left (fun h => by omega)).2
      obtain rfl := hRp
      have hk' : l.take k = l := List.take_of_length_le (by rw [← hn'.out]; omega)
      rw [hk'] at hRr
      have hall : ∀ e, e = Ending.returned (Value.tuple #[.pointer (some ⟨R.p, 0, none⟩), .pointer (some ⟨B.b, 0, none⟩)]) → ∃ (R : RelD) (B : BkD), e = .returned (.tuple #[.pointer (some ⟨R.p, 0, none⟩), .pointer (some ⟨B.b, 0, none⟩)]) ∧ RelAt wr R ∧ BkAt wr B R ∧ R.arity = a ∧ R.gone = 0 ∧ R.rows = fitAll a l ∧ B.tab = [] ∧
        (∀ c ∈ R.foot, w.heap.size ≤ c) ∧ (∀ c ∈ B.foot, w.heap.size ≤ c) ∧ Below w.heap.size w wr := fun e he => ⟨R, B, he, hR, hBB, hRa, hRg, hRr, htab, hRf, hBf, hBw⟩
      have hall' := Lib.hid hall
      clear hall hR hBB hRa hRg hRr htab hRf hBf hBw hk' hp0 hR0 har0 hgn0 hrs0 hft0 hB1 hN hb
      go_wp2_with fail
      refine bodyPost_ret (results_tmp2 rfl _ _ _) rfl (hall'.out _ rfl)
end Go.Proofs.Ytepimaghpjkibaa

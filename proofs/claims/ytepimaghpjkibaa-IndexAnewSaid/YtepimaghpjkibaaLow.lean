/-
  The statement's own small functions: low, SameInts.
-/
import Derived.Test.YtepimaghpjkibaaLike
namespace Go.Proofs.Ytepimaghpjkibaa
open Go.RowKit

theorem low_step (m k : Nat) : m % 2 ^ (k + 1) = if m.testBit k then m % 2 ^ k ||| 2 ^ k else m % 2 ^ k := by
  apply Nat.eq_of_testBit_eq
  intro i
  rw [Nat.testBit_mod_two_pow]
  split
  · rename_i hb
    rw [Nat.testBit_or, Nat.testBit_mod_two_pow, Nat.testBit_two_pow]
    by_cases e : k = i
    · subst e; simp [hb]
    · have : (i < k + 1) ↔ (i < k) := by omega
      simp [e, this]
  · rename_i hb
    rw [Nat.testBit_mod_two_pow]
    by_cases e : k = i
    · subst e
      have : m.testBit k = false := by simpa using hb
      simp [this]
    · have : (i < k + 1) ↔ (i < k) := by omega
      simp [this]

theorem or_step (m k : Nat) (hk : k < 32) : bits BinOp.or IntKind.u32 ((m % 2 ^ k : Nat) : Int) ((2 : Int) ^ k % 4294967296) = ((m % 2 ^ k ||| 2 ^ k : Nat) : Int) := by
  have hp : 2 ^ k < 4294967296 := Nat.pow_lt_pow_right (a := 2) (by omega) (show k < 32 from hk)
  have h1 : m % 2 ^ k < 2 ^ k := Nat.mod_lt _ (Nat.two_pow_pos k)
  have e : ((2 ^ k : Nat) : Int) = (2 : Int) ^ k := by simp
  rw [← e, Int.emod_eq_of_lt (Int.natCast_nonneg _) (by omega), bits_or_u32 _ _ (by omega) hp]

set_option maxRecDepth 100000 in
set_option maxHeartbeats 400000 in
theorem low_any (m a : Nat) (w : World) (hm : m < 4294967296) (ha : a ≤ 24) :
    Calls Try.prog 8 #[.int .u32 m, .int .i64 a] w fun e w' => e = .returned (.int .u32 ((m % 2 ^ a : Nat) : Int)) ∧ w = w' := by
  have his := fun (W : World) (i : Nat) (hi : i < 64) => is_any m i W hm hi
  have hm' := Lib.hid hm
  have haI : (a : Int) ≤ 24 := by omega
  clear hm
  go_enter Try.func8, Try.ntmps8
  go_wp2_with fail
  go_loopw [5, 6] (fun out idx wr => ∃ k : Nat, k ≤ a ∧ out = .int .u32 ((m % 2 ^ k : Nat) : Int) ∧ idx = .int .i64 k ∧ wr = w) (fun _ i _ => a - (intOf i).toNat)
  case atStart => exact ⟨0, by omega, by simp [Nat.mod_one], rfl, rfl⟩
  case round =>
    obtain ⟨k, hk, rfl, rfl, rfl⟩ := hrel
    by_cases hlt : k < a
    · have hi := his wr k (by omega)
      have hst := low_step m k
      have hor := or_step m k (by omega)
      obtain ⟨c, hc⟩ : ∃ c, c = m % 2 ^ k := ⟨_, rfl⟩
      rw [← hc] at hst hor ⊢
      have hst' := Lib.hid hst
      have hc' := Lib.hid hc
      clear hst hc his
      by_cases hb : m.testBit k = true
      · rw [hb] at hi
        go_wp2_with (go_at_call 25; refine hi.mono ?_; rintro e w9 ⟨rfl, rfl⟩)
        go_roundw
        case rel => exact ⟨k + 1, by omega, by rw [hst'.out, hb]; rfl, rfl, trivial⟩
        case measure => simp only [intOf]; omega
      · have hb' : m.testBit k = false := by simpa using hb
        rw [hb'] at hi
        clear hb
        go_wp2_with (go_at_call 25; refine hi.mono ?_; rintro e w9 ⟨rfl, rfl⟩)
        go_roundw
        case rel => exact ⟨k + 1, by omega, by rw [hst'.out, hb']; rfl, rfl, trivial⟩
        case measure => simp only [intOf]; omega
    · obtain rfl : k = a := by omega
      clear his
      go_wp2_with fail
      go_ret
      exact ⟨rfl, rfl⟩

/-- A slice of these numbers. -/
def IntsAt (w : World) (v : Value) (l : List Nat) : Prop := ∃ a c, v = .slice a l.length c ∧ l.length ≤ c ∧ (l = [] ∨ ∃ g o, a = some ⟨g, o, none⟩ ∧ ∀ i, i < l.length → w.cell? ⟨g, o + i, none⟩ = some (.int .i64 ((l.getD i 0 : Nat) : Int)))

set_option maxRecDepth 100000 in
set_option maxHeartbeats 400000 in
theorem same_ints {w : World} {v1 v2 : Value} {l : List Nat} (h1 : IntsAt w v1 l) (h2 : IntsAt w v2 l) (hb : l.length ≤ 140737488355328) :
    Calls Try.prog 21 #[v1, v2] w fun e w' => e = .returned (.bool true) ∧ Below w.heap.size w w' := by
  obtain ⟨a1, c1, rfl, hc1, h1⟩ := h1
  obtain ⟨a2, c2, rfl, hc2, h2⟩ := h2
  by_cases hl : l = []
  · subst hl
    go_enter Try.func21, Try.ntmps21
    go_wp2_with fail
    go_loopw [5] (fun idx wr => idx = .int .i64 0 ∧ wr = w) (fun _ _ => 0)
    case atStart => exact ⟨rfl, rfl⟩
    case round =>
      obtain ⟨rfl, rfl⟩ := hrel
      go_wp2_with fail
      go_ret
      exact ⟨rfl, Below.refl _ _⟩
  · obtain ⟨g1, o1, rfl, k1⟩ := h1.resolve_left hl
    obtain ⟨g2, o2, rfl, k2⟩ := h2.resolve_left hl
    obtain ⟨n, hn⟩ : ∃ n, n = l.length := ⟨_, rfl⟩
    rw [← hn] at hc1 hc2 k1 k2 hb ⊢
    have hb' := Lib.hid hb
    clear hb
    have K1 := Lib.hid k1
    have K2 := Lib.hid k2
    clear h1 h2 k1 k2 hn hl
    go_enter Try.func21, Try.ntmps21
    go_wp2_with fail
    go_loopw [5] (fun idx wr => ∃ k : Nat, k ≤ n ∧ idx = .int .i64 k ∧ Fr [] w wr) (fun i _ => n - (intOf i).toNat)
    case atStart => exact ⟨0, Nat.zero_le _, rfl, Fr.refl _ _⟩
    case round =>
      obtain ⟨k, hk, rfl, hF⟩ := hrel
      by_cases hlt : k < n
      · have hltI : (k : Int) < n := by omega
        have x1 := K1.out k hlt
        have x2 := K2.out k hlt
        obtain ⟨y, hy⟩ : ∃ y, y = l.getD k 0 := ⟨_, rfl⟩
        rw [← hy] at x1 x2
        clear hy
        go_upto_region 6 with (fail)
        refine region_text [] 9 [true, true, true, true, true, true, true, true, true] (by kernel_rfl) (by kernel_rfl) (by intro c a d v w h; cases d <;> exact h) ?_
        intro W1 hWh hF1
        have f1 : ∀ W', Fr [] W1 W' → W'.cell? ⟨g1, o1 + k, none⟩ = some (.int .i64 (y : Int)) := fun W' h' => ((hF.trans' hF1).trans' h').cell x1 (by simp)
        have f2 : ∀ W', Fr [] W1 W' → W'.cell? ⟨g2, o2 + k, none⟩ = some (.int .i64 (y : Int)) := fun W' h' => ((hF.trans' hF1).trans' h').cell x2 (by simp)
        clear hWh x1 x2
        repeat (refine lex_quiet ?_ (fun W' hW' => ?_) ?_; rotate_left; (go_simp; first | done | rfl); (try simp only [Act.put, List.setIfInBounds_toArray, List.set_cons_succ, List.set_cons_zero]))
        refine lex_tail ?_
        clear f1 f2
        go_wp2_with fail
        go_roundw
        case rel => exact ⟨k + 1, by omega, by have h := hb'.out; rw [show wrap64 ((k : Int) + 1) = (k : Int) + 1 by unfold wrap64; omega]; rfl, hF.trans' hF1⟩
        case measure => have h := hb'.out; rw [show wrap64 ((k : Int) + 1) = (k : Int) + 1 by unfold wrap64; omega]; simp only [intOf]; omega
      · obtain rfl : k = n := by omega
        go_wp2_with fail
        go_ret
        exact ⟨rfl, hF.below (fun _ h => by cases h) (Nat.le_refl _)⟩
end Go.Proofs.Ytepimaghpjkibaa

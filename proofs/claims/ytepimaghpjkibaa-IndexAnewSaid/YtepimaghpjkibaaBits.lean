/-
  Masks: what the walk's words for bits say of natural numbers.
-/
import Derived.Test.YtepimaghpjkibaaBase
namespace Go.Proofs.Ytepimaghpjkibaa
open Go.RowKit

theorem bits_and_u32 (a b : Nat) (ha : a < 4294967296) (hb : b < 4294967296) : bits .and .u32 a b = ((a &&& b : Nat) : Int) := by
  have hab : a &&& b < 4294967296 := Nat.lt_of_le_of_lt Nat.and_le_left ha
  have e : (BitVec.ofNat 32 a &&& BitVec.ofNat 32 b).toNat = a &&& b := by
    rw [BitVec.toNat_and, BitVec.toNat_ofNat, BitVec.toNat_ofNat, Nat.mod_eq_of_lt (by omega), Nat.mod_eq_of_lt (by omega)]
  have h : bits .and .u32 (a : Int) (b : Int) = IntKind.u32.wrap (((BitVec.ofNat 32 a &&& BitVec.ofNat 32 b).toNat : Nat) : Int) := rfl
  rw [h, e, IntKind.wrap_u32]
  omega

theorem bits_or_u32 (a b : Nat) (ha : a < 4294967296) (hb : b < 4294967296) : bits .or .u32 a b = ((a ||| b : Nat) : Int) := by
  have hab : a ||| b < 4294967296 := Nat.or_lt_two_pow (n := 32) ha hb
  have e : (BitVec.ofNat 32 a ||| BitVec.ofNat 32 b).toNat = a ||| b := by
    rw [BitVec.toNat_or, BitVec.toNat_ofNat, BitVec.toNat_ofNat, Nat.mod_eq_of_lt (by omega), Nat.mod_eq_of_lt (by omega)]
  have h : bits .or .u32 (a : Int) (b : Int) = IntKind.u32.wrap (((BitVec.ofNat 32 a ||| BitVec.ofNat 32 b).toNat : Nat) : Int) := rfl
  rw [h, e, IntKind.wrap_u32]
  omega

theorem shr_nat (m i : Nat) : ((m : Int) / 2 ^ min i 32) = ((m / 2 ^ min i 32 : Nat) : Int) := by
  simp

theorem testBit_high {m i : Nat} (hm : m < 4294967296) (hi : 32 ≤ i) : m.testBit i = false :=
  Nat.testBit_lt_two_pow (Nat.lt_of_lt_of_le hm (Nat.pow_le_pow_right (n := 2) (by decide) hi))

theorem shr_testBit (m i : Nat) (hm : m < 4294967296) : (m / 2 ^ min i 32) % 2 = if m.testBit i then 1 else 0 := by
  by_cases hi : i < 32
  · rw [Nat.min_eq_left (by omega), Nat.testBit_eq_decide_div_mod_eq]
    have := Nat.mod_two_eq_zero_or_one (m / 2 ^ i)
    rcases this with h | h <;> simp [h]
  · rw [Nat.min_eq_right (by omega), testBit_high hm (by omega)]
    have : m / 2 ^ 32 = 0 := Nat.div_eq_of_lt hm
    rw [this]
    rfl

/-- 'm>>i&1 == 1'. -/
theorem is_bit (m i : Nat) (hm : m < 4294967296) : (bits BinOp.and IntKind.u32 ((m : Int) / 2 ^ min i 32) 1 == 1) = m.testBit i := by
  have h1 : m / 2 ^ min i 32 < 4294967296 := Nat.lt_of_le_of_lt (Nat.div_le_self _ _) hm
  rw [shr_nat, show (1 : Int) = ((1 : Nat) : Int) from rfl, bits_and_u32 _ 1 h1 (by omega), Nat.and_one_is_mod, shr_testBit m i hm]
  cases m.testBit i <;> rfl

theorem and_two_pow (m i : Nat) : m &&& 2 ^ i = if m.testBit i then 2 ^ i else 0 := by
  apply Nat.eq_of_testBit_eq
  intro j
  rw [Nat.testBit_and, Nat.testBit_two_pow]
  by_cases h : i = j
  · subst h
    cases hb : m.testBit i <;> simp
  · cases hb : m.testBit i <;> simp [h]

/-- 'm&(1<<i) == 0'. -/
theorem no_bit (m i : Nat) (hm : m < 4294967296) (hi : i < 32) : (bits BinOp.and IntKind.u32 (m : Int) ((2 ^ i : Nat) : Int) == 0) = !m.testBit i := by
  have hp : 2 ^ i < 4294967296 := Nat.pow_lt_pow_right (a := 2) (by omega) (show i < 32 from hi)
  rw [bits_and_u32 m (2 ^ i) hm hp, and_two_pow]
  cases h : m.testBit i
  · simp
  · have := Nat.two_pow_pos i
    simp only [if_true, Bool.not_true, beq_eq_false_iff_ne, ne_eq]
    omega

end Go.Proofs.Ytepimaghpjkibaa

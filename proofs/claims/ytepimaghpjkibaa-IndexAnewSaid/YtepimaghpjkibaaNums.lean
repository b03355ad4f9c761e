/-
  Sums that do not wrap; a loop's measure.
-/
import Derived.Test.YtepimaghpjkibaaBase
namespace Go.Proofs.Ytepimaghpjkibaa
open Go.RowKit

theorem wrap64_nat {a : Nat} (h : a ≤ 140737488355328) : wrap64 (a : Int) = (a : Int) := IntWalk.wrap64_in _ (by omega)
theorem wrap64_succ {a : Nat} (h : a + 1 ≤ 140737488355328) : wrap64 ((a : Int) + 1) = ((a + 1 : Nat) : Int) := by
  have := wrap64_nat h
  simpa using this
theorem wrap64_add {a b : Nat} (h : a + b ≤ 140737488355328) : wrap64 ((a : Int) + (b : Int)) = ((a + b : Nat) : Int) := by
  have := wrap64_nat h
  simpa using this

theorem less_step (n k : Nat) (z : Int) (h : z = ((k + 1 : Nat) : Int)) (hl : k < n) : n - (intOf (.int .i64 z)).toNat < n - (intOf (.int .i64 (k : Int))).toNat := by
  simp only [intOf]
  omega
end Go.Proofs.Ytepimaghpjkibaa

/- FieldNobody's run, for any number in the field A. -/
import Derived.Test.YtmfkidinmcmaaaaGreatH26b
namespace Go.Proofs
open Go.AM
def opV (a : Int) : Value := .agg ⟨[.chan none, .int .i64 a, .chan none, .chan none, .chan none]⟩
theorem run_pos (m : Nat) : H3 (opV (.ofNat (m + 1))) .e 0 isTrue1 = true := by kernel_rfl
theorem run_zero : H3 (opV (.ofNat 0)) .e 0 isTrue1 = true := by kernel_rfl
theorem run_neg (m : Nat) : H3 (opV (.negSucc m)) .e 0 isTrue1 = true := by kernel_rfl
theorem run_any : ∀ a, H3 (opV a) .e 0 isTrue1 = true
  | .ofNat 0 => run_zero
  | .ofNat (m + 1) => run_pos m
  | .negSucc m => run_neg m
theorem nobody_sim (a : Int) : ∃ h' nx', CallSim Tryz.prog 3 [opV a] .e 0 (.bool true) h' nx' := by
  obtain ⟨v, h', nx', hv, S⟩ := sim3 (run_any a)
  rcases vBool_true (show vBool v true false = true from hv) with ⟨rfl, _⟩ | ⟨_, h⟩
  · exact ⟨h', nx', S⟩
  · cases h
end Go.Proofs

import Derived.Test.YtakdilnjnpbbdaaGreatH25n
import Derived.KernelRfl
namespace Go.Proofs
open Go.AM
def isTrue1 (v : Value) : Bool := match v with | .bool b => b | _ => false
/-- a value whose cells are never looked at -/
def anyAgg (n : Nat) : Value := .agg ⟨List.replicate n (.chan none)⟩
theorem nobody_run : H3 (.agg ⟨[.chan none, .chan none, .chan none, .chan none, .chan none, .chan none, .chan none, .chan none, .chan none]⟩) .e 0 (fun v _ _ => isTrue1 v) = true := by kernel_rfl
abbrev anyAgg9 : Value := anyAgg 9
theorem nobody_sim : ∃ h' nx', CallSim Tryz.prog 3 [anyAgg 9] .e 0 (.bool true) h' nx' := by
  obtain ⟨v, h', nx', hv, S⟩ := sim3 nobody_run
  unfold isTrue1 at hv
  split at hv
  · subst hv; exact ⟨h', nx', S⟩
  · cases hv
end Go.Proofs

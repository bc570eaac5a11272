/- The contract of law 29's awake: run by the kernel. -/
import Derived.Test.YtmfkidinmcmaaaaGreatH29
import Derived.KernelRfl
set_option linter.unusedVariables false
namespace Go.Proofs
open Go.AM
noncomputable def isTrue1 (v : Value) (h : Heap) (n : Nat) : Bool := vBool v true false
theorem awake_run : H19 .e 0 isTrue1 = true := by kernel_rfl
theorem awake_sim : ∃ h' nx', CallSim Tryz.prog 19 [] .e 0 (.bool true) h' nx' := by
  obtain ⟨v, h', nx', hv, S⟩ := sim19 awake_run
  rcases vBool_true (show vBool v true false = true from hv) with ⟨rfl, _⟩ | ⟨_, h⟩
  · exact ⟨h', nx', S⟩
  · cases h
noncomputable def HA19 : HF := fun h n k => k (.bool true) h n
theorem simA19 {h n k} (H : HA19 h n k = true) : SimR Tryz.prog 19 [] h n k := by
  obtain ⟨h', nx', S⟩ := awake_sim
  exact ⟨.bool true, h, n, H, S.frame rfl h n⟩
end Go.Proofs

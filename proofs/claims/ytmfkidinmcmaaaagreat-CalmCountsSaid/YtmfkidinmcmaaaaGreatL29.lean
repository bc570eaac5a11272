/- CalmCounts's run, for any three numbers. -/
import Derived.Test.YtmfkidinmcmaaaaGreatH29b
import Derived.Test.YtmfkidinmcmaaaaGreatAmQ
set_option linter.unusedVariables false
namespace Go.Proofs
open Go.AM
/-- both count the rounds alike, whatever the numbers -/
theorem enough_one (a b c : Int) : ∃ v : Int, ∀ (h : Heap) (n : Nat) (k : KV), H15 (.int .i64 a) (.int .i64 b) (.int .i64 c) h n k = k (.int .i64 v) h n := by
  have last : ∀ (h : Heap) (n : Nat) (k : KV), H15g17 k (.int .i64 a) (.int .i64 b) (.int .i64 c) (.bool false) (some (.bool false)) h n =
      k (.int .i64 (IntKind.i64.wrap (IntKind.i64.wrap (Int.ofNat 100 + c) + IntKind.i64.wrap (IntKind.i64.wrap (Int.ofNat 16 * IntKind.i64.wrap (a + Int.ofNat 2)) * IntKind.i64.wrap (IntKind.i64.wrap (a + b) + Int.ofNat 2))))) h n := by
    intro h n k
    unfold H15g17
    simp only [hPick_f, hIf_f, I, gAdd_int, gMul_int]
  have zeroT : ∀ (o : Option Value) (h : Heap) (n : Nat) (k : KV), H15g17 k (.int .i64 a) (.int .i64 b) (.int .i64 c) (.bool true) o h n = k (.int .i64 0) h n := by
    intro o h n k
    unfold H15g17
    simp only [hPick_t, hIf_t]; rfl
  have zeroF : ∀ (h : Heap) (n : Nat) (k : KV), H15g17 k (.int .i64 a) (.int .i64 b) (.int .i64 c) (.bool false) (some (.bool true)) h n = k (.int .i64 0) h n := by
    intro h n k
    unfold H15g17
    simp only [hPick_f, hIf_t]; rfl
  unfold H15 H15g5 H15g8 H15g11 H15g14
  simp only [I, gLss_int, gGtr_int]
  cases cLss a (Int.ofNat 0) <;> cases cLss (Int.ofNat 16) a <;> cases cLss b (Int.ofNat 0) <;> cases cLss (Int.ofNat 120) b <;> cases cLss c (Int.ofNat 0) <;> cases cLss (Int.ofNat 1000000) c <;>
    simp only [hG_tf, hG_ff, hPick_t, hPick_f, last, zeroT, zeroF] <;>
    exact ⟨_, fun _ _ _ => rfl⟩
theorem enough_two (a b c : Value) : H16 a b c = H15 a b c := rfl
theorem cEql_self (v : Int) : cEql v v = true := by rw [cEql_eq]; exact beq_self_eq_true v
theorem counts_run (a b c : Int) : H4 (.int .i64 a) (.int .i64 b) (.int .i64 c) .e 0 isTrue1 = true := by
  obtain ⟨v, hv⟩ := enough_one a b c
  unfold H4
  simp only [enough_two, hv, gEql_int, cEql_self, hG_tt]
  kernel_rfl
theorem counts_sim (a b c : Int) : ∃ h' nx', CallSim Tryz.prog 4 [.int .i64 a, .int .i64 b, .int .i64 c] .e 0 (.bool true) h' nx' := by
  obtain ⟨v, h', nx', hv, S⟩ := sim4 (counts_run a b c)
  rcases vBool_true (show vBool v true false = true from hv) with ⟨rfl, _⟩ | ⟨_, h⟩
  · exact ⟨h', nx', S⟩
  · cases h
end Go.Proofs

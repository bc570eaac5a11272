/- H, part 13: the number operations at numbers that are not known. -/
import Derived.Test.YtmfkidinmcmaaaaGreatAmP
namespace Go.AM
theorem sBin_int {op : BinOp} {k : IntKind} {a b : Int} {v : Value} {G : Value → Bool} (he : binOp op 0 (.int k a) (.int k b) = pure v) (hf : flat v = true) : sBin op (.int k a) (.int k b) G = G v := by
  show optK (pureRun default (binOp op 0 (.int k a) (.int k b))) (fun v => if flat v then valK v G else false) = _
  rw [he]
  show (if flat v then valK v G else false) = _
  rw [if_pos hf, valK_eq]
theorem kEq_same (k : IntKind) (s c : Bool) : kEq k k s c = c := by cases k <;> rfl
theorem gAdd_int (k : IntKind) (a b : Int) (G : Value → Bool) : gAdd (.int k a) (.int k b) G = G (.int k (k.wrap (a + b))) := by
  have hs : sBin .add (.int k a) (.int k b) G = G (.int k (k.wrap (a + b))) := sBin_int (bo_arith (.inl rfl)) rfl
  unfold gAdd fAdd
  rw [hs]
  cases a with
  | negSucc a => rfl
  | ofNat a => cases b with
    | negSucc b => rfl
    | ofNat b =>
      show kEq k k _ (natK (Nat.add a b) fun c => iff' (Nat.ble (Nat.succ c) (lim k)) (G (.int k (.ofNat c))) _) = _
      rw [kEq_same, natK_eq]
      cases h : Nat.ble (Nat.succ (Nat.add a b)) (lim k) with
      | false => rfl
      | true =>
        show G (.int k (.ofNat (Nat.add a b))) = _
        exact congrArg G (int_of (c := Nat.add a b) (Int.natCast_add a b).symm (lt_of_ble h)).symm
theorem gMul_int (k : IntKind) (a b : Int) (G : Value → Bool) : gMul (.int k a) (.int k b) G = G (.int k (k.wrap (a * b))) := by
  have hs : sBin .mul (.int k a) (.int k b) G = G (.int k (k.wrap (a * b))) := sBin_int (bo_arith (.inr (.inr rfl))) rfl
  unfold gMul fMul
  rw [hs]
  cases a with
  | negSucc a => rfl
  | ofNat a => cases b with
    | negSucc b => rfl
    | ofNat b =>
      show kEq k k _ (natK (Nat.mul a b) fun c => iff' (Nat.ble (Nat.succ c) (lim k)) (G (.int k (.ofNat c))) _) = _
      rw [kEq_same, natK_eq]
      cases h : Nat.ble (Nat.succ (Nat.mul a b)) (lim k) with
      | false => rfl
      | true =>
        show G (.int k (.ofNat (Nat.mul a b))) = _
        exact congrArg G (int_of (c := Nat.mul a b) (Int.natCast_mul a b).symm (lt_of_ble h)).symm
theorem hG_tt {A B : Unit → Bool} : hG (some (.bool true)) true A B = A () := rfl
theorem hG_tf {A B : Unit → Bool} : hG (some (.bool true)) false A B = B () := rfl
theorem hG_ff {A B : Unit → Bool} : hG (some (.bool false)) false A B = A () := rfl
theorem hPick_t {v : Value} {o : Option Value} {G : Value → Bool} : hPick (.bool true) (some v) o G = G v := rfl
theorem hPick_f {v : Value} {o : Option Value} {G : Value → Bool} : hPick (.bool false) o (some v) G = G v := rfl
theorem hIf_t {A B : Unit → Bool} : hIf (.bool true) A B = A () := rfl
theorem hIf_f {A B : Unit → Bool} : hIf (.bool false) A B = B () := rfl
end Go.AM

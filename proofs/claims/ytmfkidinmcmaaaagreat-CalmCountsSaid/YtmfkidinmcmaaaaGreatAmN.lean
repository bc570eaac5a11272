/- H, part 10: the common operations, made quick for the kernel: recursors with closed arms. -/
import Derived.Test.YtmfkidinmcmaaaaGreatAmG
import Derived.Laws.BitsAllLaws
set_option linter.unusedVariables false
set_option linter.unusedSimpArgs false
namespace Go.AM
variable {P : Program}
/-! ### values taken apart -/
noncomputable def vNat : Value → Bool → (IntKind → Nat → Bool) → Bool :=
  @Value.rec (fun _ => Bool → (IntKind → Nat → Bool) → Bool) (fun _ => Unit) (fun _ => Unit)
    (fun _ s _ => s) (fun k n s c => @Int.rec (fun _ => Bool) (fun m => c k m) (fun _ => s) n) (fun _ _ s _ => s) (fun _ _ _ s _ => s) (fun _ s _ => s) (fun _ s _ => s) (fun _ _ _ s _ => s)
    (fun _ s _ => s) (fun _ s _ => s) (fun _ _ _ _ _ s _ => s) (fun s _ => s) (fun _ _ _ s _ => s) (fun s _ => s) (fun _ _ s _ => s) (fun _ _ s _ => s)
    (fun _ _ => ()) () (fun _ _ _ _ => ())
theorem vNat_true {v : Value} {s : Bool} {c : IntKind → Nat → Bool} (H : vNat v s c = true) : (∃ k n, v = .int k (.ofNat n) ∧ c k n = true) ∨ s = true := by
  cases v <;> first
    | exact .inr H
    | (rename_i k n
       cases n with
       | ofNat m => exact .inl ⟨k, m, rfl, H⟩
       | negSucc m => exact .inr H)
noncomputable def vPtr : Value → (Nat → Nat → Bool) → Bool :=
  @Value.rec (fun _ => (Nat → Nat → Bool) → Bool) (fun _ => Unit) (fun _ => Unit)
    (fun _ _ => false) (fun _ _ _ => false) (fun _ _ _ => false) (fun _ _ _ _ => false) (fun _ _ => false)
    (fun oa c => @Option.rec Addr (fun _ => Bool) false (fun ad => @Addr.rec (fun _ => Bool) (fun b o sp => @Option.rec Nat (fun _ => Bool) (c b o) (fun _ => false) sp) ad) oa)
    (fun _ _ _ _ => false) (fun _ _ => false) (fun _ _ => false) (fun _ _ _ _ _ _ => false) (fun _ => false) (fun _ _ _ _ => false) (fun _ => false) (fun _ _ _ => false) (fun _ _ _ => false)
    (fun _ _ => ()) () (fun _ _ _ _ => ())
theorem vPtr_true {v : Value} {c : Nat → Nat → Bool} (H : vPtr v c = true) : ∃ b o, v = .pointer (some ⟨b, o, none⟩) ∧ c b o = true := by
  cases v <;> first
    | (cases H; done)
    | (rename_i oa
       cases oa with
       | none => cases H
       | some ad =>
         obtain ⟨b, o, sp⟩ := ad
         cases sp with
         | none => exact ⟨b, o, rfl, H⟩
         | some _ => cases H)
noncomputable def vSl : Value → (Nat → Nat → Nat → Bool) → Bool :=
  @Value.rec (fun _ => (Nat → Nat → Nat → Bool) → Bool) (fun _ => Unit) (fun _ => Unit)
    (fun _ _ => false) (fun _ _ _ => false) (fun _ _ _ => false) (fun _ _ _ _ => false) (fun _ _ => false) (fun _ _ => false)
    (fun oa n _ c => @Option.rec Addr (fun _ => Bool) false (fun ad => @Addr.rec (fun _ => Bool) (fun b o _ => c b o n) ad) oa)
    (fun _ _ => false) (fun _ _ => false) (fun _ _ _ _ _ _ => false) (fun _ => false) (fun _ _ _ _ => false) (fun _ => false) (fun _ _ _ => false) (fun _ _ _ => false)
    (fun _ _ => ()) () (fun _ _ _ _ => ())
theorem vSl_true {v : Value} {c : Nat → Nat → Nat → Bool} (H : vSl v c = true) : ∃ b o sp n m, v = .slice (some ⟨b, o, sp⟩) n m ∧ c b o n = true := by
  cases v <;> first
    | (cases H; done)
    | (rename_i oa n m
       cases oa with
       | none => cases H
       | some ad => obtain ⟨b, o, sp⟩ := ad; exact ⟨b, o, sp, n, m, rfl, H⟩)
noncomputable def vInt : Value → (IntKind → Int → Bool) → Bool :=
  @Value.rec (fun _ => (IntKind → Int → Bool) → Bool) (fun _ => Unit) (fun _ => Unit)
    (fun _ _ => false) (fun k n c => c k n) (fun _ _ _ => false) (fun _ _ _ _ => false) (fun _ _ => false) (fun _ _ => false) (fun _ _ _ _ => false)
    (fun _ _ => false) (fun _ _ => false) (fun _ _ _ _ _ _ => false) (fun _ => false) (fun _ _ _ _ => false) (fun _ => false) (fun _ _ _ => false) (fun _ _ _ => false)
    (fun _ _ => ()) () (fun _ _ _ _ => ())
theorem vInt_true {v : Value} {c : IntKind → Int → Bool} (H : vInt v c = true) : ∃ k n, v = .int k n ∧ c k n = true := by
  cases v <;> first
    | (cases H; done)
    | exact ⟨_, _, rfl, H⟩
/-- not an aggregate, not a tuple -/
noncomputable def vOne : Value → Bool → Bool :=
  @Value.rec (fun _ => Bool → Bool) (fun _ => Unit) (fun _ => Unit)
    (fun _ c => c) (fun _ _ c => c) (fun _ _ c => c) (fun _ _ _ c => c) (fun _ c => c) (fun _ c => c) (fun _ _ _ c => c)
    (fun _ c => c) (fun _ c => c) (fun _ _ _ _ _ c => c) (fun c => c) (fun _ _ _ c => c) (fun c => c) (fun _ _ _ => false) (fun _ _ _ => false)
    (fun _ _ => ()) () (fun _ _ _ _ => ())
theorem vOne_true {v : Value} {c : Bool} (H : vOne v c = true) : cellsOf v = some [v] ∧ c = true := by
  cases v <;> first | exact ⟨rfl, H⟩ | (cases H; done)
/-! ### numbers -/
noncomputable def ikN : IntKind → Nat := @IntKind.rec (fun _ => Nat) 0 1 2 3 4 5 6 7
noncomputable def lim : IntKind → Nat := @IntKind.rec (fun _ => Nat) 128 32768 2147483648 9223372036854775808 256 65536 4294967296 18446744073709551616
noncomputable def bitsN : IntKind → Nat := @IntKind.rec (fun _ => Nat) 8 16 32 64 8 16 32 64
noncomputable def uns : IntKind → Bool := @IntKind.rec (fun _ => Bool) false false false false true true true true
noncomputable def kEq (k k' : IntKind) (s c : Bool) : Bool := @Bool.rec (fun _ => Bool) s c (Nat.beq (ikN k) (ikN k'))
theorem kEq_true {k k' : IntKind} {s c : Bool} (H : kEq k k' s c = true) : (k = k' ∧ c = true) ∨ s = true := by
  cases k <;> cases k' <;> first | exact .inl ⟨rfl, H⟩ | exact .inr H
noncomputable def iff' (b : Bool) (t e : Bool) : Bool := @Bool.rec (fun _ => Bool) e t b
theorem iff'_true {b t e : Bool} (H : iff' b t e = true) : (b = true ∧ t = true) ∨ (b = false ∧ e = true) := by
  cases b
  · exact .inr ⟨rfl, H⟩
  · exact .inl ⟨rfl, H⟩
noncomputable def bK (b : Bool) (G : Value → Bool) : Bool := @Bool.rec (fun _ => Bool) (G (.bool false)) (G (.bool true)) b
theorem bK_eq (b : Bool) (G : Value → Bool) : bK b G = G (.bool b) := by cases b <;> rfl
theorem lt_of_ble {a b : Nat} (h : Nat.ble (Nat.succ a) b = true) : a < b := Nat.le_of_ble_eq_true h
theorem wrap_lim {k : IntKind} {n : Nat} (h : n < lim k) : k.wrap (n : Int) = (n : Int) := by
  cases k <;> simp only [lim] at h <;> simp [IntKind.wrap, IntKind.bits, IntKind.signed] <;> omega
theorem wrap_uns {k : IntKind} {n : Nat} (h : uns k = true) : k.wrap (n : Int) = ((n % lim k : Nat) : Int) := by
  cases k <;> first | (cases h; done) | (simp [IntKind.wrap, IntKind.bits, IntKind.signed, lim])
theorem pureK_at {e : Sem Value} {v : Value} {G : Value → Bool} (he : pureRun P e = some v) (hf : flat v = true) (H : G v = true) : pureK P e G = true := by
  unfold pureK
  rw [he]
  show (if flat v then valK v G else false) = true
  rw [if_pos hf, valK_eq]; exact H
theorem bin_int {op : BinOp} {ty : TypeId} {xo yo : Operand} {k k' : IntKind} {a b : Int} {v : Value} {G : Value → Bool} (hf : flat v = true) (he : pureRun P (do eqGuard op ty xo yo (.int k a) (.int k' b); binOp op ty (.int k a) (.int k' b)) = some v) (H : G v = true) :
    binK P op ty xo yo (.int k a) (.int k' b) G = true := by
  unfold binK
  rw [if_pos (show (flat (Value.int k a) && flat (Value.int k' b)) = true from rfl)]
  exact pureK_at he hf H
theorem eqGuard_int (op : BinOp) (ty : TypeId) (xo yo : Operand) (k k' : IntKind) (a b : Int) : eqGuard op ty xo yo (.int k a) (.int k' b) = pure () := by
  cases op <;> rfl
variable {op : BinOp} {ty : TypeId} {xo yo : Operand} {x y : Value} {G : Value → Bool}
noncomputable def fAdd (s : Bool) (x y : Value) (G : Value → Bool) : Bool := vNat x s fun k a => vNat y s fun k' b => kEq k k' s (natK (Nat.add a b) fun c => iff' (Nat.ble (Nat.succ c) (lim k)) (G (.int k (.ofNat c))) s)
noncomputable def fSub (s : Bool) (x y : Value) (G : Value → Bool) : Bool := vNat x s fun k a => vNat y s fun k' b => kEq k k' s (iff' (Nat.ble b a) (natK (Nat.sub a b) fun c => iff' (Nat.ble (Nat.succ c) (lim k)) (G (.int k (.ofNat c))) s) s)
noncomputable def fMul (s : Bool) (x y : Value) (G : Value → Bool) : Bool := vNat x s fun k a => vNat y s fun k' b => kEq k k' s (natK (Nat.mul a b) fun c => iff' (Nat.ble (Nat.succ c) (lim k)) (G (.int k (.ofNat c))) s)
noncomputable def fShl (s : Bool) (x y : Value) (G : Value → Bool) : Bool := vNat x s fun k a => vNat y s fun k' b => iff' (Nat.ble b (bitsN k)) (natK (Nat.mul a (Nat.pow 2 b)) fun c => iff' (Nat.ble (Nat.succ c) (lim k)) (G (.int k (.ofNat c))) (iff' (uns k) (natK (Nat.mod c (lim k)) fun d => G (.int k (.ofNat d))) s)) s
noncomputable def fShr (s : Bool) (x y : Value) (G : Value → Bool) : Bool := vNat x s fun k a => vNat y s fun k' b => iff' (Nat.ble b (bitsN k)) (natK (Nat.div a (Nat.pow 2 b)) fun c => G (.int k (.ofNat c))) s
noncomputable def fAnd (s : Bool) (x y : Value) (G : Value → Bool) : Bool := vNat x s fun k a => vNat y s fun k' b => kEq k k' s (iff' (Nat.ble (Nat.succ (Nat.lor a b)) (lim k)) (natK (Nat.land a b) fun c => G (.int k (.ofNat c))) s)
noncomputable def fOr (s : Bool) (x y : Value) (G : Value → Bool) : Bool := vNat x s fun k a => vNat y s fun k' b => kEq k k' s (natK (Nat.lor a b) fun c => iff' (Nat.ble (Nat.succ c) (lim k)) (G (.int k (.ofNat c))) s)
noncomputable def fXor (s : Bool) (x y : Value) (G : Value → Bool) : Bool := vNat x s fun k a => vNat y s fun k' b => kEq k k' s (iff' (Nat.ble (Nat.succ (Nat.lor a b)) (lim k)) (natK (Nat.xor a b) fun c => G (.int k (.ofNat c))) s)
noncomputable def fQuo (s : Bool) (x y : Value) (G : Value → Bool) : Bool := vNat x s fun k a => vNat y s fun k' b => kEq k k' s (iff' (Nat.ble 1 b) (natK (Nat.div a b) fun c => iff' (Nat.ble (Nat.succ c) (lim k)) (G (.int k (.ofNat c))) s) s)
noncomputable def fRem (s : Bool) (x y : Value) (G : Value → Bool) : Bool := vNat x s fun k a => vNat y s fun k' b => kEq k k' s (iff' (Nat.ble 1 b) (natK (Nat.mod a b) fun c => G (.int k (.ofNat c))) s)
theorem bin2 {F : IntKind → Nat → Nat → Bool} {s : Bool} {R : Prop} (H : (vNat x s fun k a => vNat y s fun k' b => kEq k k' s (F k a b)) = true) (hs : s = true → R) (h : ∀ k a b, x = .int k (.ofNat a) → y = .int k (.ofNat b) → F k a b = true → R) : R := by
  rcases vNat_true H with ⟨k, a, rfl, H1⟩ | H1
  · rcases vNat_true H1 with ⟨k', b, rfl, H2⟩ | H2
    · rcases kEq_true H2 with ⟨rfl, H3⟩ | H3
      · exact h k a b rfl rfl H3
      · exact hs H3
    · exact hs H2
  · exact hs H1
theorem bin_by {k k' : IntKind} {a b : Int} {v : Value} (hb : binOp op ty (.int k a) (.int k' b) = pure v) (hf : flat v = true) (H : G v = true) : binK P op ty xo yo (.int k a) (.int k' b) G = true := by
  refine bin_int hf ?_ H
  rw [eqGuard_int]
  show pureRun P (binOp op ty (.int k a) (.int k' b)) = some v
  rw [hb]; rfl
theorem bo_arith {k : IntKind} {a b : Int} (h : op = .add ∨ op = .sub ∨ op = .mul) : binOp op ty (.int k a) (.int k b) = Op.intArith op k a b := by
  rcases h with rfl | rfl | rfl <;> (show (if k ≠ k then _ else _) = _; rw [if_neg (by simp)])
theorem bo_div {k : IntKind} {a b : Int} (h : op = .quo ∨ op = .rem) : binOp op ty (.int k a) (.int k b) = Op.intDiv op k a b := by
  rcases h with rfl | rfl <;> (show (if k ≠ k then _ else _) = _; rw [if_neg (by simp)])
theorem bo_bits {k : IntKind} {a b : Int} (h : op = .and ∨ op = .or ∨ op = .xor) : binOp op ty (.int k a) (.int k b) = Op.intBits op k a b := by
  rcases h with rfl | rfl | rfl <;> (show (if k ≠ k then _ else _) = _; rw [if_neg (by simp)])
theorem bo_cmp {k : IntKind} {a b : Int} (h : op = .eql ∨ op = .neq ∨ op = .lss ∨ op = .leq ∨ op = .gtr ∨ op = .geq) : binOp op ty (.int k a) (.int k b) = Op.intCmp op a b := by
  rcases h with rfl | rfl | rfl | rfl | rfl | rfl <;> (show (if k ≠ k then _ else _) = _; rw [if_neg (by simp)])
theorem int_of {k : IntKind} {n : Int} {c : Nat} (h : n = (c : Int)) (hc : c < lim k) : (Value.int k (k.wrap n)) = .int k (.ofNat c) := by
  rw [h, wrap_lim hc]; rfl
theorem fAdd_t {s : Bool} (hs : s = true → binK P .add ty xo yo x y G = true) (H : fAdd s x y G = true) : binK P .add ty xo yo x y G = true := by
  refine bin2 H hs fun k a b hx hy H3 => ?_
  rw [natK_eq] at H3
  rcases iff'_true H3 with ⟨h4, H4⟩ | ⟨_, H4⟩
  · subst hx; subst hy
    exact bin_by (v := .int k (.ofNat (a + b))) ((bo_arith (by simp)).trans (congrArg pure (int_of (Int.natCast_add a b).symm (lt_of_ble h4)))) rfl H4
  · exact hs H4
theorem fSub_t {s : Bool} (hs : s = true → binK P .sub ty xo yo x y G = true) (H : fSub s x y G = true) : binK P .sub ty xo yo x y G = true := by
  refine bin2 H hs fun k a b hx hy H3 => ?_
  rcases iff'_true H3 with ⟨h3, H3⟩ | ⟨_, H3⟩
  · rw [natK_eq] at H3
    have hle : b ≤ a := Nat.le_of_ble_eq_true h3
    rcases iff'_true H3 with ⟨h4, H4⟩ | ⟨_, H4⟩
    · subst hx; subst hy
      exact bin_by (v := .int k (.ofNat (a - b))) ((bo_arith (by simp)).trans (congrArg pure (int_of (Int.ofNat_sub hle).symm (lt_of_ble h4)))) rfl H4
    · exact hs H4
  · exact hs H3
theorem fMul_t {s : Bool} (hs : s = true → binK P .mul ty xo yo x y G = true) (H : fMul s x y G = true) : binK P .mul ty xo yo x y G = true := by
  refine bin2 H hs fun k a b hx hy H3 => ?_
  rw [natK_eq] at H3
  rcases iff'_true H3 with ⟨h4, H4⟩ | ⟨_, H4⟩
  · subst hx; subst hy
    exact bin_by (v := .int k (.ofNat (a * b))) ((bo_arith (by simp)).trans (congrArg pure (int_of (Int.natCast_mul a b).symm (lt_of_ble h4)))) rfl H4
  · exact hs H4
theorem blt_iff (a b : Nat) : Nat.ble (Nat.succ a) b = decide ((a : Int) < (b : Int)) := by
  rw [Bool.eq_iff_iff, Nat.ble_eq, decide_eq_true_eq]; omega
theorem beq_iff' (a b : Nat) : Nat.beq a b = ((a : Int) == (b : Int)) := by
  rw [Bool.eq_iff_iff, Nat.beq_eq, beq_iff_eq]; omega
noncomputable def cLss (a b : Int) : Bool := @Int.rec (fun _ => Bool) (fun a => @Int.rec (fun _ => Bool) (fun b => Nat.ble (Nat.succ a) b) (fun _ => false) b) (fun a => @Int.rec (fun _ => Bool) (fun _ => true) (fun b => Nat.ble (Nat.succ b) a) b) a
noncomputable def cEql (a b : Int) : Bool := @Int.rec (fun _ => Bool) (fun a => @Int.rec (fun _ => Bool) (fun b => Nat.beq a b) (fun _ => false) b) (fun a => @Int.rec (fun _ => Bool) (fun _ => false) (fun b => Nat.beq a b) b) a
noncomputable def cNot (b : Bool) : Bool := @Bool.rec (fun _ => Bool) true false b
theorem cNot_eq (b : Bool) : cNot b = !b := by cases b <;> rfl
theorem cLss_eq (a b : Int) : cLss a b = decide (a < b) := by
  cases a with
  | ofNat a => cases b with
    | ofNat b => exact blt_iff a b
    | negSucc b => exact (decide_eq_false (by simp only [Int.ofNat_eq_natCast]; omega)).symm
  | negSucc a => cases b with
    | ofNat b => exact (decide_eq_true (by simp only [Int.ofNat_eq_natCast]; omega)).symm
    | negSucc b =>
      show Nat.ble (Nat.succ b) a = _
      rw [Bool.eq_iff_iff, Nat.ble_eq, decide_eq_true_eq]; omega
theorem cEql_eq (a b : Int) : cEql a b = (a == b) := by
  cases a with
  | ofNat a => cases b with
    | ofNat b => exact beq_iff' a b
    | negSucc b => exact (beq_eq_false_iff_ne.2 (by simp only [Int.ofNat_eq_natCast, ne_eq]; omega)).symm
  | negSucc a => cases b with
    | ofNat b => exact (beq_eq_false_iff_ne.2 (by simp only [Int.ofNat_eq_natCast, ne_eq]; omega)).symm
    | negSucc b =>
      show Nat.beq a b = _
      rw [Bool.eq_iff_iff, Nat.beq_eq, beq_iff_eq]; omega
theorem cLeq_eq (a b : Int) : cNot (cLss b a) = decide (a ≤ b) := by
  rw [cNot_eq, cLss_eq, Bool.eq_iff_iff, Bool.not_eq_true', decide_eq_false_iff_not, decide_eq_true_eq]; omega
noncomputable def fCmp (c : Int → Int → Bool) (x y : Value) (G : Value → Bool) : Bool := vInt x fun k a => vInt y fun k' b => kEq k k' false (bK (c a b) G)
theorem fCmp_t {c : Int → Int → Bool} (h : op = .eql ∨ op = .neq ∨ op = .lss ∨ op = .leq ∨ op = .gtr ∨ op = .geq) (hc : ∀ a b, Op.intCmp op a b = pure (.bool (c a b))) (H : fCmp c x y G = true) : binK P op ty xo yo x y G = true := by
  obtain ⟨k, a, rfl, H1⟩ := vInt_true H
  obtain ⟨k', b, rfl, H2⟩ := vInt_true H1
  rcases kEq_true H2 with ⟨rfl, H3⟩ | H3
  · rw [bK_eq] at H3
    exact bin_by (v := .bool (c a b)) ((bo_cmp h).trans (hc a b)) rfl H3
  · cases H3
theorem fCmp_int (c : Int → Int → Bool) (k : IntKind) (a b : Int) (G : Value → Bool) : fCmp c (.int k a) (.int k b) G = G (.bool (c a b)) := by
  show kEq k k false (bK (c a b) G) = _
  rw [bK_eq]; cases k <;> rfl
theorem bits_k (k : IntKind) : k.bits = bitsN k := by cases k <;> rfl
theorem shift_of {k k' : IntKind} {a b : Nat} (h : op = .shl ∨ op = .shr) : binOp op ty (.int k (.ofNat a)) (.int k' (.ofNat b)) = Op.shift op k (a : Int) k' (b : Int) := by
  rcases h with rfl | rfl <;> rfl
theorem fShl_t {s : Bool} (hs : s = true → binK P .shl ty xo yo x y G = true) (H : fShl s x y G = true) : binK P .shl ty xo yo x y G = true := by
  rcases vNat_true H with ⟨k, a, rfl, H1⟩ | H1
  · rcases vNat_true H1 with ⟨k', b, rfl, H2⟩ | H2
    · rcases iff'_true H2 with ⟨h3, H3⟩ | ⟨_, H3⟩
      · rw [natK_eq] at H3
        have hle : b ≤ k.bits := by rw [bits_k]; exact Nat.le_of_ble_eq_true h3
        have he : binOp .shl ty (.int k (.ofNat a)) (.int k' (.ofNat b)) = pure (.int k (k.wrap ((a * 2 ^ b : Nat) : Int))) := by
          rw [shift_of (by simp)]
          unfold Op.shift
          rw [if_neg (by omega)]
          show pure (Value.int k (k.wrap ((a : Int) * 2 ^ (min ((b : Int)).toNat k.bits)))) = _
          rw [Int.toNat_natCast, Nat.min_eq_left hle, Int.natCast_mul, Int.natCast_pow]; rfl
        rcases iff'_true H3 with ⟨h4, H4⟩ | ⟨_, H4⟩
        · exact bin_by (he.trans (congrArg pure (int_of (c := a * 2 ^ b) rfl (lt_of_ble h4)))) rfl H4
        · rcases iff'_true H4 with ⟨h5, H5⟩ | ⟨_, H5⟩
          · rw [natK_eq] at H5
            exact bin_by (v := .int k (.ofNat (a * 2 ^ b % lim k))) (he.trans (congrArg pure (by rw [wrap_uns h5]; rfl))) rfl H5
          · exact hs H5
      · exact hs H3
    · exact hs H2
  · exact hs H1
theorem fShr_t {s : Bool} (hs : s = true → binK P .shr ty xo yo x y G = true) (H : fShr s x y G = true) : binK P .shr ty xo yo x y G = true := by
  rcases vNat_true H with ⟨k, a, rfl, H1⟩ | H1
  · rcases vNat_true H1 with ⟨k', b, rfl, H2⟩ | H2
    · rcases iff'_true H2 with ⟨h3, H3⟩ | ⟨_, H3⟩
      · rw [natK_eq] at H3
        have hle : b ≤ k.bits := by rw [bits_k]; exact Nat.le_of_ble_eq_true h3
        have he : binOp .shr ty (.int k (.ofNat a)) (.int k' (.ofNat b)) = pure (.int k (.ofNat (a / 2 ^ b))) := by
          rw [shift_of (by simp)]
          unfold Op.shift
          rw [if_neg (by omega)]
          show pure (Value.int k (Int.fdiv (a : Int) (2 ^ (min ((b : Int)).toNat k.bits)))) = _
          rw [Int.toNat_natCast, Nat.min_eq_left hle, show ((2 : Int) ^ b) = ((2 ^ b : Nat) : Int) by rw [Int.natCast_pow]; rfl, Int.fdiv_eq_ediv_of_nonneg _ (Int.natCast_nonneg _), ← Int.natCast_ediv]; rfl
        exact bin_by he rfl H3
      · exact hs H3
    · exact hs H2
  · exact hs H1
theorem or_lt {a b n : Nat} (h : Nat.lor a b < n) : a < n ∧ b < n := by
  have h1 : a ≤ a ||| b := Nat.left_le_or
  have h2 : b ≤ a ||| b := Nat.right_le_or
  have h3 : a ||| b < n := h
  omega
theorem lim_le (k : IntKind) : lim k ≤ 2 ^ k.bits := by cases k <;> decide
theorem ofInt_lim {k : IntKind} {a : Nat} (h : a < lim k) : (BitVec.ofInt k.bits (a : Int)).toNat = a := by
  rw [BitVec.ofInt_natCast, BitVec.toNat_ofNat]; exact Nat.mod_eq_of_lt (Nat.lt_of_lt_of_le h (lim_le k))
theorem lim_pow (k : IntKind) : ∃ m, lim k = 2 ^ m := by
  cases k
  · exact ⟨7, rfl⟩
  · exact ⟨15, rfl⟩
  · exact ⟨31, rfl⟩
  · exact ⟨63, rfl⟩
  · exact ⟨8, rfl⟩
  · exact ⟨16, rfl⟩
  · exact ⟨32, rfl⟩
  · exact ⟨64, rfl⟩
theorem fAnd_t {s : Bool} (hs : s = true → binK P .and ty xo yo x y G = true) (H : fAnd s x y G = true) : binK P .and ty xo yo x y G = true := by
  refine bin2 H hs fun k a b hx hy H3 => ?_
  rcases iff'_true H3 with ⟨h3, H3⟩ | ⟨_, H3⟩
  · rw [natK_eq] at H3
    obtain ⟨ha, hb⟩ := or_lt (lt_of_ble h3)
    subst hx; subst hy
    refine bin_by (v := .int k (.ofNat (a &&& b))) ((bo_bits (by simp)).trans ?_) rfl H3
    show pure (Value.int k (k.wrap ((BitVec.ofInt k.bits (a : Int) &&& BitVec.ofInt k.bits (b : Int)).toNat : Int))) = _
    rw [BitVec.toNat_and, ofInt_lim ha, ofInt_lim hb]
    exact congrArg pure (int_of rfl (Nat.lt_of_le_of_lt Nat.and_le_left ha))
  · exact hs H3
theorem fOr_t {s : Bool} (hs : s = true → binK P .or ty xo yo x y G = true) (H : fOr s x y G = true) : binK P .or ty xo yo x y G = true := by
  refine bin2 H hs fun k a b hx hy H3 => ?_
  rw [natK_eq] at H3
  rcases iff'_true H3 with ⟨h3, H3⟩ | ⟨_, H3⟩
  · obtain ⟨ha, hb⟩ := or_lt (lt_of_ble h3)
    subst hx; subst hy
    refine bin_by (v := .int k (.ofNat (a ||| b))) ((bo_bits (by simp)).trans ?_) rfl H3
    show pure (Value.int k (k.wrap ((BitVec.ofInt k.bits (a : Int) ||| BitVec.ofInt k.bits (b : Int)).toNat : Int))) = _
    rw [BitVec.toNat_or, ofInt_lim ha, ofInt_lim hb]
    exact congrArg pure (int_of rfl (lt_of_ble h3))
  · exact hs H3
theorem fXor_t {s : Bool} (hs : s = true → binK P .xor ty xo yo x y G = true) (H : fXor s x y G = true) : binK P .xor ty xo yo x y G = true := by
  refine bin2 H hs fun k a b hx hy H3 => ?_
  rcases iff'_true H3 with ⟨h3, H3⟩ | ⟨_, H3⟩
  · rw [natK_eq] at H3
    obtain ⟨ha, hb⟩ := or_lt (lt_of_ble h3)
    subst hx; subst hy
    refine bin_by (v := .int k (.ofNat (a ^^^ b))) ((bo_bits (by simp)).trans ?_) rfl H3
    show pure (Value.int k (k.wrap ((BitVec.ofInt k.bits (a : Int) ^^^ BitVec.ofInt k.bits (b : Int)).toNat : Int))) = _
    rw [BitVec.toNat_xor, ofInt_lim ha, ofInt_lim hb]
    obtain ⟨m, hm⟩ := lim_pow k
    exact congrArg pure (int_of rfl (by rw [hm] at ha hb ⊢; exact Nat.xor_lt_two_pow ha hb))
  · exact hs H3
theorem fRem_t {s : Bool} (hs : s = true → binK P .rem ty xo yo x y G = true) (H : fRem s x y G = true) : binK P .rem ty xo yo x y G = true := by
  refine bin2 H hs fun k a b hx hy H3 => ?_
  rcases iff'_true H3 with ⟨h3, H3⟩ | ⟨_, H3⟩
  · rw [natK_eq] at H3
    have hb : 1 ≤ b := Nat.le_of_ble_eq_true h3
    subst hx; subst hy
    refine bin_by (v := .int k (.ofNat (a % b))) ((bo_div (by simp)).trans ?_) rfl H3
    unfold Op.intDiv
    rw [if_neg (by show ¬ ((b : Int) = 0); omega)]
    exact congrArg (fun n => pure (Value.int k n)) (Int.ofNat_tmod a b).symm
  · exact hs H3
/-! ### the slow way, for numbers alone -/
noncomputable def vI2 (x y : Value) (c : IntKind → Int → IntKind → Int → Bool) : Bool := match x, y with
  | .int k a, .int k' b => c k a k' b
  | _, _ => false
noncomputable def sBin (op : BinOp) (x y : Value) (G : Value → Bool) : Bool := vI2 x y fun k a k' b => optK (pureRun default (binOp op 0 (.int k a) (.int k' b))) fun v => if flat v then valK v G else false
theorem pureRun_int (P P' : Program) (op : BinOp) (ty ty' : TypeId) (k k' : IntKind) (a b : Int) : pureRun P (binOp op ty (.int k a) (.int k' b)) = pureRun P' (binOp op ty' (.int k a) (.int k' b)) := by
  by_cases hs : op = .shl ∨ op = .shr
  · have hb : ∀ ty, binOp op ty (.int k a) (.int k' b) = Op.shift op k a k' b := by intro ty; rcases hs with rfl | rfl <;> rfl
    rw [hb, hb]
    unfold Op.shift
    by_cases z : b < 0
    · simp only [if_pos z]; rfl
    · simp only [if_neg z]; rcases hs with rfl | rfl <;> rfl
  · by_cases e : k = k'
    · subst e
      cases op
      case add => rw [bo_arith (.inl rfl), bo_arith (.inl rfl)]; rfl
      case sub => rw [bo_arith (.inr (.inl rfl)), bo_arith (.inr (.inl rfl))]; rfl
      case mul => rw [bo_arith (.inr (.inr (rfl))), bo_arith (.inr (.inr (rfl)))]; rfl
      case quo => rw [bo_div (.inl rfl), bo_div (.inl rfl)]; unfold Op.intDiv; by_cases z : b = 0 <;> simp only [z, if_true, if_false] <;> rfl
      case rem => rw [bo_div (.inr (rfl)), bo_div (.inr (rfl))]; unfold Op.intDiv; by_cases z : b = 0 <;> simp only [z, if_true, if_false] <;> rfl
      case and => rw [bo_bits (.inl rfl), bo_bits (.inl rfl)]; rfl
      case or => rw [bo_bits (.inr (.inl rfl)), bo_bits (.inr (.inl rfl))]; rfl
      case xor => rw [bo_bits (.inr (.inr (rfl))), bo_bits (.inr (.inr (rfl)))]; rfl
      case eql => rw [bo_cmp (.inl rfl), bo_cmp (.inl rfl)]; rfl
      case neq => rw [bo_cmp (.inr (.inl rfl)), bo_cmp (.inr (.inl rfl))]; rfl
      case lss => rw [bo_cmp (.inr (.inr (.inl rfl))), bo_cmp (.inr (.inr (.inl rfl)))]; rfl
      case leq => rw [bo_cmp (.inr (.inr (.inr (.inl rfl)))), bo_cmp (.inr (.inr (.inr (.inl rfl))))]; rfl
      case gtr => rw [bo_cmp (.inr (.inr (.inr (.inr (.inl rfl))))), bo_cmp (.inr (.inr (.inr (.inr (.inl rfl)))))]; rfl
      case geq => rw [bo_cmp (.inr (.inr (.inr (.inr (.inr (rfl)))))), bo_cmp (.inr (.inr (.inr (.inr (.inr (rfl))))))]; rfl
      case shl => exact (hs (.inl rfl)).elim
      case shr => exact (hs (.inr rfl)).elim
      case andNot =>
        have hb : ∀ ty, binOp .andNot ty (.int k a) (.int k b) = Op.intBits .andNot k a b := fun ty => by show (if k ≠ k then _ else _) = _; rw [if_neg (by simp)]
        rw [hb, hb]; rfl
    · have hb : ∀ ty, binOp op ty (.int k a) (.int k' b) = stuck "BinOp: operands of different kinds" := by
        intro ty
        cases op <;> first
          | exact (hs (.inl rfl)).elim
          | exact (hs (.inr rfl)).elim
          | (show (if k ≠ k' then _ else _) = _; rw [if_pos e])
      rw [hb, hb]; rfl
theorem sBin_t (H : sBin op x y G = true) : binK P op ty xo yo x y G = true := by
  unfold sBin vI2 at H
  split at H
  · rename_i k a k' b
    obtain ⟨v, hv, H⟩ := optK_true H
    split at H
    · rename_i hf
      rw [valK_eq] at H
      refine bin_int hf ?_ H
      rw [eqGuard_int]
      show pureRun P (binOp op ty (.int k a) (.int k' b)) = some v
      rw [pureRun_int P default op ty 0]; exact hv
    · cases H
  · cases H
noncomputable def gAdd (x y : Value) (G : Value → Bool) : Bool := fAdd (sBin .add x y G) x y G
theorem gAdd_t (H : gAdd x y G = true) : binK P .add ty xo yo x y G = true := fAdd_t sBin_t H
noncomputable def gSub (x y : Value) (G : Value → Bool) : Bool := fSub (sBin .sub x y G) x y G
theorem gSub_t (H : gSub x y G = true) : binK P .sub ty xo yo x y G = true := fSub_t sBin_t H
noncomputable def gMul (x y : Value) (G : Value → Bool) : Bool := fMul (sBin .mul x y G) x y G
theorem gMul_t (H : gMul x y G = true) : binK P .mul ty xo yo x y G = true := fMul_t sBin_t H
noncomputable def gLss (x y : Value) (G : Value → Bool) : Bool := fCmp (fun a b => cLss a b) x y G
theorem gLss_t (H : gLss x y G = true) : binK P .lss ty xo yo x y G = true := fCmp_t (c := fun a b => cLss a b) (by simp) (fun a b => by show _ = pure (Value.bool ((fun a b => cLss a b) a b)); simp only []; rw [cLss_eq]; rfl) H
theorem gLss_int (k : IntKind) (a b : Int) (G : Value → Bool) : gLss (.int k a) (.int k b) G = G (.bool ((fun a b => cLss a b) a b)) := fCmp_int _ k a b G
noncomputable def gLeq (x y : Value) (G : Value → Bool) : Bool := fCmp (fun a b => cNot (cLss b a)) x y G
theorem gLeq_t (H : gLeq x y G = true) : binK P .leq ty xo yo x y G = true := fCmp_t (c := fun a b => cNot (cLss b a)) (by simp) (fun a b => by show _ = pure (Value.bool ((fun a b => cNot (cLss b a)) a b)); simp only []; rw [cLeq_eq]; rfl) H
noncomputable def gGtr (x y : Value) (G : Value → Bool) : Bool := fCmp (fun a b => cLss b a) x y G
theorem gGtr_t (H : gGtr x y G = true) : binK P .gtr ty xo yo x y G = true := fCmp_t (c := fun a b => cLss b a) (by simp) (fun a b => by show _ = pure (Value.bool ((fun a b => cLss b a) a b)); simp only []; rw [cLss_eq]; rfl) H
theorem gGtr_int (k : IntKind) (a b : Int) (G : Value → Bool) : gGtr (.int k a) (.int k b) G = G (.bool ((fun a b => cLss b a) a b)) := fCmp_int _ k a b G
noncomputable def gGeq (x y : Value) (G : Value → Bool) : Bool := fCmp (fun a b => cNot (cLss a b)) x y G
theorem gGeq_t (H : gGeq x y G = true) : binK P .geq ty xo yo x y G = true := fCmp_t (c := fun a b => cNot (cLss a b)) (by simp) (fun a b => by show _ = pure (Value.bool ((fun a b => cNot (cLss a b)) a b)); simp only []; rw [cLeq_eq]; rfl) H
noncomputable def gEql (x y : Value) (G : Value → Bool) : Bool := fCmp (fun a b => cEql a b) x y G
theorem gEql_t (H : gEql x y G = true) : binK P .eql ty xo yo x y G = true := fCmp_t (c := fun a b => cEql a b) (by simp) (fun a b => by show _ = pure (Value.bool ((fun a b => cEql a b) a b)); simp only []; rw [cEql_eq]; rfl) H
theorem gEql_int (k : IntKind) (a b : Int) (G : Value → Bool) : gEql (.int k a) (.int k b) G = G (.bool ((fun a b => cEql a b) a b)) := fCmp_int _ k a b G
noncomputable def gNeq (x y : Value) (G : Value → Bool) : Bool := fCmp (fun a b => cNot (cEql a b)) x y G
theorem gNeq_t (H : gNeq x y G = true) : binK P .neq ty xo yo x y G = true := fCmp_t (c := fun a b => cNot (cEql a b)) (by simp) (fun a b => by show _ = pure (Value.bool ((fun a b => cNot (cEql a b)) a b)); simp only []; rw [cNot_eq, cEql_eq]; rfl) H
noncomputable def gShl (x y : Value) (G : Value → Bool) : Bool := fShl (sBin .shl x y G) x y G
theorem gShl_t (H : gShl x y G = true) : binK P .shl ty xo yo x y G = true := fShl_t sBin_t H
noncomputable def gShr (x y : Value) (G : Value → Bool) : Bool := fShr (sBin .shr x y G) x y G
theorem gShr_t (H : gShr x y G = true) : binK P .shr ty xo yo x y G = true := fShr_t sBin_t H
noncomputable def gAnd (x y : Value) (G : Value → Bool) : Bool := fAnd (sBin .and x y G) x y G
theorem gAnd_t (H : gAnd x y G = true) : binK P .and ty xo yo x y G = true := fAnd_t sBin_t H
noncomputable def gOr (x y : Value) (G : Value → Bool) : Bool := fOr (sBin .or x y G) x y G
theorem gOr_t (H : gOr x y G = true) : binK P .or ty xo yo x y G = true := fOr_t sBin_t H
noncomputable def gXor (x y : Value) (G : Value → Bool) : Bool := fXor (sBin .xor x y G) x y G
theorem gXor_t (H : gXor x y G = true) : binK P .xor ty xo yo x y G = true := fXor_t sBin_t H
noncomputable def gQuo (x y : Value) (G : Value → Bool) : Bool := fQuo (sBin .quo x y G) x y G
noncomputable def gRem (x y : Value) (G : Value → Bool) : Bool := fRem (sBin .rem x y G) x y G
theorem gRem_t (H : gRem x y G = true) : binK P .rem ty xo yo x y G = true := fRem_t sBin_t H
/-! ### conversions of numbers, 'not' -/
noncomputable def sConv (k : IntKind) (x : Value) (G : Value → Bool) : Bool := match x with
  | .int _ n => valK (.int k (k.wrap n)) G
  | _ => false
noncomputable def fConv (k : IntKind) (s : Bool) (x : Value) (G : Value → Bool) : Bool := vNat x s fun _ a => iff' (Nat.ble (Nat.succ a) (lim k)) (G (.int k (.ofNat a))) (iff' (uns k) (natK (Nat.mod a (lim k)) fun c => G (.int k (.ofNat c))) s)
theorem pureRun_und {α : Type} {t : TypeId} {d : TypeDesc} (h : P.underlying t = some d) (f : TypeDesc → Sem α) : pureRun P (underlying t >>= f) = pureRun P (f d) := by
  show pureRun P ((match P.underlying t with | some d => pure d | none => stuck "no such type") >>= f) = _
  rw [h]; rfl
theorem conv_int {sT dT : TypeId} {k k' : IntKind} {u : TypeDesc} {h : Heap} {n : Int} (hs : P.underlying sT = some u) (hd : P.underlying dT = some (.int k)) (H : G (.int k (k.wrap n)) = true) : hConv P sT dT (.int k' n) h G = true := by
  unfold hConv
  rw [if_pos (show flat (Value.int k' n) = true from rfl)]
  refine pureK_at (v := .int k (k.wrap n)) ?_ rfl H
  show pureRun P (underlying sT >>= fun a => underlying dT >>= fun b => _) = _
  rw [pureRun_und hs, pureRun_und hd]
  cases u <;> rfl
theorem fConv_t {sT dT : TypeId} {k : IntKind} {u : TypeDesc} {h : Heap} (hs : P.underlying sT = some u) (hd : P.underlying dT = some (.int k)) {s : Bool} (hsl : s = true → hConv P sT dT x h G = true) (H : fConv k s x G = true) : hConv P sT dT x h G = true := by
  rcases vNat_true H with ⟨k', a, rfl, H1⟩ | H1
  · rcases iff'_true H1 with ⟨h2, H2⟩ | ⟨_, H2⟩
    · exact conv_int hs hd (by rw [show (Value.int k (k.wrap (Int.ofNat a))) = _ from int_of rfl (lt_of_ble h2)]; exact H2)
    · rcases iff'_true H2 with ⟨h3, H3⟩ | ⟨_, H3⟩
      · rw [natK_eq] at H3
        exact conv_int hs hd (by rw [show k.wrap (Int.ofNat a) = _ from wrap_uns h3]; exact H3)
      · exact hsl H3
  · exact hsl H1
theorem sConv_t {sT dT : TypeId} {k : IntKind} {u : TypeDesc} {h : Heap} (hs : P.underlying sT = some u) (hd : P.underlying dT = some (.int k)) (H : sConv k x G = true) : hConv P sT dT x h G = true := by
  unfold sConv at H
  split at H
  · rw [valK_eq] at H; exact conv_int hs hd H
  · cases H
noncomputable def gConv (k : IntKind) (x : Value) (G : Value → Bool) : Bool := fConv k (sConv k x G) x G
theorem gConv_t {sT dT : TypeId} {k : IntKind} {u : TypeDesc} {h : Heap} (hs : P.underlying sT = some u) (hd : P.underlying dT = some (.int k)) (H : gConv k x G = true) : hConv P sT dT x h G = true := fConv_t hs hd (sConv_t hs hd) H
noncomputable def gNot (x : Value) (G : Value → Bool) : Bool := vBool x (G (.bool false)) (G (.bool true))
theorem gNot_t (H : gNot x G = true) : hUn P .not x G = true := by
  rcases vBool_true H with ⟨rfl, H⟩ | ⟨rfl, H⟩
  · exact (by unfold hUn; rw [if_pos (show flat (Value.bool true) = true from rfl)]; exact pureK_at (v := .bool false) rfl rfl H)
  · exact (by unfold hUn; rw [if_pos (show flat (Value.bool false) = true from rfl)]; exact pureK_at (v := .bool true) rfl rfl H)
end Go.AM

/- H, part 12: the rules in the short form of the printed proofs (printed by genp.py). -/
import Derived.Test.YtmfkidinmcmaaaaGreatAmO
set_option linter.unusedVariables false
set_option linter.unusedSimpArgs false
namespace Go.AM
variable {P : Program}
abbrev SimR (P : Program) (f : FuncId) (args : List Value) (h : Heap) (nx : Nat) (k : KV) : Prop := ∃ v h' nx', k v h' nx' = true ∧ CallSim P f args h nx v h' nx'
abbrev I (n : Nat) : Value := .int .i64 (.ofNat n)
abbrev tm (n : Nat) : Operand := .tmp n
abbrev cn (v : Value) : Operand := .const v
abbrev Fn0 (f : Nat) : Value := .func (.func f) ⟨[]⟩ ⟨[]⟩
abbrev V0 : Type := Unit
abbrev V1 : Type := Value × V0
abbrev V2 : Type := Value × V1
abbrev V3 : Type := Value × V2
abbrev V4 : Type := Value × V3
abbrev V5 : Type := Value × V4
abbrev V6 : Type := Value × V5
abbrev V7 : Type := Value × V6
abbrev V8 : Type := Value × V7
abbrev V9 : Type := Value × V8
abbrev V10 : Type := Value × V9
abbrev V11 : Type := Value × V10
abbrev V12 : Type := Value × V11
abbrev V13 : Type := Value × V12
abbrev V14 : Type := Value × V13
abbrev V15 : Type := Value × V14
abbrev V16 : Type := Value × V15
abbrev V17 : Type := Value × V16
abbrev V18 : Type := Value × V17
abbrev V19 : Type := Value × V18
abbrev V20 : Type := Value × V19
abbrev V21 : Type := Value × V20
abbrev V22 : Type := Value × V21
abbrev V23 : Type := Value × V22
abbrev V24 : Type := Value × V23
abbrev V25 : Type := Value × V24
abbrev V26 : Type := Value × V25
abbrev V27 : Type := Value × V26
abbrev V28 : Type := Value × V27
abbrev V29 : Type := Value × V28
abbrev V30 : Type := Value × V29
abbrev V31 : Type := Value × V30
abbrev V32 : Type := Value × V31
abbrev u0 (f : Heap → Nat → Bool) (_ : V0) : Heap → Nat → Bool := f
abbrev t0 (_ : V0) : Tb := []
abbrev u1 (f : Value → Heap → Nat → Bool) (x : V1) : Heap → Nat → Bool := u0 (f x.1) x.2
abbrev t1 (i0  : Nat) (x : V1) : Tb := (i0, some x.1) :: t0  x.2
abbrev u2 (f : Value → Value → Heap → Nat → Bool) (x : V2) : Heap → Nat → Bool := u1 (f x.1) x.2
abbrev t2 (i0 i1 : Nat) (x : V2) : Tb := (i0, some x.1) :: t1 i1 x.2
abbrev u3 (f : Value → Value → Value → Heap → Nat → Bool) (x : V3) : Heap → Nat → Bool := u2 (f x.1) x.2
abbrev t3 (i0 i1 i2 : Nat) (x : V3) : Tb := (i0, some x.1) :: t2 i1 i2 x.2
abbrev u4 (f : Value → Value → Value → Value → Heap → Nat → Bool) (x : V4) : Heap → Nat → Bool := u3 (f x.1) x.2
abbrev t4 (i0 i1 i2 i3 : Nat) (x : V4) : Tb := (i0, some x.1) :: t3 i1 i2 i3 x.2
abbrev u5 (f : Value → Value → Value → Value → Value → Heap → Nat → Bool) (x : V5) : Heap → Nat → Bool := u4 (f x.1) x.2
abbrev t5 (i0 i1 i2 i3 i4 : Nat) (x : V5) : Tb := (i0, some x.1) :: t4 i1 i2 i3 i4 x.2
abbrev u6 (f : Value → Value → Value → Value → Value → Value → Heap → Nat → Bool) (x : V6) : Heap → Nat → Bool := u5 (f x.1) x.2
abbrev t6 (i0 i1 i2 i3 i4 i5 : Nat) (x : V6) : Tb := (i0, some x.1) :: t5 i1 i2 i3 i4 i5 x.2
abbrev u7 (f : Value → Value → Value → Value → Value → Value → Value → Heap → Nat → Bool) (x : V7) : Heap → Nat → Bool := u6 (f x.1) x.2
abbrev t7 (i0 i1 i2 i3 i4 i5 i6 : Nat) (x : V7) : Tb := (i0, some x.1) :: t6 i1 i2 i3 i4 i5 i6 x.2
abbrev u8 (f : Value → Value → Value → Value → Value → Value → Value → Value → Heap → Nat → Bool) (x : V8) : Heap → Nat → Bool := u7 (f x.1) x.2
abbrev t8 (i0 i1 i2 i3 i4 i5 i6 i7 : Nat) (x : V8) : Tb := (i0, some x.1) :: t7 i1 i2 i3 i4 i5 i6 i7 x.2
abbrev u9 (f : Value → Value → Value → Value → Value → Value → Value → Value → Value → Heap → Nat → Bool) (x : V9) : Heap → Nat → Bool := u8 (f x.1) x.2
abbrev t9 (i0 i1 i2 i3 i4 i5 i6 i7 i8 : Nat) (x : V9) : Tb := (i0, some x.1) :: t8 i1 i2 i3 i4 i5 i6 i7 i8 x.2
abbrev u10 (f : Value → Value → Value → Value → Value → Value → Value → Value → Value → Value → Heap → Nat → Bool) (x : V10) : Heap → Nat → Bool := u9 (f x.1) x.2
abbrev t10 (i0 i1 i2 i3 i4 i5 i6 i7 i8 i9 : Nat) (x : V10) : Tb := (i0, some x.1) :: t9 i1 i2 i3 i4 i5 i6 i7 i8 i9 x.2
abbrev u11 (f : Value → Value → Value → Value → Value → Value → Value → Value → Value → Value → Value → Heap → Nat → Bool) (x : V11) : Heap → Nat → Bool := u10 (f x.1) x.2
abbrev t11 (i0 i1 i2 i3 i4 i5 i6 i7 i8 i9 i10 : Nat) (x : V11) : Tb := (i0, some x.1) :: t10 i1 i2 i3 i4 i5 i6 i7 i8 i9 i10 x.2
abbrev u12 (f : Value → Value → Value → Value → Value → Value → Value → Value → Value → Value → Value → Value → Heap → Nat → Bool) (x : V12) : Heap → Nat → Bool := u11 (f x.1) x.2
abbrev t12 (i0 i1 i2 i3 i4 i5 i6 i7 i8 i9 i10 i11 : Nat) (x : V12) : Tb := (i0, some x.1) :: t11 i1 i2 i3 i4 i5 i6 i7 i8 i9 i10 i11 x.2
abbrev u13 (f : Value → Value → Value → Value → Value → Value → Value → Value → Value → Value → Value → Value → Value → Heap → Nat → Bool) (x : V13) : Heap → Nat → Bool := u12 (f x.1) x.2
abbrev t13 (i0 i1 i2 i3 i4 i5 i6 i7 i8 i9 i10 i11 i12 : Nat) (x : V13) : Tb := (i0, some x.1) :: t12 i1 i2 i3 i4 i5 i6 i7 i8 i9 i10 i11 i12 x.2
abbrev u14 (f : Value → Value → Value → Value → Value → Value → Value → Value → Value → Value → Value → Value → Value → Value → Heap → Nat → Bool) (x : V14) : Heap → Nat → Bool := u13 (f x.1) x.2
abbrev t14 (i0 i1 i2 i3 i4 i5 i6 i7 i8 i9 i10 i11 i12 i13 : Nat) (x : V14) : Tb := (i0, some x.1) :: t13 i1 i2 i3 i4 i5 i6 i7 i8 i9 i10 i11 i12 i13 x.2
abbrev u15 (f : Value → Value → Value → Value → Value → Value → Value → Value → Value → Value → Value → Value → Value → Value → Value → Heap → Nat → Bool) (x : V15) : Heap → Nat → Bool := u14 (f x.1) x.2
abbrev u16 (f : Value → Value → Value → Value → Value → Value → Value → Value → Value → Value → Value → Value → Value → Value → Value → Value → Heap → Nat → Bool) (x : V16) : Heap → Nat → Bool := u15 (f x.1) x.2
abbrev u17 (f : Value → Value → Value → Value → Value → Value → Value → Value → Value → Value → Value → Value → Value → Value → Value → Value → Value → Heap → Nat → Bool) (x : V17) : Heap → Nat → Bool := u16 (f x.1) x.2
abbrev u18 (f : Value → Value → Value → Value → Value → Value → Value → Value → Value → Value → Value → Value → Value → Value → Value → Value → Value → Value → Heap → Nat → Bool) (x : V18) : Heap → Nat → Bool := u17 (f x.1) x.2
abbrev u19 (f : Value → Value → Value → Value → Value → Value → Value → Value → Value → Value → Value → Value → Value → Value → Value → Value → Value → Value → Value → Heap → Nat → Bool) (x : V19) : Heap → Nat → Bool := u18 (f x.1) x.2
abbrev u20 (f : Value → Value → Value → Value → Value → Value → Value → Value → Value → Value → Value → Value → Value → Value → Value → Value → Value → Value → Value → Value → Heap → Nat → Bool) (x : V20) : Heap → Nat → Bool := u19 (f x.1) x.2
abbrev u21 (f : Value → Value → Value → Value → Value → Value → Value → Value → Value → Value → Value → Value → Value → Value → Value → Value → Value → Value → Value → Value → Value → Heap → Nat → Bool) (x : V21) : Heap → Nat → Bool := u20 (f x.1) x.2
abbrev u22 (f : Value → Value → Value → Value → Value → Value → Value → Value → Value → Value → Value → Value → Value → Value → Value → Value → Value → Value → Value → Value → Value → Value → Heap → Nat → Bool) (x : V22) : Heap → Nat → Bool := u21 (f x.1) x.2
abbrev u23 (f : Value → Value → Value → Value → Value → Value → Value → Value → Value → Value → Value → Value → Value → Value → Value → Value → Value → Value → Value → Value → Value → Value → Value → Heap → Nat → Bool) (x : V23) : Heap → Nat → Bool := u22 (f x.1) x.2
abbrev u24 (f : Value → Value → Value → Value → Value → Value → Value → Value → Value → Value → Value → Value → Value → Value → Value → Value → Value → Value → Value → Value → Value → Value → Value → Value → Heap → Nat → Bool) (x : V24) : Heap → Nat → Bool := u23 (f x.1) x.2
abbrev u25 (f : Value → Value → Value → Value → Value → Value → Value → Value → Value → Value → Value → Value → Value → Value → Value → Value → Value → Value → Value → Value → Value → Value → Value → Value → Value → Heap → Nat → Bool) (x : V25) : Heap → Nat → Bool := u24 (f x.1) x.2
abbrev u26 (f : Value → Value → Value → Value → Value → Value → Value → Value → Value → Value → Value → Value → Value → Value → Value → Value → Value → Value → Value → Value → Value → Value → Value → Value → Value → Value → Heap → Nat → Bool) (x : V26) : Heap → Nat → Bool := u25 (f x.1) x.2
abbrev u27 (f : Value → Value → Value → Value → Value → Value → Value → Value → Value → Value → Value → Value → Value → Value → Value → Value → Value → Value → Value → Value → Value → Value → Value → Value → Value → Value → Value → Heap → Nat → Bool) (x : V27) : Heap → Nat → Bool := u26 (f x.1) x.2
abbrev u28 (f : Value → Value → Value → Value → Value → Value → Value → Value → Value → Value → Value → Value → Value → Value → Value → Value → Value → Value → Value → Value → Value → Value → Value → Value → Value → Value → Value → Value → Heap → Nat → Bool) (x : V28) : Heap → Nat → Bool := u27 (f x.1) x.2
abbrev u29 (f : Value → Value → Value → Value → Value → Value → Value → Value → Value → Value → Value → Value → Value → Value → Value → Value → Value → Value → Value → Value → Value → Value → Value → Value → Value → Value → Value → Value → Value → Heap → Nat → Bool) (x : V29) : Heap → Nat → Bool := u28 (f x.1) x.2
abbrev u30 (f : Value → Value → Value → Value → Value → Value → Value → Value → Value → Value → Value → Value → Value → Value → Value → Value → Value → Value → Value → Value → Value → Value → Value → Value → Value → Value → Value → Value → Value → Value → Heap → Nat → Bool) (x : V30) : Heap → Nat → Bool := u29 (f x.1) x.2
abbrev u31 (f : Value → Value → Value → Value → Value → Value → Value → Value → Value → Value → Value → Value → Value → Value → Value → Value → Value → Value → Value → Value → Value → Value → Value → Value → Value → Value → Value → Value → Value → Value → Value → Heap → Nat → Bool) (x : V31) : Heap → Nat → Bool := u30 (f x.1) x.2
abbrev u32 (f : Value → Value → Value → Value → Value → Value → Value → Value → Value → Value → Value → Value → Value → Value → Value → Value → Value → Value → Value → Value → Value → Value → Value → Value → Value → Value → Value → Value → Value → Value → Value → Value → Heap → Nat → Bool) (x : V32) : Heap → Nat → Bool := u31 (f x.1) x.2
abbrev F0 : Type := Heap → Nat → Bool
abbrev F1 : Type := Value → F0
abbrev F2 : Type := Value → F1
abbrev F3 : Type := Value → F2
abbrev F4 : Type := Value → F3
abbrev F5 : Type := Value → F4
abbrev F6 : Type := Value → F5
abbrev F7 : Type := Value → F6
abbrev F8 : Type := Value → F7
abbrev F9 : Type := Value → F8
abbrev F10 : Type := Value → F9
abbrev F11 : Type := Value → F10
abbrev F12 : Type := Value → F11
abbrev F13 : Type := Value → F12
abbrev F14 : Type := Value → F13
abbrev HF : Type := Heap → Nat → KV → Bool
abbrev R0 : Type := HF
abbrev R1 : Type := Value → R0
abbrev R2 : Type := Value → R1
def subV (T T₂ : Tb) : Prop := (T₂.map fun p => look T p.1) = T₂.map fun p => some p.2
theorem subV_sub {T : Tb} : ∀ {T₂ : Tb}, subV T T₂ → Sub T₂ T
  | [], _ => trivial
  | (i, ov) :: T₂, h => by
    unfold subV at h
    simp only [List.map_cons, List.cons.injEq] at h
    exact ⟨h.1, subV_sub h.2⟩
/-! ### control -/
section
variable {N : Nat} {T T₂ : Tb} {h : Heap} {nx : Nat} {K : Ex → Tb → Heap → Nat → Prop} {x y : Code} {id : Nat} {ops : Array Oper}
theorem cS (H : CJ P N x T h nx (SeqK P N y K)) : CJ P N (.seq x y) T h nx K := .seq H
theorem cR (H : OJ P N ops ops.toList T h nx (K .nm)) : CJ P N (.region id ops false) T h nx K := .region H
theorem cSR (H : OJ P N ops ops.toList T h nx (SeqK P N y K .nm)) : CJ P N (.seq (.region id ops false) y) T h nx K := .seq (.region H)
theorem cB (H : CJ P N x T h nx (BlockK id K)) : CJ P N (.block id x) T h nx K := .block H
theorem cC {X : Type} (J : X → Heap → Nat → Bool) (Tof : X → Tb) (H : CJ P N x T h nx (CutK J Tof (SeqK P N y K))) (next : ∀ x h nx, J x h nx = true → SeqK P N y K .nm (Tof x) h nx) : CJ P N (.seq x y) T h nx K := .seq (.cut J Tof H next)
theorem cI {c : Operand} {v : Value} {A B : Unit → Bool} (hc : evT T c = some v) (H : hIf v A B = true) (H1 : A () = true → CJ P N x T h nx K) (H2 : B () = true → CJ P N y T h nx K) : CJ P N (.cond c x y) T h nx K := .ite hc H H1 H2
theorem cW {X : Type} {b : Code} (f : Nat → X → Heap → Nat → Bool) (Tof : X → Tb) (n : Nat) (x : X) (s : subV T (Tof x)) (zero : ∀ x h nx, f 0 x h nx = false) (H : f n x h nx = true)
    (step : ∀ n, (∀ x h nx, f n x h nx = true → CJ P N (.loop b) (Tof x) h nx K) → ∀ x h nx, f (n + 1) x h nx = true → CJ P N b (Tof x) h nx (LoopK P N b K)) : CJ P N (.loop b) T h nx K :=
  .weaken (Tof x) (subV_sub s) (.loop_ind f Tof zero step n x h nx H)
theorem jS (H : K .nm T₂ h nx) (s : subV T T₂) : CJ P N .skip T h nx K := .skip T₂ (subV_sub s) H
theorem jE (H : K (.exit id) T₂ h nx) (s : subV T T₂) : CJ P N (.exit id) T h nx K := .exit T₂ (subV_sub s) H
theorem jO {K : Tb → Heap → Nat → Prop} (H : K T₂ h nx) (s : subV T T₂) : OJ P N ops [] T h nx K := .done T₂ (subV_sub s) H
theorem jG {l : List Oper} {K : Tb → Heap → Nat → Prop} (H : OJ P N ops l T₂ h nx K) (s : subV T T₂) : OJ P N ops l T h nx K := .weaken T₂ (subV_sub s) H
theorem zS (H : K .nm T h nx) : CJ P N .skip T h nx K := .skip1 H
theorem zE (H : K (.exit id) T h nx) : CJ P N (.exit id) T h nx K := .exit1 H
theorem zR {y : Code} {ops' : Array Oper} (H : OJ P N ops' ops'.toList T h nx (SeqK P N y K .nm)) : OJ P N ops [] T h nx (SeqK P N (.seq (.region id ops' false) y) K .nm) := .fin (cSR H)
theorem zT (H : K .ret T h nx) : CJ P N .ret T h nx K := .ret1 H
theorem zO {K : Tb → Heap → Nat → Prop} (H : K T h nx) : OJ P N ops [] T h nx K := .fin H
end
theorem rR {rs : List ResultVar} {k : KV} {T : Tb} {h : Heap} {nx d : Nat} {v : Value} (hrs : rs = [.tmp d]) (hv : look T d = some (some v)) (H : k v h nx = true) : RetK P rs k .ret T h nx := ret_one (.inr rfl) hrs hv H
def looks (T : Tb) : List Nat → List Value → Prop := fun ds vs => (ds.map fun d => look T d) = vs.map fun v => some (some v)
theorem looks_L {T : Tb} : ∀ {ds : List Nat} {vs : List Value}, looks T ds vs → LookL T ds vs
  | [], [], _ => trivial
  | d :: ds, v :: vs, h => by
    unfold looks at h
    simp only [List.map_cons, List.cons.injEq] at h
    exact ⟨h.1, looks_L h.2⟩
  | [], _ :: _, h => by simp [looks] at h
  | _ :: _, [], h => by simp [looks] at h
theorem rM {rs : List ResultVar} {k : KV} {e : Ex} {T : Tb} {h : Heap} {nx : Nat} {vs : List Value} (ds : List Nat) (he : e = .nm ∨ e = .ret) (hrs : rs = ds.map .tmp) (H : hRet vs h nx k = true) (hl : looks T ds vs) : RetK P rs k e T h nx := ret_many ds he hrs (looks_L hl) H
/-! ### operands by equations -/
def evs (T : Tb) (xs : List Operand) (vs : List Value) : Prop := (xs.map fun x => evT T x) = vs.map some
theorem evs_L {T : Tb} : ∀ {xs : List Operand} {vs : List Value}, evs T xs vs → EvL T xs vs
  | [], [], _ => trivial
  | x :: xs, v :: vs, h => by
    unfold evs at h
    simp only [List.map_cons, List.cons.injEq] at h
    exact ⟨h.1, evs_L h.2⟩
  | [], _ :: _, h => by simp [evs] at h
  | _ :: _, [], h => by simp [evs] at h
def evp (T : Tb) (xs : List (Nat × Operand)) (vs : List (Nat × Value)) : Prop := (xs.map fun x => (x.1, evT T x.2)) = vs.map fun v => (v.1, some v.2)
theorem evp_P {T : Tb} : ∀ {xs : List (Nat × Operand)} {vs : List (Nat × Value)}, evp T xs vs → EvP T xs vs
  | [], [], _ => trivial
  | (i, x) :: xs, (j, v) :: vs, h => by
    unfold evp at h
    simp only [List.map_cons, List.cons.injEq, Prod.mk.injEq] at h
    exact ⟨h.1.1, h.1.2, evp_P h.2⟩
  | [], _ :: _, h => by simp [evp] at h
  | _ :: _, [], h => by simp [evp] at h
def evo (T : Tb) (x : Option Operand) (v : Option Value) : Prop := (x.map fun x => evT T x) = v.map some
theorem evo_O {T : Tb} {x : Option Operand} {v : Option Value} (h : evo T x v) : EvO T x v := by
  cases x <;> cases v <;> simp_all [evo, EvO]
/-! ### guards -/
def GOk (ops : Array Oper) (T : Tb) : Option (Nat × Bool) → Prop
  | none => True
  | some (j, want) => ∃ d og, (ops[j]?).bind (·.dst) = some d ∧ look T d = some og ∧ WantP og want true
theorem g0 {ops : Array Oper} {T : Tb} : GOk ops T none := trivial
theorem gi {ops : Array Oper} {T : Tb} {j d : Nat} {want : Bool} {og : Option Value} (hj : (ops[j]?).bind (·.dst) = some d) (hl : look T d = some og) (g : WantP og want true) : GOk ops T (some (j, want)) := ⟨d, og, hj, hl, g⟩
theorem GOk.b {ops : Array Oper} {T : Tb} {o : Oper} (g : GOk ops T o.guard) : guardB ops T o true := by
  unfold guardB
  unfold GOk at g
  split at g
  · rename_i e; rw [e]
  · rename_i j want e
    rw [e]; exact g
theorem gn {ops : Array Oper} {T : Tb} {N : Nat} {h : Heap} {nx : Nat} {K : Tb → Heap → Nat → Prop} {l : List Oper} {dst : Option Tmp} {op : Op} {t : TypeId} {p : String} {af : Array Edge} {j d : Nat} {want : Bool} {og : Option Value} (hd : dstOk N dst = true) (hj : (ops[j]?).bind (·.dst) = some d) (hl : look T d = some og) (g : WantP og want false)
    (rest : OJ P N ops l (upd dst none T) h nx K) : OJ P N ops (⟨dst, op, t, p, af, some (j, want)⟩ :: l) T h nx K :=
  .skip (guard_in rfl hj hl g) hd rest
/-! ### one operation -/
section
variable {N : Nat} {ops : Array Oper} {l : List Oper} {T : Tb} {h : Heap} {nx : Nat} {K : Tb → Heap → Nat → Prop} {dst : Option Tmp} {t : TypeId} {p : String} {af : Array Edge} {gd : Option (Nat × Bool)}
theorem xmv {o : Oper} {v : Value} (hg : GOk ops T o.guard) (hd : dstOk N o.dst = true) (S : OpR P o T h nx (some v) h nx) (rest : OJ P N ops l (upd o.dst (some v) T) h nx K) : OJ P N ops (o :: l) T h nx K := .step hg.b S hd rest
theorem xrd {o : Oper} {G : Value → Bool} (hg : GOk ops T o.guard) (hd : dstOk N o.dst = true) (E : ∃ v, G v = true ∧ OpR P o T h nx (some v) h nx) (rest : ∀ v, G v = true → OJ P N ops l (upd o.dst (some v) T) h nx K) : OJ P N ops (o :: l) T h nx K :=
  let ⟨v, H, S⟩ := E; .step hg.b S hd (rest v H)
theorem xwr {o : Oper} {G : Heap → Bool} (hg : GOk ops T o.guard) (hd : o.dst = none) (E : ∃ h', G h' = true ∧ OpR P o T h nx none h' nx) (rest : ∀ h', G h' = true → OJ P N ops l T h' nx K) : OJ P N ops (o :: l) T h nx K := by
  obtain ⟨h', H, S⟩ := E
  exact .step hg.b S (by unfold dstOk; rw [hd]) (by rw [hd]; exact rest h' H)
theorem xfu {o : Oper} {G : KV} (hg : GOk ops T o.guard) (hd : dstOk N o.dst = true) (E : ∃ v h' nx', G v h' nx' = true ∧ OpR P o T h nx (some v) h' nx') (rest : ∀ v h' nx', G v h' nx' = true → OJ P N ops l (upd o.dst (some v) T) h' nx' K) : OJ P N ops (o :: l) T h nx K :=
  let ⟨v, h', nx', H, S⟩ := E; .step hg.b S hd (rest v h' nx' H)
end
/-! ### one operation of a region that draws its order -/
def Dn (P : Program) (ops : Array Oper) (ms : List Nat) (i : Nat) (src : List (Nat × Option Nat)) (Ti : Tb) (S : Oper → Prop) : Prop := masksB ops ms = true ∧ srcB ops ms i src = true ∧ GOk ops Ti (opAt ops i).guard ∧ S (opAt ops i)
def tiOf (outs : List (Option Value)) (T₀ : Tb) (src : List (Nat × Option Nat)) : List (Nat × Option (Option Value)) := src.map fun x => (x.1, match x.2 with | some j => some (nthV outs j) | none => look T₀ x.1)
def tiEq (outs : List (Option Value)) (T₀ : Tb) (src : List (Nat × Option Nat)) (Ti : Tb) : Prop := tiOf outs T₀ src = Ti.map fun x => (x.1, some x.2)
theorem srcT_of {outs : List (Option Value)} {es : List Nat} {Gs : List (Heap × Nat)} {fbs : List (Nat × Nat)} {T₀ : Tb} : ∀ {src : List (Nat × Option Nat)} {Ti : Tb}, tiEq outs T₀ src Ti → SrcT (mkRec outs es Gs fbs) T₀ src Ti
  | [], [], _ => trivial
  | (t, some j) :: l, (t', ov) :: T, h => by
    unfold tiEq tiOf at h
    simp only [List.map_cons, List.cons.injEq, Prod.mk.injEq, Option.some.injEq] at h
    exact ⟨h.1.1, h.1.2, srcT_of h.2⟩
  | (t, none) :: l, (t', ov) :: T, h => by
    unfold tiEq tiOf at h
    simp only [List.map_cons, List.cons.injEq, Prod.mk.injEq] at h
    exact ⟨h.1.1, h.1.2, srcT_of h.2⟩
  | [], _ :: _, h => by simp [tiEq, tiOf] at h
  | (_, some _) :: _, [], h => by simp [tiEq, tiOf] at h
  | (_, none) :: _, [], h => by simp [tiEq, tiOf] at h
section
variable {N : Nat} {ops : Array Oper} {T₀ : Tb} {nx : Nat} {ms : List Nat} {i : Nat} {src : List (Nat × Option Nat)} {Ti : Tb} {o : Oper} {outs : List (Option Value)} {es : List Nat} {Gs : List (Heap × Nat)} {fbs : List (Nat × Nat)}
theorem fA {v : Value} (D : Dn P ops ms i src Ti fun o => ∀ h nx, OpR P o Ti h nx (some v) h nx) (ho : opAt ops i = o := by rfl) (ht : tiEq outs T₀ src Ti := by rfl) (hv : nthV outs i = some v := by rfl) (he : es.contains i = false := by rfl) (hf : lookF fbs i = none := by rfl) : Fact P N ops (mkRec outs es Gs fbs) T₀ nx i o := by
  subst ho
  exact F_any D.1 src D.2.1 (srcT_of ht) D.2.2.1.b he hf (by show ∀ h nx, OpR P _ Ti h nx (nthV outs i) h nx; rw [hv]; exact D.2.2.2)
theorem fN {j d : Nat} {want : Bool} {og : Option Value} (hm : masksB ops ms = true) (src : List (Nat × Option Nat)) (Ti : Tb) (g : WantP og want false) (hg : o.guard = some (j, want)) (hj : (ops[j]?).bind (·.dst) = some d) (hl : look Ti d = some og) (ht : tiEq outs T₀ src Ti := by rfl) (hv : nthV outs i = none := by rfl) (he : es.contains i = false := by rfl) (hf : lookF fbs i = none := by rfl) (hb : srcB ops ms i src = true := by decide +kernel) : Fact P N ops (mkRec outs es Gs fbs) T₀ nx i o :=
  F_skip hm src hb (srcT_of ht) (guard_in hg hj hl g) hv he hf
def ROk (P : Program) (o : Oper) (Ti : Tb) (v : Value) (g : Heap × Nat) : Prop := OpR P o Ti g.1 g.2 (some v) g.1 g.2
theorem fR {h : Heap} {n₀ : Nat} {v : Value} (D : Dn P ops ms i src Ti fun o => OpR P o Ti h n₀ (some v) h n₀) (lo n : Nat)
    (S : AllFrom (fun k => ROk P (opAt ops i) Ti v (nthG Gs k)) lo n) (ho : opAt ops i = o := by rfl) (ht : tiEq outs T₀ src Ti := by rfl) (hv : nthV outs i = some v := by rfl) (he : es.contains i = false := by rfl) (hf : lookF fbs i = none := by rfl) (hst : stB ms es i lo n = true := by decide +kernel) : Fact P N ops (mkRec outs es Gs fbs) T₀ nx i o := by
  subst ho
  refine F_read D.1 src D.2.1 (srcT_of ht) D.2.2.1.b he hf lo n hst ?_
  rw [hv]; exact S
theorem fF {h' : Heap} {v : Value} (nb : Nat) (D : Dn P ops ms i src Ti fun o => FreshA P o Ti h' nb v) (hnb : nx ≤ nb) (hu : AllF (fun j nb' => nb' = nb → j = i) fbs) (lo n : Nat)
    (S : AllFrom (fun k => nb < (nthG Gs k).2 ∧ (nthG Gs k).1.at nb = h'.at nb) lo n) (ho : opAt ops i = o := by rfl) (ht : tiEq outs T₀ src Ti := by rfl) (hv : nthV outs i = some v := by rfl) (he : es.contains i = false := by rfl) (hf : lookF fbs i = some nb := by rfl) (hst : stB ms es i lo n = true := by decide +kernel) : Fact P N ops (mkRec outs es Gs fbs) T₀ nx i o := by
  subst ho
  refine F_fresh D.1 src D.2.1 (srcT_of ht) D.2.2.1.b he nb hf hnb hu lo n hst ?_
  rw [hv]
  have : ∀ {n lo : Nat}, AllFrom (fun k => nb < (nthG Gs k).2 ∧ (nthG Gs k).1.at nb = h'.at nb) lo n → AllFrom (fun k => FreshR P (opAt ops i) Ti (nthG Gs k).1 (nthG Gs k).2 nb (some v)) lo n := by
    intro n
    induction n with
    | zero => intro lo _; trivial
    | succ n ih => intro lo hS; exact ⟨D.2.2.2 _ _ hS.1.1 hS.1.2, ih hS.2⟩
  exact this S
theorem fE {ov : Option Value} {h h₁ : Heap} {n₀ nx₁ : Nat} (D : Dn P ops ms i src Ti fun o => OpR P o Ti h n₀ ov h₁ nx₁) (j : Nat)
    (hgrow : Grow h₁ nx₁ (nthG Gs (j+1)).1 (nthG Gs (j+1)).2) (hfb : AllF (fun _ nb => nb < n₀ ∨ nx₁ ≤ nb) fbs) (ho : opAt ops i = o := by rfl) (ht : tiEq outs T₀ src Ti := by rfl) (hv : nthV outs i = ov := by rfl) (hf : lookF fbs i = none := by rfl) (hj : es[j]? = some i := by rfl) (hG : nthG Gs j = (h, n₀) := by rfl) (htot : totB ms es = true := by decide +kernel) (hnx : nx ≤ n₀ := by omega) : Fact P N ops (mkRec outs es Gs fbs) T₀ nx i o := by
  subst ho; subst hv
  have h1 : (nthG Gs j).1 = h := by rw [hG]
  have h2 : (nthG Gs j).2 = n₀ := by rw [hG]
  subst h1; subst h2
  exact F_eff D.1 src D.2.1 (srcT_of ht) D.2.2.1.b hf j hj htot D.2.2.2 hgrow hnx hfb
theorem fZ {id : Nat} {h : Heap} {K : Ex → Tb → Heap → Nat → Prop} (outs : List (Option Value)) (es : List Nat) (Gs : List (Heap × Nat)) (fbs : List (Nat × Nat)) (la lt lg : List Nat)
    (facts : FactsFrom P N ops (mkRec outs es Gs fbs) T₀ nx 0 ops.toList) (hX : AllG (fun x => nx ≤ x) Gs) (hfb : AllF (fun _ nb => nx ≤ nb) fbs)
    (g0 : Grow h nx (nthG Gs 0).1 (nthG Gs 0).2) {hf : Heap} {nf : Nat} {Tf : Tb} (hG : nthG Gs es.length = (hf, nf)) (H : K .nm Tf hf nf) (src : List (Nat × Option Nat)) (hlen : Gs.length = es.length + 1 := by rfl) (hs : tiEq outs T₀ src Tf := by rfl) (hreg : regB N ops es la lt lg = true := by decide +kernel) (hb : finB ops src = true := by decide +kernel) : CJ P N (.region id ops true) T₀ h nx K :=
  CJ.draw1 outs es Gs fbs la lt lg hreg facts hlen hX hfb g0 src Tf hb (srcT_of hs) hG H
end
/-! ### a call that needs nothing of the heap -/
theorem CallSim.frame {f : FuncId} {v : Value} {h₁ : Heap} {n₁ : Nat} (S : CallSim P f [] .e 0 v h₁ n₁) (hv : flat v = true) (h : Heap) (n : Nat) : CallSim P f [] h n v h n := by
  refine ⟨Nat.le_refl _, fun B φ args' w r fa => ?_⟩
  cases fa
  refine (S.2 _ _ [] w (empty_rel w) .nil).mono ?_
  rintro e w' ⟨v', φ', rfl, hr, _, _, fr⟩
  have hb : ∀ k, k < w.heap.size → w'.heap[k]? = w.heap[k]? := fr.block
  refine ⟨v', φ, rfl, by rw [flat_eq hv hr]; exact .one (flat_rel hv), .refl _ _, ⟨fun b E hE => ?_, fun b E cs esz hE hc => ?_, fun b E es ck hE hc => ?_, r.inj, ?_⟩, ⟨fr.os, fr.tape, fr.output, fr.size, fun k hk => fr.block k (Nat.lt_of_lt_of_le hk r.bw)⟩⟩
  · have := r.base b E hE; exact ⟨this.1, this.2.1, Nat.lt_of_lt_of_le this.2.2 fr.size⟩
  · rw [hb _ (r.base b E hE).2.2]; exact r.cells b E cs esz hE hc
  · rw [hb _ (r.base b E hE).2.2]; exact r.maps b E es ck hE hc
  · exact Nat.le_trans r.bw fr.size
/-! ### the rules -/
section
variable {N : Nat} {ops : Array Oper} {l : List Oper} {T : Tb} {h : Heap} {nx : Nat} {K : Tb → Heap → Nat → Prop} {dst : Option Tmp} {t : TypeId} {p : String} {af : Array Edge} {gd : Option (Nat × Bool)}
theorem oMv {x : Operand} {a : Value} (hx : evT T x = some a) (rest : OJ P N ops l (upd dst (some a) T) h nx K)  (hg : GOk ops T gd := by exact g0) (hd : dstOk N dst = true := by rfl) : OJ P N ops (⟨dst, .move x, t, p, af, gd⟩ :: l) T h nx K :=
  xmv (o := ⟨dst, .move x, t, p, af, gd⟩) hg hd (r_move rfl hx) rest
theorem oAs {x : Operand} {a : Value} (hx : evT T x = some a) (rest : OJ P N ops l (upd dst (some a) T) h nx K)  (hg : GOk ops T gd := by exact g0) (hd : dstOk N dst = true := by rfl) : OJ P N ops (⟨dst, .assign x, t, p, af, gd⟩ :: l) T h nx K :=
  xmv (o := ⟨dst, .assign x, t, p, af, gd⟩) hg hd (r_assign rfl hx) rest
theorem oPk {c x y : Operand} {vc : Value} {oa ob : Option Value} {G : Value → Bool}  (H : hPick vc oa ob G = true) (rest : ∀ v, G v = true → OJ P N ops l (upd dst (some v) T) h nx K) (hc : evT T c = some vc := by rfl) (hx : evT T x = oa := by rfl) (hy : evT T y = ob := by rfl) (hg : GOk ops T gd := by exact g0) (hd : dstOk N dst = true := by rfl) : OJ P N ops (⟨dst, .pick c x y, t, p, af, gd⟩ :: l) T h nx K :=
  xrd (o := ⟨dst, .pick c x y, t, p, af, gd⟩) hg hd (r_pick rfl hc hx hy H) rest
theorem oL1 {ty : TypeId} {sz : Nat} {x : Operand} {a : Value} {G : Value → Bool} (ag : isAggT P ty = some false) (hs : szT P ty = some sz) (H : fLoad1 a h G = true) (rest : ∀ v, G v = true → OJ P N ops l (upd dst (some v) T) h nx K) (hx : evT T x = some a := by rfl) (hg : GOk ops T gd := by exact g0) (hd : dstOk N dst = true := by rfl) : OJ P N ops (⟨dst, .load ty x, t, p, af, gd⟩ :: l) T h nx K :=
  xrd (o := ⟨dst, .load ty x, t, p, af, gd⟩) hg hd (r_load rfl hx (fLoad1_t ag hs H)) rest
theorem oLA {ty : TypeId} {sz : Nat} {x : Operand} {a : Value} {G : Value → Bool} (ag : isAggT P ty = some true) (hs : szT P ty = some sz) (H : fLoadA sz a h G = true) (rest : ∀ v, G v = true → OJ P N ops l (upd dst (some v) T) h nx K) (hx : evT T x = some a := by rfl) (hg : GOk ops T gd := by exact g0) (hd : dstOk N dst = true := by rfl) : OJ P N ops (⟨dst, .load ty x, t, p, af, gd⟩ :: l) T h nx K :=
  xrd (o := ⟨dst, .load ty x, t, p, af, gd⟩) hg hd (r_load rfl hx (fLoadA_t ag hs H)) rest
theorem oS1 {ty : TypeId} {x y : Operand} {a b : Value} {G : Heap → Bool} (hs : szT P ty = some 1) (H : fStore1 a b h G = true) (rest : ∀ h', G h' = true → OJ P N ops l T h' nx K) (hx : evT T x = some a := by rfl) (hy : evT T y = some b := by rfl) (hg : GOk ops T gd := by exact g0) (hd : dst = none := by rfl) : OJ P N ops (⟨dst, .store ty x y, t, p, af, gd⟩ :: l) T h nx K :=
  xwr (o := ⟨dst, .store ty x y, t, p, af, gd⟩) hg hd (r_store rfl hx hy (fStore1_t hs H)) rest
theorem oSt {ty : TypeId} {x y : Operand} {a b : Value} {G : Heap → Bool}  (H : storeK P ty a b h G = true) (rest : ∀ h', G h' = true → OJ P N ops l T h' nx K) (hx : evT T x = some a := by rfl) (hy : evT T y = some b := by rfl) (hg : GOk ops T gd := by exact g0) (hd : dst = none := by rfl) : OJ P N ops (⟨dst, .store ty x y, t, p, af, gd⟩ :: l) T h nx K :=
  xwr (o := ⟨dst, .store ty x y, t, p, af, gd⟩) hg hd (r_store rfl hx hy H) rest
theorem oNl {x : Operand} {a : Value} {G : Value → Bool}  (H : hNil a G = true) (rest : ∀ v, G v = true → OJ P N ops l (upd dst (some v) T) h nx K) (hx : evT T x = some a := by rfl) (hg : GOk ops T gd := by exact g0) (hd : dstOk N dst = true := by rfl) : OJ P N ops (⟨dst, .nilCheck x, t, p, af, gd⟩ :: l) T h nx K :=
  xrd (o := ⟨dst, .nilCheck x, t, p, af, gd⟩) hg hd (r_nil rfl hx H) rest
theorem oBi {op : BinOp} {ty ty2 : TypeId} {x y : Operand} {a b : Value} {G : Value → Bool}  (H : binK P op ty x y a b G = true) (rest : ∀ v, G v = true → OJ P N ops l (upd dst (some v) T) h nx K) (hx : evT T x = some a := by rfl) (hy : evT T y = some b := by rfl) (hg : GOk ops T gd := by exact g0) (hd : dstOk N dst = true := by rfl) : OJ P N ops (⟨dst, .binOp op ty x y ty2, t, p, af, gd⟩ :: l) T h nx K :=
  xrd (o := ⟨dst, .binOp op ty x y ty2, t, p, af, gd⟩) hg hd (r_bin rfl hx hy H) rest
theorem oAdd {ty ty2 : TypeId} {x y : Operand} {a b : Value} {G : Value → Bool}  (H : gAdd a b G = true) (rest : ∀ v, G v = true → OJ P N ops l (upd dst (some v) T) h nx K) (hx : evT T x = some a := by rfl) (hy : evT T y = some b := by rfl) (hg : GOk ops T gd := by exact g0) (hd : dstOk N dst = true := by rfl) : OJ P N ops (⟨dst, .binOp .add ty x y ty2, t, p, af, gd⟩ :: l) T h nx K :=
  xrd (o := ⟨dst, .binOp .add ty x y ty2, t, p, af, gd⟩) hg hd (r_bin rfl hx hy (gAdd_t H)) rest
theorem oSub {ty ty2 : TypeId} {x y : Operand} {a b : Value} {G : Value → Bool}  (H : gSub a b G = true) (rest : ∀ v, G v = true → OJ P N ops l (upd dst (some v) T) h nx K) (hx : evT T x = some a := by rfl) (hy : evT T y = some b := by rfl) (hg : GOk ops T gd := by exact g0) (hd : dstOk N dst = true := by rfl) : OJ P N ops (⟨dst, .binOp .sub ty x y ty2, t, p, af, gd⟩ :: l) T h nx K :=
  xrd (o := ⟨dst, .binOp .sub ty x y ty2, t, p, af, gd⟩) hg hd (r_bin rfl hx hy (gSub_t H)) rest
theorem oMul {ty ty2 : TypeId} {x y : Operand} {a b : Value} {G : Value → Bool}  (H : gMul a b G = true) (rest : ∀ v, G v = true → OJ P N ops l (upd dst (some v) T) h nx K) (hx : evT T x = some a := by rfl) (hy : evT T y = some b := by rfl) (hg : GOk ops T gd := by exact g0) (hd : dstOk N dst = true := by rfl) : OJ P N ops (⟨dst, .binOp .mul ty x y ty2, t, p, af, gd⟩ :: l) T h nx K :=
  xrd (o := ⟨dst, .binOp .mul ty x y ty2, t, p, af, gd⟩) hg hd (r_bin rfl hx hy (gMul_t H)) rest
theorem oLss {ty ty2 : TypeId} {x y : Operand} {a b : Value} {G : Value → Bool}  (H : gLss a b G = true) (rest : ∀ v, G v = true → OJ P N ops l (upd dst (some v) T) h nx K) (hx : evT T x = some a := by rfl) (hy : evT T y = some b := by rfl) (hg : GOk ops T gd := by exact g0) (hd : dstOk N dst = true := by rfl) : OJ P N ops (⟨dst, .binOp .lss ty x y ty2, t, p, af, gd⟩ :: l) T h nx K :=
  xrd (o := ⟨dst, .binOp .lss ty x y ty2, t, p, af, gd⟩) hg hd (r_bin rfl hx hy (gLss_t H)) rest
theorem oLeq {ty ty2 : TypeId} {x y : Operand} {a b : Value} {G : Value → Bool}  (H : gLeq a b G = true) (rest : ∀ v, G v = true → OJ P N ops l (upd dst (some v) T) h nx K) (hx : evT T x = some a := by rfl) (hy : evT T y = some b := by rfl) (hg : GOk ops T gd := by exact g0) (hd : dstOk N dst = true := by rfl) : OJ P N ops (⟨dst, .binOp .leq ty x y ty2, t, p, af, gd⟩ :: l) T h nx K :=
  xrd (o := ⟨dst, .binOp .leq ty x y ty2, t, p, af, gd⟩) hg hd (r_bin rfl hx hy (gLeq_t H)) rest
theorem oGtr {ty ty2 : TypeId} {x y : Operand} {a b : Value} {G : Value → Bool}  (H : gGtr a b G = true) (rest : ∀ v, G v = true → OJ P N ops l (upd dst (some v) T) h nx K) (hx : evT T x = some a := by rfl) (hy : evT T y = some b := by rfl) (hg : GOk ops T gd := by exact g0) (hd : dstOk N dst = true := by rfl) : OJ P N ops (⟨dst, .binOp .gtr ty x y ty2, t, p, af, gd⟩ :: l) T h nx K :=
  xrd (o := ⟨dst, .binOp .gtr ty x y ty2, t, p, af, gd⟩) hg hd (r_bin rfl hx hy (gGtr_t H)) rest
theorem oGeq {ty ty2 : TypeId} {x y : Operand} {a b : Value} {G : Value → Bool}  (H : gGeq a b G = true) (rest : ∀ v, G v = true → OJ P N ops l (upd dst (some v) T) h nx K) (hx : evT T x = some a := by rfl) (hy : evT T y = some b := by rfl) (hg : GOk ops T gd := by exact g0) (hd : dstOk N dst = true := by rfl) : OJ P N ops (⟨dst, .binOp .geq ty x y ty2, t, p, af, gd⟩ :: l) T h nx K :=
  xrd (o := ⟨dst, .binOp .geq ty x y ty2, t, p, af, gd⟩) hg hd (r_bin rfl hx hy (gGeq_t H)) rest
theorem oEql {ty ty2 : TypeId} {x y : Operand} {a b : Value} {G : Value → Bool}  (H : gEql a b G = true) (rest : ∀ v, G v = true → OJ P N ops l (upd dst (some v) T) h nx K) (hx : evT T x = some a := by rfl) (hy : evT T y = some b := by rfl) (hg : GOk ops T gd := by exact g0) (hd : dstOk N dst = true := by rfl) : OJ P N ops (⟨dst, .binOp .eql ty x y ty2, t, p, af, gd⟩ :: l) T h nx K :=
  xrd (o := ⟨dst, .binOp .eql ty x y ty2, t, p, af, gd⟩) hg hd (r_bin rfl hx hy (gEql_t H)) rest
theorem oNeq {ty ty2 : TypeId} {x y : Operand} {a b : Value} {G : Value → Bool}  (H : gNeq a b G = true) (rest : ∀ v, G v = true → OJ P N ops l (upd dst (some v) T) h nx K) (hx : evT T x = some a := by rfl) (hy : evT T y = some b := by rfl) (hg : GOk ops T gd := by exact g0) (hd : dstOk N dst = true := by rfl) : OJ P N ops (⟨dst, .binOp .neq ty x y ty2, t, p, af, gd⟩ :: l) T h nx K :=
  xrd (o := ⟨dst, .binOp .neq ty x y ty2, t, p, af, gd⟩) hg hd (r_bin rfl hx hy (gNeq_t H)) rest
theorem oShl {ty ty2 : TypeId} {x y : Operand} {a b : Value} {G : Value → Bool}  (H : gShl a b G = true) (rest : ∀ v, G v = true → OJ P N ops l (upd dst (some v) T) h nx K) (hx : evT T x = some a := by rfl) (hy : evT T y = some b := by rfl) (hg : GOk ops T gd := by exact g0) (hd : dstOk N dst = true := by rfl) : OJ P N ops (⟨dst, .binOp .shl ty x y ty2, t, p, af, gd⟩ :: l) T h nx K :=
  xrd (o := ⟨dst, .binOp .shl ty x y ty2, t, p, af, gd⟩) hg hd (r_bin rfl hx hy (gShl_t H)) rest
theorem oShr {ty ty2 : TypeId} {x y : Operand} {a b : Value} {G : Value → Bool}  (H : gShr a b G = true) (rest : ∀ v, G v = true → OJ P N ops l (upd dst (some v) T) h nx K) (hx : evT T x = some a := by rfl) (hy : evT T y = some b := by rfl) (hg : GOk ops T gd := by exact g0) (hd : dstOk N dst = true := by rfl) : OJ P N ops (⟨dst, .binOp .shr ty x y ty2, t, p, af, gd⟩ :: l) T h nx K :=
  xrd (o := ⟨dst, .binOp .shr ty x y ty2, t, p, af, gd⟩) hg hd (r_bin rfl hx hy (gShr_t H)) rest
theorem oAnd {ty ty2 : TypeId} {x y : Operand} {a b : Value} {G : Value → Bool}  (H : gAnd a b G = true) (rest : ∀ v, G v = true → OJ P N ops l (upd dst (some v) T) h nx K) (hx : evT T x = some a := by rfl) (hy : evT T y = some b := by rfl) (hg : GOk ops T gd := by exact g0) (hd : dstOk N dst = true := by rfl) : OJ P N ops (⟨dst, .binOp .and ty x y ty2, t, p, af, gd⟩ :: l) T h nx K :=
  xrd (o := ⟨dst, .binOp .and ty x y ty2, t, p, af, gd⟩) hg hd (r_bin rfl hx hy (gAnd_t H)) rest
theorem oOr {ty ty2 : TypeId} {x y : Operand} {a b : Value} {G : Value → Bool}  (H : gOr a b G = true) (rest : ∀ v, G v = true → OJ P N ops l (upd dst (some v) T) h nx K) (hx : evT T x = some a := by rfl) (hy : evT T y = some b := by rfl) (hg : GOk ops T gd := by exact g0) (hd : dstOk N dst = true := by rfl) : OJ P N ops (⟨dst, .binOp .or ty x y ty2, t, p, af, gd⟩ :: l) T h nx K :=
  xrd (o := ⟨dst, .binOp .or ty x y ty2, t, p, af, gd⟩) hg hd (r_bin rfl hx hy (gOr_t H)) rest
theorem oXor {ty ty2 : TypeId} {x y : Operand} {a b : Value} {G : Value → Bool}  (H : gXor a b G = true) (rest : ∀ v, G v = true → OJ P N ops l (upd dst (some v) T) h nx K) (hx : evT T x = some a := by rfl) (hy : evT T y = some b := by rfl) (hg : GOk ops T gd := by exact g0) (hd : dstOk N dst = true := by rfl) : OJ P N ops (⟨dst, .binOp .xor ty x y ty2, t, p, af, gd⟩ :: l) T h nx K :=
  xrd (o := ⟨dst, .binOp .xor ty x y ty2, t, p, af, gd⟩) hg hd (r_bin rfl hx hy (gXor_t H)) rest
theorem oRem {ty ty2 : TypeId} {x y : Operand} {a b : Value} {G : Value → Bool}  (H : gRem a b G = true) (rest : ∀ v, G v = true → OJ P N ops l (upd dst (some v) T) h nx K) (hx : evT T x = some a := by rfl) (hy : evT T y = some b := by rfl) (hg : GOk ops T gd := by exact g0) (hd : dstOk N dst = true := by rfl) : OJ P N ops (⟨dst, .binOp .rem ty x y ty2, t, p, af, gd⟩ :: l) T h nx K :=
  xrd (o := ⟨dst, .binOp .rem ty x y ty2, t, p, af, gd⟩) hg hd (r_bin rfl hx hy (gRem_t H)) rest
theorem oUn {op : UnOp} {ty : TypeId} {x : Operand} {a : Value} {G : Value → Bool}  (H : hUn P op a G = true) (rest : ∀ v, G v = true → OJ P N ops l (upd dst (some v) T) h nx K) (hx : evT T x = some a := by rfl) (hg : GOk ops T gd := by exact g0) (hd : dstOk N dst = true := by rfl) : OJ P N ops (⟨dst, .unOp op ty x, t, p, af, gd⟩ :: l) T h nx K :=
  xrd (o := ⟨dst, .unOp op ty x, t, p, af, gd⟩) hg hd (r_un rfl hx H) rest
theorem oNot {ty : TypeId} {x : Operand} {a : Value} {G : Value → Bool}  (H : gNot a G = true) (rest : ∀ v, G v = true → OJ P N ops l (upd dst (some v) T) h nx K) (hx : evT T x = some a := by rfl) (hg : GOk ops T gd := by exact g0) (hd : dstOk N dst = true := by rfl) : OJ P N ops (⟨dst, .unOp .not ty x, t, p, af, gd⟩ :: l) T h nx K :=
  xrd (o := ⟨dst, .unOp .not ty x, t, p, af, gd⟩) hg hd (r_un rfl hx (gNot_t H)) rest
theorem oCi {s d : TypeId} {u : TypeDesc} {k : IntKind} {x : Operand} {a : Value} {G : Value → Bool} (hs : P.underlying s = some u) (hd2 : P.underlying d = some (.int k)) (H : gConv k a G = true) (rest : ∀ v, G v = true → OJ P N ops l (upd dst (some v) T) h nx K) (hx : evT T x = some a := by rfl) (hg : GOk ops T gd := by exact g0) (hd : dstOk N dst = true := by rfl) : OJ P N ops (⟨dst, .convert s d x, t, p, af, gd⟩ :: l) T h nx K :=
  xrd (o := ⟨dst, .convert s d x, t, p, af, gd⟩) hg hd (r_conv rfl hx (gConv_t hs hd2 H)) rest
theorem oFA {s u : TypeId} {f off m : Nat} {x : Operand} {a : Value} {G : Value → Bool} (hf : fieldT P s f = some (off, u)) (hs : szT P u = some (m + 1)) (H : fFieldAddr off a G = true) (rest : ∀ v, G v = true → OJ P N ops l (upd dst (some v) T) h nx K) (hx : evT T x = some a := by rfl) (hg : GOk ops T gd := by exact g0) (hd : dstOk N dst = true := by rfl) : OJ P N ops (⟨dst, .fieldAddr s x f, t, p, af, gd⟩ :: l) T h nx K :=
  xrd (o := ⟨dst, .fieldAddr s x f, t, p, af, gd⟩) hg hd (r_fieldAddr rfl hx (fFieldAddr_t hf hs H)) rest
theorem oFd {s : TypeId} {f : Nat} {x : Operand} {a : Value} {G : Value → Bool}  (H : hField P s a f G = true) (rest : ∀ v, G v = true → OJ P N ops l (upd dst (some v) T) h nx K) (hx : evT T x = some a := by rfl) (hg : GOk ops T gd := by exact g0) (hd : dstOk N dst = true := by rfl) : OJ P N ops (⟨dst, .field s x f, t, p, af, gd⟩ :: l) T h nx K :=
  xrd (o := ⟨dst, .field s x f, t, p, af, gd⟩) hg hd (r_field rfl hx H) rest
theorem oIA {ty e : TypeId} {sz : Nat} {x y : Operand} {a b : Value} {G : Value → Bool} (he : sliceT P ty = some e) (hs : szT P e = some sz) (H : fIndexAddr sz a b G = true) (rest : ∀ v, G v = true → OJ P N ops l (upd dst (some v) T) h nx K) (hx : evT T x = some a := by rfl) (hy : evT T y = some b := by rfl) (hg : GOk ops T gd := by exact g0) (hd : dstOk N dst = true := by rfl) : OJ P N ops (⟨dst, .indexAddr ty x y, t, p, af, gd⟩ :: l) T h nx K :=
  xrd (o := ⟨dst, .indexAddr ty x y, t, p, af, gd⟩) hg hd (r_indexAddr rfl hx hy (fIndexAddr_t he hs H)) rest
theorem oIx {ty : TypeId} {x y : Operand} {a b : Value} {G : Value → Bool}  (H : hIndex P ty a b G = true) (rest : ∀ v, G v = true → OJ P N ops l (upd dst (some v) T) h nx K) (hx : evT T x = some a := by rfl) (hy : evT T y = some b := by rfl) (hg : GOk ops T gd := by exact g0) (hd : dstOk N dst = true := by rfl) : OJ P N ops (⟨dst, .index ty x y, t, p, af, gd⟩ :: l) T h nx K :=
  xrd (o := ⟨dst, .index ty x y, t, p, af, gd⟩) hg hd (r_index rfl hx hy H) rest
theorem oEx {ix : Nat} {x : Operand} {a : Value} {G : Value → Bool}  (H : hExtract a ix G = true) (rest : ∀ v, G v = true → OJ P N ops l (upd dst (some v) T) h nx K) (hx : evT T x = some a := by rfl) (hg : GOk ops T gd := by exact g0) (hd : dstOk N dst = true := by rfl) : OJ P N ops (⟨dst, .extract x ix, t, p, af, gd⟩ :: l) T h nx K :=
  xrd (o := ⟨dst, .extract x ix, t, p, af, gd⟩) hg hd (r_extract rfl hx H) rest
theorem oAl {e : TypeId} {G : KV}  (H : hAlloc P e h nx G = true) (rest : ∀ v h' nx', G v h' nx' = true → OJ P N ops l (upd dst (some v) T) h' nx' K)  (hg : GOk ops T gd := by exact g0) (hd : dstOk N dst = true := by rfl) : OJ P N ops (⟨dst, .alloc e, t, p, af, gd⟩ :: l) T h nx K :=
  xfu (o := ⟨dst, .alloc e, t, p, af, gd⟩) hg hd (r_alloc1 rfl H) rest
theorem oBx {e : TypeId} {x : Operand} {a : Value} {G : KV}  (H : hBox a h nx G = true) (rest : ∀ v h' nx', G v h' nx' = true → OJ P N ops l (upd dst (some v) T) h' nx' K) (hx : evT T x = some a := by rfl) (hg : GOk ops T gd := by exact g0) (hd : dstOk N dst = true := by rfl) : OJ P N ops (⟨dst, .box e x, t, p, af, gd⟩ :: l) T h nx K :=
  xfu (o := ⟨dst, .box e x, t, p, af, gd⟩) hg hd (r_box rfl hx H) rest
theorem oMM {ty : TypeId} {G : KV}  (H : hMakeMap h nx G = true) (rest : ∀ v h' nx', G v h' nx' = true → OJ P N ops l (upd dst (some v) T) h' nx' K)  (hg : GOk ops T gd := by exact g0) (hd : dstOk N dst = true := by rfl) : OJ P N ops (⟨dst, .makeMap ty none, t, p, af, gd⟩ :: l) T h nx K :=
  xfu (o := ⟨dst, .makeMap ty none, t, p, af, gd⟩) hg hd (r_makeMap rfl H) rest
theorem oMS {ty : TypeId} {x y : Operand} {a b : Value} {G : KV}  (H : hMakeSlice P ty a b h nx G = true) (rest : ∀ v h' nx', G v h' nx' = true → OJ P N ops l (upd dst (some v) T) h' nx' K) (hx : evT T x = some a := by rfl) (hy : evT T y = some b := by rfl) (hg : GOk ops T gd := by exact g0) (hd : dstOk N dst = true := by rfl) : OJ P N ops (⟨dst, .makeSlice ty x y, t, p, af, gd⟩ :: l) T h nx K :=
  xfu (o := ⟨dst, .makeSlice ty x y, t, p, af, gd⟩) hg hd (r_makeSlice rfl hx hy H) rest
theorem oMF {f : FuncId} {xs ys : Array Operand} {fs cs : List Value} {G : Value → Bool}  (H : hMakeFunc f fs cs G = true) (rest : ∀ v, G v = true → OJ P N ops l (upd dst (some v) T) h nx K) (hx : evs T xs.toList fs := by rfl) (hy : evs T ys.toList cs := by rfl) (hg : GOk ops T gd := by exact g0) (hd : dstOk N dst = true := by rfl) : OJ P N ops (⟨dst, .makeFunc (.func f) xs ys, t, p, af, gd⟩ :: l) T h nx K :=
  xrd (o := ⟨dst, .makeFunc (.func f) xs ys, t, p, af, gd⟩) hg hd (r_makeFunc rfl (evs_L hx) (evs_L hy) H) rest
theorem oSl {ty : TypeId} {lo hi mx : Option Operand} {lo' hi' mx' : Option Value} {x : Operand} {a : Value} {G : Value → Bool}  (H : hSlice P h ty a lo' hi' mx' G = true) (rest : ∀ v, G v = true → OJ P N ops l (upd dst (some v) T) h nx K) (hx : evT T x = some a := by rfl) (h1 : evo T lo lo' := by rfl) (h2 : evo T hi hi' := by rfl) (h3 : evo T mx mx' := by rfl) (hg : GOk ops T gd := by exact g0) (hd : dstOk N dst = true := by rfl) : OJ P N ops (⟨dst, .slice ty x lo hi mx, t, p, af, gd⟩ :: l) T h nx K :=
  xrd (o := ⟨dst, .slice ty x lo hi mx, t, p, af, gd⟩) hg hd (r_slice rfl hx (evo_O h1) (evo_O h2) (evo_O h3) H) rest
theorem oBd {ty : TypeId} {xs : Array (Nat × Operand)} {vs : List (Nat × Value)} {G : Value → Bool}  (H : hBuild P ty vs G = true) (rest : ∀ v, G v = true → OJ P N ops l (upd dst (some v) T) h nx K) (hx : evp T xs.toList vs := by rfl) (hg : GOk ops T gd := by exact g0) (hd : dstOk N dst = true := by rfl) : OJ P N ops (⟨dst, .build ty xs, t, p, af, gd⟩ :: l) T h nx K :=
  xrd (o := ⟨dst, .build ty xs, t, p, af, gd⟩) hg hd (r_build rfl (evp_P hx) H) rest
theorem oBS {ty : TypeId} {len : Nat} {xs : Array (Nat × Operand)} {vs : List (Nat × Value)} {G : KV}  (H : hBuildSlice P ty len vs h nx G = true) (rest : ∀ v h' nx', G v h' nx' = true → OJ P N ops l (upd dst (some v) T) h' nx' K) (hx : evp T xs.toList vs := by rfl) (hg : GOk ops T gd := by exact g0) (hd : dstOk N dst = true := by rfl) : OJ P N ops (⟨dst, .buildSlice ty len xs, t, p, af, gd⟩ :: l) T h nx K :=
  xfu (o := ⟨dst, .buildSlice ty len xs, t, p, af, gd⟩) hg hd (r_buildSlice rfl (evp_P hx) H) rest
theorem oLk {ty : TypeId} {ok : Bool} {x y : Operand} {a b : Value} {G : Value → Bool}  (H : hLookup P ty a b ok h G = true) (rest : ∀ v, G v = true → OJ P N ops l (upd dst (some v) T) h nx K) (hx : evT T x = some a := by rfl) (hy : evT T y = some b := by rfl) (hg : GOk ops T gd := by exact g0) (hd : dstOk N dst = true := by rfl) : OJ P N ops (⟨dst, .lookup ty x y ok, t, p, af, gd⟩ :: l) T h nx K :=
  xrd (o := ⟨dst, .lookup ty x y ok, t, p, af, gd⟩) hg hd (r_lookup rfl hx hy H) rest
theorem oMU {ty : TypeId} {x y z : Operand} {a b c : Value} {G : Heap → Bool}  (H : hMapUpdate P ty a b c h G = true) (rest : ∀ h', G h' = true → OJ P N ops l T h' nx K) (hx : evT T x = some a := by rfl) (hy : evT T y = some b := by rfl) (hz : evT T z = some c := by rfl) (hg : GOk ops T gd := by exact g0) (hd : dst = none := by rfl) : OJ P N ops (⟨dst, .mapUpdate ty x y z, t, p, af, gd⟩ :: l) T h nx K :=
  xwr (o := ⟨dst, .mapUpdate ty x y z, t, p, af, gd⟩) hg hd (r_mapUpdate rfl hx hy hz H) rest
theorem oLn {xs : Array Operand} {tys : Array TypeId} {ty e : TypeId} {a : Value} {G : Value → Bool} (he : P.underlying ty = some (.slice e)) (H : fLen a G = true) (rest : ∀ v, G v = true → OJ P N ops l (upd dst (some v) T) h nx K) (hx : evs T xs.toList [a] := by rfl) (ht : tys.toList = [ty] := by rfl) (hg : GOk ops T gd := by exact g0) (hd : dstOk N dst = true := by rfl) : OJ P N ops (⟨dst, .call ⟨.builtin .len, xs, tys⟩, t, p, af, gd⟩ :: l) T h nx K :=
  xrd (o := ⟨dst, .call ⟨.builtin .len, xs, tys⟩, t, p, af, gd⟩) hg hd (r_len (x := default) rfl rfl (evs_L hx) ht (fLen_t he H)) rest
theorem oCp {xs : Array Operand} {tys : Array TypeId} {ty : TypeId} {a : Value} {G : Value → Bool}  (H : capK P ty a G = true) (rest : ∀ v, G v = true → OJ P N ops l (upd dst (some v) T) h nx K) (hx : evs T xs.toList [a] := by rfl) (ht : tys.toList = [ty] := by rfl) (hg : GOk ops T gd := by exact g0) (hd : dstOk N dst = true := by rfl) : OJ P N ops (⟨dst, .call ⟨.builtin .cap, xs, tys⟩, t, p, af, gd⟩ :: l) T h nx K :=
  xrd (o := ⟨dst, .call ⟨.builtin .cap, xs, tys⟩, t, p, af, gd⟩) hg hd (r_cap (x := default) rfl rfl (evs_L hx) ht H) rest
theorem oAp {xs : Array Operand} {tys : Array TypeId} {s t₂ : TypeId} {a b : Value} {G : KV}  (H : hAppend P s t₂ a b h nx G = true) (rest : ∀ v h' nx', G v h' nx' = true → OJ P N ops l (upd dst (some v) T) h' nx' K) (hx : evs T xs.toList [a, b] := by rfl) (ht : tys.toList = [s, t₂] := by rfl) (hg : GOk ops T gd := by exact g0) (hd : dstOk N dst = true := by rfl) : OJ P N ops (⟨dst, .call ⟨.builtin .append, xs, tys⟩, t, p, af, gd⟩ :: l) T h nx K :=
  xfu (o := ⟨dst, .call ⟨.builtin .append, xs, tys⟩, t, p, af, gd⟩) hg hd (r_append1 rfl rfl (evs_L hx) ht H) rest
theorem oMi {xs : Array Operand} {tys : Array TypeId} {ts : List TypeId} {vs : List Value} {G : Value → Bool}  (H : hMin P ts vs G = true) (rest : ∀ v, G v = true → OJ P N ops l (upd dst (some v) T) h nx K) (hx : evs T xs.toList vs := by rfl) (ht : tys.toList = ts := by rfl) (hg : GOk ops T gd := by exact g0) (hd : dstOk N dst = true := by rfl) : OJ P N ops (⟨dst, .call ⟨.builtin .min, xs, tys⟩, t, p, af, gd⟩ :: l) T h nx K :=
  xrd (o := ⟨dst, .call ⟨.builtin .min, xs, tys⟩, t, p, af, gd⟩) hg hd (r_min rfl rfl (evs_L hx) ht H) rest
theorem oMa {xs : Array Operand} {tys : Array TypeId} {ts : List TypeId} {vs : List Value} {G : Value → Bool}  (H : hMax P ts vs G = true) (rest : ∀ v, G v = true → OJ P N ops l (upd dst (some v) T) h nx K) (hx : evs T xs.toList vs := by rfl) (ht : tys.toList = ts := by rfl) (hg : GOk ops T gd := by exact g0) (hd : dstOk N dst = true := by rfl) : OJ P N ops (⟨dst, .call ⟨.builtin .max, xs, tys⟩, t, p, af, gd⟩ :: l) T h nx K :=
  xrd (o := ⟨dst, .call ⟨.builtin .max, xs, tys⟩, t, p, af, gd⟩) hg hd (r_max rfl rfl (evs_L hx) ht H) rest
theorem oCl {xs : Array Operand} {tys : Array TypeId} {ty : TypeId} {a : Value} {G : KV}  (H : hClear P ty a h nx G = true) (rest : ∀ v h' nx', G v h' nx' = true → OJ P N ops l (upd dst (some v) T) h' nx' K) (hx : evs T xs.toList [a] := by rfl) (ht : tys.toList = [ty] := by rfl) (hg : GOk ops T gd := by exact g0) (hd : dstOk N dst = true := by rfl) : OJ P N ops (⟨dst, .call ⟨.builtin .clear, xs, tys⟩, t, p, af, gd⟩ :: l) T h nx K :=
  xfu (o := ⟨dst, .call ⟨.builtin .clear, xs, tys⟩, t, p, af, gd⟩) hg hd (r_clear rfl rfl (evs_L hx) ht H) rest
theorem oCa {xs : Array Operand} {tys : Array TypeId} {x : Operand} {f : FuncId} {vs : List Value} {G : KV} (en : ∀ (as : Array Value) w, (callFunc f as).run P w = .ok (.enter f as) w) (H : SimR P f (vs) h nx G) (rest : ∀ v h' nx', G v h' nx' = true → OJ P N ops l (upd dst (some v) T) h' nx' K) (hx : evs T xs.toList vs := by rfl) (hf : evT T x = some (Fn0 f) := by rfl) (hg : GOk ops T gd := by exact g0) (hd : dstOk N dst = true := by rfl) : OJ P N ops (⟨dst, .call ⟨.value x, xs, tys⟩, t, p, af, gd⟩ :: l) T h nx K :=
  xfu (o := ⟨dst, .call ⟨.value x, xs, tys⟩, t, p, af, gd⟩) hg hd (r_call rfl rfl hf (evs_L hx) en H) rest
theorem oCf {xs : Array Operand} {tys : Array TypeId} {x : Operand} {f : FuncId} {first caps vs : List Value} {G : KV} (en : ∀ (as : Array Value) w, (callFunc f as).run P w = .ok (.enter f as) w) (H : SimR P f (first ++ (vs ++ caps)) h nx G) (rest : ∀ v h' nx', G v h' nx' = true → OJ P N ops l (upd dst (some v) T) h' nx' K) (hx : evs T xs.toList vs := by rfl) (hf : evT T x = some (.func (.func f) ⟨first⟩ ⟨caps⟩) := by rfl) (hg : GOk ops T gd := by exact g0) (hd : dstOk N dst = true := by rfl) : OJ P N ops (⟨dst, .call ⟨.value x, xs, tys⟩, t, p, af, gd⟩ :: l) T h nx K :=
  xfu (o := ⟨dst, .call ⟨.value x, xs, tys⟩, t, p, af, gd⟩) hg hd (r_callv rfl rfl hf (evs_L hx) en H) rest
end
section
variable {N : Nat} {ops : Array Oper} {ms : List Nat} {T₀ : Tb} {h₀ : Heap} {nx₀ : Nat} {id : Nat} {K : Ex → Tb → Heap → Nat → Prop} {dst : Option Tmp} {t : TypeId} {p : String} {af : Array Edge} {gd : Option (Nat × Bool)}
theorem gOf {Ti : Tb} {i : Nat} {o : Oper} (ho : opAt ops i = o) (hg : GOk ops Ti o.guard) : GOk ops Ti (opAt ops i).guard := by subst ho; exact hg
theorem dMv {x : Operand} {a : Value} (hm : masksB ops ms = true) (i : Nat) (src : List (Nat × Option Nat)) (Ti : Tb) (ho : opAt ops i = ⟨dst, .move x, t, p, af, gd⟩) (hx : evT Ti x = some a) (next : Dn P ops ms i src Ti (fun o => ∀ h nx, OpR P o Ti h nx (some a) h nx) → CJ P N (.region id ops true) T₀ h₀ nx₀ K)  (hg : GOk ops Ti gd := by exact g0) (hb : srcB ops ms i src = true := by decide +kernel) : CJ P N (.region id ops true) T₀ h₀ nx₀ K :=
  next ⟨hm, hb, gOf ho hg, by show ∀ h nx, OpR P (opAt ops i) Ti h nx _ h nx; rw [ho]; exact a_move rfl hx⟩
theorem dAs {x : Operand} {a : Value} (hm : masksB ops ms = true) (i : Nat) (src : List (Nat × Option Nat)) (Ti : Tb) (ho : opAt ops i = ⟨dst, .assign x, t, p, af, gd⟩) (hx : evT Ti x = some a) (next : Dn P ops ms i src Ti (fun o => ∀ h nx, OpR P o Ti h nx (some a) h nx) → CJ P N (.region id ops true) T₀ h₀ nx₀ K)  (hg : GOk ops Ti gd := by exact g0) (hb : srcB ops ms i src = true := by decide +kernel) : CJ P N (.region id ops true) T₀ h₀ nx₀ K :=
  next ⟨hm, hb, gOf ho hg, by show ∀ h nx, OpR P (opAt ops i) Ti h nx _ h nx; rw [ho]; exact a_assign rfl hx⟩
theorem dPk {c x y : Operand} {vc : Value} {oa ob : Option Value} {G : Value → Bool} (hm : masksB ops ms = true) (i : Nat) (src : List (Nat × Option Nat)) (Ti : Tb) (ho : opAt ops i = ⟨dst, .pick c x y, t, p, af, gd⟩)  (H : hPick vc oa ob G = true) (next : ∀ v, G v = true → Dn P ops ms i src Ti (fun o => ∀ h nx, OpR P o Ti h nx (some v) h nx) → CJ P N (.region id ops true) T₀ h₀ nx₀ K) (hc : evT Ti c = some vc := by rfl) (hx : evT Ti x = oa := by rfl) (hy : evT Ti y = ob := by rfl) (hg : GOk ops Ti gd := by exact g0) (hb : srcB ops ms i src = true := by decide +kernel) : CJ P N (.region id ops true) T₀ h₀ nx₀ K := by
  obtain ⟨v, H, Sv⟩ := (a_pick rfl hc hx hy H : ∃ v, G v = true ∧ ∀ h nx, OpR P ⟨dst, .pick c x y, t, p, af, gd⟩ Ti h nx (some v) h nx)
  exact next v H ⟨hm, hb, gOf ho hg, by show ∀ h nx, OpR P (opAt ops i) Ti h nx _ h nx; rw [ho]; exact Sv⟩
theorem dL1 {ty : TypeId} {sz : Nat} {x : Operand} {a : Value} {G : Value → Bool} (hm : masksB ops ms = true) (i : Nat) (src : List (Nat × Option Nat)) (Ti : Tb) (h : Heap) (nx : Nat) (ho : opAt ops i = ⟨dst, .load ty x, t, p, af, gd⟩) (ag : isAggT P ty = some false) (hs : szT P ty = some sz) (H : fLoad1 a h G = true) (next : ∀ v, G v = true → Dn P ops ms i src Ti (fun o => OpR P o Ti h nx (some v) h nx) → CJ P N (.region id ops true) T₀ h₀ nx₀ K) (hx : evT Ti x = some a := by rfl) (hg : GOk ops Ti gd := by exact g0) (hb : srcB ops ms i src = true := by decide +kernel) : CJ P N (.region id ops true) T₀ h₀ nx₀ K := by
  obtain ⟨v, H, Sv⟩ := (r_load rfl hx (fLoad1_t ag hs H) : ∃ v, G v = true ∧ OpR P ⟨dst, .load ty x, t, p, af, gd⟩ Ti h nx (some v) h nx)
  exact next v H ⟨hm, hb, gOf ho hg, by show OpR P (opAt ops i) Ti h nx _ h nx; rw [ho]; exact Sv⟩
theorem eL1 {ty : TypeId} {sz : Nat} {x : Operand} {a : Value} {G : Value → Bool} {src : List (Nat × Option Nat)} {Ti : Tb} {i : Nat} {h h₂ : Heap} {nx n₂ : Nat} {u₂ : Value} (D : Dn P ops ms i src Ti fun o => OpR P o Ti h₂ n₂ (some u₂) h₂ n₂) (ho : opAt ops i = ⟨dst, .load ty x, t, p, af, gd⟩) (ag : isAggT P ty = some false) (hs : szT P ty = some sz) (H : fLoad1 a h G = true) (next : ∀ v, G v = true → OpR P (opAt ops i) Ti h nx (some v) h nx → CJ P N (.region id ops true) T₀ h₀ nx₀ K) (hx : evT Ti x = some a := by rfl) : CJ P N (.region id ops true) T₀ h₀ nx₀ K := by
  obtain ⟨v, H, Sv⟩ := (r_load rfl hx (fLoad1_t ag hs H) : ∃ v, G v = true ∧ OpR P ⟨dst, .load ty x, t, p, af, gd⟩ Ti h nx (some v) h nx)
  exact next v H (by rw [ho]; exact Sv)
theorem dLA {ty : TypeId} {sz : Nat} {x : Operand} {a : Value} {G : Value → Bool} (hm : masksB ops ms = true) (i : Nat) (src : List (Nat × Option Nat)) (Ti : Tb) (h : Heap) (nx : Nat) (ho : opAt ops i = ⟨dst, .load ty x, t, p, af, gd⟩) (ag : isAggT P ty = some true) (hs : szT P ty = some sz) (H : fLoadA sz a h G = true) (next : ∀ v, G v = true → Dn P ops ms i src Ti (fun o => OpR P o Ti h nx (some v) h nx) → CJ P N (.region id ops true) T₀ h₀ nx₀ K) (hx : evT Ti x = some a := by rfl) (hg : GOk ops Ti gd := by exact g0) (hb : srcB ops ms i src = true := by decide +kernel) : CJ P N (.region id ops true) T₀ h₀ nx₀ K := by
  obtain ⟨v, H, Sv⟩ := (r_load rfl hx (fLoadA_t ag hs H) : ∃ v, G v = true ∧ OpR P ⟨dst, .load ty x, t, p, af, gd⟩ Ti h nx (some v) h nx)
  exact next v H ⟨hm, hb, gOf ho hg, by show OpR P (opAt ops i) Ti h nx _ h nx; rw [ho]; exact Sv⟩
theorem eLA {ty : TypeId} {sz : Nat} {x : Operand} {a : Value} {G : Value → Bool} {src : List (Nat × Option Nat)} {Ti : Tb} {i : Nat} {h h₂ : Heap} {nx n₂ : Nat} {u₂ : Value} (D : Dn P ops ms i src Ti fun o => OpR P o Ti h₂ n₂ (some u₂) h₂ n₂) (ho : opAt ops i = ⟨dst, .load ty x, t, p, af, gd⟩) (ag : isAggT P ty = some true) (hs : szT P ty = some sz) (H : fLoadA sz a h G = true) (next : ∀ v, G v = true → OpR P (opAt ops i) Ti h nx (some v) h nx → CJ P N (.region id ops true) T₀ h₀ nx₀ K) (hx : evT Ti x = some a := by rfl) : CJ P N (.region id ops true) T₀ h₀ nx₀ K := by
  obtain ⟨v, H, Sv⟩ := (r_load rfl hx (fLoadA_t ag hs H) : ∃ v, G v = true ∧ OpR P ⟨dst, .load ty x, t, p, af, gd⟩ Ti h nx (some v) h nx)
  exact next v H (by rw [ho]; exact Sv)
theorem dS1 {ty : TypeId} {x y : Operand} {a b : Value} {G : Heap → Bool} (hm : masksB ops ms = true) (i : Nat) (src : List (Nat × Option Nat)) (Ti : Tb) (h : Heap) (nx : Nat) (ho : opAt ops i = ⟨dst, .store ty x y, t, p, af, gd⟩) (hs : szT P ty = some 1) (H : fStore1 a b h G = true) (next : ∀ h', G h' = true → Dn P ops ms i src Ti (fun o => OpR P o Ti h nx none h' nx) → CJ P N (.region id ops true) T₀ h₀ nx₀ K) (hx : evT Ti x = some a := by rfl) (hy : evT Ti y = some b := by rfl) (hg : GOk ops Ti gd := by exact g0) (hb : srcB ops ms i src = true := by decide +kernel) : CJ P N (.region id ops true) T₀ h₀ nx₀ K := by
  obtain ⟨h', H, Sv⟩ := (r_store rfl hx hy (fStore1_t hs H) : ∃ h', G h' = true ∧ OpR P ⟨dst, .store ty x y, t, p, af, gd⟩ Ti h nx none h' nx)
  exact next h' H ⟨hm, hb, gOf ho hg, by show OpR P (opAt ops i) Ti h nx _ h' nx; rw [ho]; exact Sv⟩
theorem dSt {ty : TypeId} {x y : Operand} {a b : Value} {G : Heap → Bool} (hm : masksB ops ms = true) (i : Nat) (src : List (Nat × Option Nat)) (Ti : Tb) (h : Heap) (nx : Nat) (ho : opAt ops i = ⟨dst, .store ty x y, t, p, af, gd⟩)  (H : storeK P ty a b h G = true) (next : ∀ h', G h' = true → Dn P ops ms i src Ti (fun o => OpR P o Ti h nx none h' nx) → CJ P N (.region id ops true) T₀ h₀ nx₀ K) (hx : evT Ti x = some a := by rfl) (hy : evT Ti y = some b := by rfl) (hg : GOk ops Ti gd := by exact g0) (hb : srcB ops ms i src = true := by decide +kernel) : CJ P N (.region id ops true) T₀ h₀ nx₀ K := by
  obtain ⟨h', H, Sv⟩ := (r_store rfl hx hy H : ∃ h', G h' = true ∧ OpR P ⟨dst, .store ty x y, t, p, af, gd⟩ Ti h nx none h' nx)
  exact next h' H ⟨hm, hb, gOf ho hg, by show OpR P (opAt ops i) Ti h nx _ h' nx; rw [ho]; exact Sv⟩
theorem dNl {x : Operand} {a : Value} {G : Value → Bool} (hm : masksB ops ms = true) (i : Nat) (src : List (Nat × Option Nat)) (Ti : Tb) (ho : opAt ops i = ⟨dst, .nilCheck x, t, p, af, gd⟩)  (H : hNil a G = true) (next : ∀ v, G v = true → Dn P ops ms i src Ti (fun o => ∀ h nx, OpR P o Ti h nx (some v) h nx) → CJ P N (.region id ops true) T₀ h₀ nx₀ K) (hx : evT Ti x = some a := by rfl) (hg : GOk ops Ti gd := by exact g0) (hb : srcB ops ms i src = true := by decide +kernel) : CJ P N (.region id ops true) T₀ h₀ nx₀ K := by
  obtain ⟨v, H, Sv⟩ := (a_nil rfl hx H : ∃ v, G v = true ∧ ∀ h nx, OpR P ⟨dst, .nilCheck x, t, p, af, gd⟩ Ti h nx (some v) h nx)
  exact next v H ⟨hm, hb, gOf ho hg, by show ∀ h nx, OpR P (opAt ops i) Ti h nx _ h nx; rw [ho]; exact Sv⟩
theorem dBi {op : BinOp} {ty ty2 : TypeId} {x y : Operand} {a b : Value} {G : Value → Bool} (hm : masksB ops ms = true) (i : Nat) (src : List (Nat × Option Nat)) (Ti : Tb) (ho : opAt ops i = ⟨dst, .binOp op ty x y ty2, t, p, af, gd⟩)  (H : binK P op ty x y a b G = true) (next : ∀ v, G v = true → Dn P ops ms i src Ti (fun o => ∀ h nx, OpR P o Ti h nx (some v) h nx) → CJ P N (.region id ops true) T₀ h₀ nx₀ K) (hx : evT Ti x = some a := by rfl) (hy : evT Ti y = some b := by rfl) (hg : GOk ops Ti gd := by exact g0) (hb : srcB ops ms i src = true := by decide +kernel) : CJ P N (.region id ops true) T₀ h₀ nx₀ K := by
  obtain ⟨v, H, Sv⟩ := (a_bin rfl hx hy H : ∃ v, G v = true ∧ ∀ h nx, OpR P ⟨dst, .binOp op ty x y ty2, t, p, af, gd⟩ Ti h nx (some v) h nx)
  exact next v H ⟨hm, hb, gOf ho hg, by show ∀ h nx, OpR P (opAt ops i) Ti h nx _ h nx; rw [ho]; exact Sv⟩
theorem dAdd {ty ty2 : TypeId} {x y : Operand} {a b : Value} {G : Value → Bool} (hm : masksB ops ms = true) (i : Nat) (src : List (Nat × Option Nat)) (Ti : Tb) (ho : opAt ops i = ⟨dst, .binOp .add ty x y ty2, t, p, af, gd⟩)  (H : gAdd a b G = true) (next : ∀ v, G v = true → Dn P ops ms i src Ti (fun o => ∀ h nx, OpR P o Ti h nx (some v) h nx) → CJ P N (.region id ops true) T₀ h₀ nx₀ K) (hx : evT Ti x = some a := by rfl) (hy : evT Ti y = some b := by rfl) (hg : GOk ops Ti gd := by exact g0) (hb : srcB ops ms i src = true := by decide +kernel) : CJ P N (.region id ops true) T₀ h₀ nx₀ K := by
  obtain ⟨v, H, Sv⟩ := (a_bin rfl hx hy (gAdd_t H) : ∃ v, G v = true ∧ ∀ h nx, OpR P ⟨dst, .binOp .add ty x y ty2, t, p, af, gd⟩ Ti h nx (some v) h nx)
  exact next v H ⟨hm, hb, gOf ho hg, by show ∀ h nx, OpR P (opAt ops i) Ti h nx _ h nx; rw [ho]; exact Sv⟩
theorem dSub {ty ty2 : TypeId} {x y : Operand} {a b : Value} {G : Value → Bool} (hm : masksB ops ms = true) (i : Nat) (src : List (Nat × Option Nat)) (Ti : Tb) (ho : opAt ops i = ⟨dst, .binOp .sub ty x y ty2, t, p, af, gd⟩)  (H : gSub a b G = true) (next : ∀ v, G v = true → Dn P ops ms i src Ti (fun o => ∀ h nx, OpR P o Ti h nx (some v) h nx) → CJ P N (.region id ops true) T₀ h₀ nx₀ K) (hx : evT Ti x = some a := by rfl) (hy : evT Ti y = some b := by rfl) (hg : GOk ops Ti gd := by exact g0) (hb : srcB ops ms i src = true := by decide +kernel) : CJ P N (.region id ops true) T₀ h₀ nx₀ K := by
  obtain ⟨v, H, Sv⟩ := (a_bin rfl hx hy (gSub_t H) : ∃ v, G v = true ∧ ∀ h nx, OpR P ⟨dst, .binOp .sub ty x y ty2, t, p, af, gd⟩ Ti h nx (some v) h nx)
  exact next v H ⟨hm, hb, gOf ho hg, by show ∀ h nx, OpR P (opAt ops i) Ti h nx _ h nx; rw [ho]; exact Sv⟩
theorem dLss {ty ty2 : TypeId} {x y : Operand} {a b : Value} {G : Value → Bool} (hm : masksB ops ms = true) (i : Nat) (src : List (Nat × Option Nat)) (Ti : Tb) (ho : opAt ops i = ⟨dst, .binOp .lss ty x y ty2, t, p, af, gd⟩)  (H : gLss a b G = true) (next : ∀ v, G v = true → Dn P ops ms i src Ti (fun o => ∀ h nx, OpR P o Ti h nx (some v) h nx) → CJ P N (.region id ops true) T₀ h₀ nx₀ K) (hx : evT Ti x = some a := by rfl) (hy : evT Ti y = some b := by rfl) (hg : GOk ops Ti gd := by exact g0) (hb : srcB ops ms i src = true := by decide +kernel) : CJ P N (.region id ops true) T₀ h₀ nx₀ K := by
  obtain ⟨v, H, Sv⟩ := (a_bin rfl hx hy (gLss_t H) : ∃ v, G v = true ∧ ∀ h nx, OpR P ⟨dst, .binOp .lss ty x y ty2, t, p, af, gd⟩ Ti h nx (some v) h nx)
  exact next v H ⟨hm, hb, gOf ho hg, by show ∀ h nx, OpR P (opAt ops i) Ti h nx _ h nx; rw [ho]; exact Sv⟩
theorem dLeq {ty ty2 : TypeId} {x y : Operand} {a b : Value} {G : Value → Bool} (hm : masksB ops ms = true) (i : Nat) (src : List (Nat × Option Nat)) (Ti : Tb) (ho : opAt ops i = ⟨dst, .binOp .leq ty x y ty2, t, p, af, gd⟩)  (H : gLeq a b G = true) (next : ∀ v, G v = true → Dn P ops ms i src Ti (fun o => ∀ h nx, OpR P o Ti h nx (some v) h nx) → CJ P N (.region id ops true) T₀ h₀ nx₀ K) (hx : evT Ti x = some a := by rfl) (hy : evT Ti y = some b := by rfl) (hg : GOk ops Ti gd := by exact g0) (hb : srcB ops ms i src = true := by decide +kernel) : CJ P N (.region id ops true) T₀ h₀ nx₀ K := by
  obtain ⟨v, H, Sv⟩ := (a_bin rfl hx hy (gLeq_t H) : ∃ v, G v = true ∧ ∀ h nx, OpR P ⟨dst, .binOp .leq ty x y ty2, t, p, af, gd⟩ Ti h nx (some v) h nx)
  exact next v H ⟨hm, hb, gOf ho hg, by show ∀ h nx, OpR P (opAt ops i) Ti h nx _ h nx; rw [ho]; exact Sv⟩
theorem dGtr {ty ty2 : TypeId} {x y : Operand} {a b : Value} {G : Value → Bool} (hm : masksB ops ms = true) (i : Nat) (src : List (Nat × Option Nat)) (Ti : Tb) (ho : opAt ops i = ⟨dst, .binOp .gtr ty x y ty2, t, p, af, gd⟩)  (H : gGtr a b G = true) (next : ∀ v, G v = true → Dn P ops ms i src Ti (fun o => ∀ h nx, OpR P o Ti h nx (some v) h nx) → CJ P N (.region id ops true) T₀ h₀ nx₀ K) (hx : evT Ti x = some a := by rfl) (hy : evT Ti y = some b := by rfl) (hg : GOk ops Ti gd := by exact g0) (hb : srcB ops ms i src = true := by decide +kernel) : CJ P N (.region id ops true) T₀ h₀ nx₀ K := by
  obtain ⟨v, H, Sv⟩ := (a_bin rfl hx hy (gGtr_t H) : ∃ v, G v = true ∧ ∀ h nx, OpR P ⟨dst, .binOp .gtr ty x y ty2, t, p, af, gd⟩ Ti h nx (some v) h nx)
  exact next v H ⟨hm, hb, gOf ho hg, by show ∀ h nx, OpR P (opAt ops i) Ti h nx _ h nx; rw [ho]; exact Sv⟩
theorem dGeq {ty ty2 : TypeId} {x y : Operand} {a b : Value} {G : Value → Bool} (hm : masksB ops ms = true) (i : Nat) (src : List (Nat × Option Nat)) (Ti : Tb) (ho : opAt ops i = ⟨dst, .binOp .geq ty x y ty2, t, p, af, gd⟩)  (H : gGeq a b G = true) (next : ∀ v, G v = true → Dn P ops ms i src Ti (fun o => ∀ h nx, OpR P o Ti h nx (some v) h nx) → CJ P N (.region id ops true) T₀ h₀ nx₀ K) (hx : evT Ti x = some a := by rfl) (hy : evT Ti y = some b := by rfl) (hg : GOk ops Ti gd := by exact g0) (hb : srcB ops ms i src = true := by decide +kernel) : CJ P N (.region id ops true) T₀ h₀ nx₀ K := by
  obtain ⟨v, H, Sv⟩ := (a_bin rfl hx hy (gGeq_t H) : ∃ v, G v = true ∧ ∀ h nx, OpR P ⟨dst, .binOp .geq ty x y ty2, t, p, af, gd⟩ Ti h nx (some v) h nx)
  exact next v H ⟨hm, hb, gOf ho hg, by show ∀ h nx, OpR P (opAt ops i) Ti h nx _ h nx; rw [ho]; exact Sv⟩
theorem dEql {ty ty2 : TypeId} {x y : Operand} {a b : Value} {G : Value → Bool} (hm : masksB ops ms = true) (i : Nat) (src : List (Nat × Option Nat)) (Ti : Tb) (ho : opAt ops i = ⟨dst, .binOp .eql ty x y ty2, t, p, af, gd⟩)  (H : gEql a b G = true) (next : ∀ v, G v = true → Dn P ops ms i src Ti (fun o => ∀ h nx, OpR P o Ti h nx (some v) h nx) → CJ P N (.region id ops true) T₀ h₀ nx₀ K) (hx : evT Ti x = some a := by rfl) (hy : evT Ti y = some b := by rfl) (hg : GOk ops Ti gd := by exact g0) (hb : srcB ops ms i src = true := by decide +kernel) : CJ P N (.region id ops true) T₀ h₀ nx₀ K := by
  obtain ⟨v, H, Sv⟩ := (a_bin rfl hx hy (gEql_t H) : ∃ v, G v = true ∧ ∀ h nx, OpR P ⟨dst, .binOp .eql ty x y ty2, t, p, af, gd⟩ Ti h nx (some v) h nx)
  exact next v H ⟨hm, hb, gOf ho hg, by show ∀ h nx, OpR P (opAt ops i) Ti h nx _ h nx; rw [ho]; exact Sv⟩
theorem dNeq {ty ty2 : TypeId} {x y : Operand} {a b : Value} {G : Value → Bool} (hm : masksB ops ms = true) (i : Nat) (src : List (Nat × Option Nat)) (Ti : Tb) (ho : opAt ops i = ⟨dst, .binOp .neq ty x y ty2, t, p, af, gd⟩)  (H : gNeq a b G = true) (next : ∀ v, G v = true → Dn P ops ms i src Ti (fun o => ∀ h nx, OpR P o Ti h nx (some v) h nx) → CJ P N (.region id ops true) T₀ h₀ nx₀ K) (hx : evT Ti x = some a := by rfl) (hy : evT Ti y = some b := by rfl) (hg : GOk ops Ti gd := by exact g0) (hb : srcB ops ms i src = true := by decide +kernel) : CJ P N (.region id ops true) T₀ h₀ nx₀ K := by
  obtain ⟨v, H, Sv⟩ := (a_bin rfl hx hy (gNeq_t H) : ∃ v, G v = true ∧ ∀ h nx, OpR P ⟨dst, .binOp .neq ty x y ty2, t, p, af, gd⟩ Ti h nx (some v) h nx)
  exact next v H ⟨hm, hb, gOf ho hg, by show ∀ h nx, OpR P (opAt ops i) Ti h nx _ h nx; rw [ho]; exact Sv⟩
theorem dNot {ty : TypeId} {x : Operand} {a : Value} {G : Value → Bool} (hm : masksB ops ms = true) (i : Nat) (src : List (Nat × Option Nat)) (Ti : Tb) (ho : opAt ops i = ⟨dst, .unOp .not ty x, t, p, af, gd⟩)  (H : gNot a G = true) (next : ∀ v, G v = true → Dn P ops ms i src Ti (fun o => ∀ h nx, OpR P o Ti h nx (some v) h nx) → CJ P N (.region id ops true) T₀ h₀ nx₀ K) (hx : evT Ti x = some a := by rfl) (hg : GOk ops Ti gd := by exact g0) (hb : srcB ops ms i src = true := by decide +kernel) : CJ P N (.region id ops true) T₀ h₀ nx₀ K := by
  obtain ⟨v, H, Sv⟩ := (a_un rfl hx (gNot_t H) : ∃ v, G v = true ∧ ∀ h nx, OpR P ⟨dst, .unOp .not ty x, t, p, af, gd⟩ Ti h nx (some v) h nx)
  exact next v H ⟨hm, hb, gOf ho hg, by show ∀ h nx, OpR P (opAt ops i) Ti h nx _ h nx; rw [ho]; exact Sv⟩
theorem dCv {s d : TypeId} {x : Operand} {a : Value} {G : Value → Bool} (hm : masksB ops ms = true) (i : Nat) (src : List (Nat × Option Nat)) (Ti : Tb) (h : Heap) (nx : Nat) (ho : opAt ops i = ⟨dst, .convert s d x, t, p, af, gd⟩)  (H : hConv P s d a h G = true) (next : ∀ v, G v = true → Dn P ops ms i src Ti (fun o => OpR P o Ti h nx (some v) h nx) → CJ P N (.region id ops true) T₀ h₀ nx₀ K) (hx : evT Ti x = some a := by rfl) (hg : GOk ops Ti gd := by exact g0) (hb : srcB ops ms i src = true := by decide +kernel) : CJ P N (.region id ops true) T₀ h₀ nx₀ K := by
  obtain ⟨v, H, Sv⟩ := (r_conv rfl hx H : ∃ v, G v = true ∧ OpR P ⟨dst, .convert s d x, t, p, af, gd⟩ Ti h nx (some v) h nx)
  exact next v H ⟨hm, hb, gOf ho hg, by show OpR P (opAt ops i) Ti h nx _ h nx; rw [ho]; exact Sv⟩
theorem eCv {s d : TypeId} {x : Operand} {a : Value} {G : Value → Bool} {src : List (Nat × Option Nat)} {Ti : Tb} {i : Nat} {h h₂ : Heap} {nx n₂ : Nat} {u₂ : Value} (D : Dn P ops ms i src Ti fun o => OpR P o Ti h₂ n₂ (some u₂) h₂ n₂) (ho : opAt ops i = ⟨dst, .convert s d x, t, p, af, gd⟩)  (H : hConv P s d a h G = true) (next : ∀ v, G v = true → OpR P (opAt ops i) Ti h nx (some v) h nx → CJ P N (.region id ops true) T₀ h₀ nx₀ K) (hx : evT Ti x = some a := by rfl) : CJ P N (.region id ops true) T₀ h₀ nx₀ K := by
  obtain ⟨v, H, Sv⟩ := (r_conv rfl hx H : ∃ v, G v = true ∧ OpR P ⟨dst, .convert s d x, t, p, af, gd⟩ Ti h nx (some v) h nx)
  exact next v H (by rw [ho]; exact Sv)
theorem dFA {s u : TypeId} {f off m : Nat} {x : Operand} {a : Value} {G : Value → Bool} (hm : masksB ops ms = true) (i : Nat) (src : List (Nat × Option Nat)) (Ti : Tb) (ho : opAt ops i = ⟨dst, .fieldAddr s x f, t, p, af, gd⟩) (hf : fieldT P s f = some (off, u)) (hs : szT P u = some (m + 1)) (H : fFieldAddr off a G = true) (next : ∀ v, G v = true → Dn P ops ms i src Ti (fun o => ∀ h nx, OpR P o Ti h nx (some v) h nx) → CJ P N (.region id ops true) T₀ h₀ nx₀ K) (hx : evT Ti x = some a := by rfl) (hg : GOk ops Ti gd := by exact g0) (hb : srcB ops ms i src = true := by decide +kernel) : CJ P N (.region id ops true) T₀ h₀ nx₀ K := by
  obtain ⟨v, H, Sv⟩ := (a_fieldAddr rfl hx (fFieldAddr_t hf hs H) : ∃ v, G v = true ∧ ∀ h nx, OpR P ⟨dst, .fieldAddr s x f, t, p, af, gd⟩ Ti h nx (some v) h nx)
  exact next v H ⟨hm, hb, gOf ho hg, by show ∀ h nx, OpR P (opAt ops i) Ti h nx _ h nx; rw [ho]; exact Sv⟩
theorem dIA {ty e : TypeId} {sz : Nat} {x y : Operand} {a b : Value} {G : Value → Bool} (hm : masksB ops ms = true) (i : Nat) (src : List (Nat × Option Nat)) (Ti : Tb) (ho : opAt ops i = ⟨dst, .indexAddr ty x y, t, p, af, gd⟩) (he : sliceT P ty = some e) (hs : szT P e = some sz) (H : fIndexAddr sz a b G = true) (next : ∀ v, G v = true → Dn P ops ms i src Ti (fun o => ∀ h nx, OpR P o Ti h nx (some v) h nx) → CJ P N (.region id ops true) T₀ h₀ nx₀ K) (hx : evT Ti x = some a := by rfl) (hy : evT Ti y = some b := by rfl) (hg : GOk ops Ti gd := by exact g0) (hb : srcB ops ms i src = true := by decide +kernel) : CJ P N (.region id ops true) T₀ h₀ nx₀ K := by
  obtain ⟨v, H, Sv⟩ := (a_indexAddr rfl hx hy (fIndexAddr_t he hs H) : ∃ v, G v = true ∧ ∀ h nx, OpR P ⟨dst, .indexAddr ty x y, t, p, af, gd⟩ Ti h nx (some v) h nx)
  exact next v H ⟨hm, hb, gOf ho hg, by show ∀ h nx, OpR P (opAt ops i) Ti h nx _ h nx; rw [ho]; exact Sv⟩
theorem dIB {ty : TypeId} {x y : Operand} {a b : Value} {G : Value → Bool} (hm : masksB ops ms = true) (i : Nat) (src : List (Nat × Option Nat)) (Ti : Tb) (ho : opAt ops i = ⟨dst, .indexAddr ty x y, t, p, af, gd⟩)  (H : hIndexAddr P ty a b G = true) (next : ∀ v, G v = true → Dn P ops ms i src Ti (fun o => ∀ h nx, OpR P o Ti h nx (some v) h nx) → CJ P N (.region id ops true) T₀ h₀ nx₀ K) (hx : evT Ti x = some a := by rfl) (hy : evT Ti y = some b := by rfl) (hg : GOk ops Ti gd := by exact g0) (hb : srcB ops ms i src = true := by decide +kernel) : CJ P N (.region id ops true) T₀ h₀ nx₀ K := by
  obtain ⟨v, H, Sv⟩ := (a_indexAddr rfl hx hy H : ∃ v, G v = true ∧ ∀ h nx, OpR P ⟨dst, .indexAddr ty x y, t, p, af, gd⟩ Ti h nx (some v) h nx)
  exact next v H ⟨hm, hb, gOf ho hg, by show ∀ h nx, OpR P (opAt ops i) Ti h nx _ h nx; rw [ho]; exact Sv⟩
theorem dEx {ix : Nat} {x : Operand} {a : Value} {G : Value → Bool} (hm : masksB ops ms = true) (i : Nat) (src : List (Nat × Option Nat)) (Ti : Tb) (ho : opAt ops i = ⟨dst, .extract x ix, t, p, af, gd⟩)  (H : hExtract a ix G = true) (next : ∀ v, G v = true → Dn P ops ms i src Ti (fun o => ∀ h nx, OpR P o Ti h nx (some v) h nx) → CJ P N (.region id ops true) T₀ h₀ nx₀ K) (hx : evT Ti x = some a := by rfl) (hg : GOk ops Ti gd := by exact g0) (hb : srcB ops ms i src = true := by decide +kernel) : CJ P N (.region id ops true) T₀ h₀ nx₀ K := by
  obtain ⟨v, H, Sv⟩ := (a_extract rfl hx H : ∃ v, G v = true ∧ ∀ h nx, OpR P ⟨dst, .extract x ix, t, p, af, gd⟩ Ti h nx (some v) h nx)
  exact next v H ⟨hm, hb, gOf ho hg, by show ∀ h nx, OpR P (opAt ops i) Ti h nx _ h nx; rw [ho]; exact Sv⟩
theorem dAl {e : TypeId} {G : KV} (hm : masksB ops ms = true) (i : Nat) (src : List (Nat × Option Nat)) (Ti : Tb) (h : Heap) (nx : Nat) (ho : opAt ops i = ⟨dst, .alloc e, t, p, af, gd⟩)  (H : hAlloc P e h nx G = true) (next : ∀ v h' nx', G v h' nx' = true → nx ≤ nx' → Dn P ops ms i src Ti (fun o => OpR P o Ti h nx (some v) h' nx') → CJ P N (.region id ops true) T₀ h₀ nx₀ K)  (hg : GOk ops Ti gd := by exact g0) (hb : srcB ops ms i src = true := by decide +kernel) : CJ P N (.region id ops true) T₀ h₀ nx₀ K := by
  obtain ⟨v, h', nx', H, Sv⟩ := (r_alloc1 rfl H : ∃ v h' nx', G v h' nx' = true ∧ OpR P ⟨dst, .alloc e, t, p, af, gd⟩ Ti h nx (some v) h' nx')
  exact next v h' nx' H Sv.1 ⟨hm, hb, gOf ho hg, by show OpR P (opAt ops i) Ti h nx _ h' nx'; rw [ho]; exact Sv⟩
theorem fAl {e : TypeId} {G : KV} (hm : masksB ops ms = true) (i : Nat) (src : List (Nat × Option Nat)) (Ti : Tb) (h : Heap) (nx : Nat) (ho : opAt ops i = ⟨dst, .alloc e, t, p, af, gd⟩)  (H : hAlloc P e h nx G = true) (next : ∀ v h' nx', G v h' nx' = true → nx' = nx + 1 → Grow h nx h' nx' → Dn P ops ms i src Ti (fun o => FreshA P o Ti h' nx v) → CJ P N (.region id ops true) T₀ h₀ nx₀ K)  (hg : GOk ops Ti gd := by exact g0) (hb : srcB ops ms i src = true := by decide +kernel) : CJ P N (.region id ops true) T₀ h₀ nx₀ K := by
  obtain ⟨v, h', nx', H, e, g, Sv⟩ := (f_alloc rfl H : ∃ v h' nx', G v h' nx' = true ∧ nx' = nx + 1 ∧ Grow h nx h' nx' ∧ FreshA P ⟨dst, .alloc e, t, p, af, gd⟩ Ti h' nx v)
  exact next v h' nx' H e g ⟨hm, hb, gOf ho hg, by show FreshA P (opAt ops i) Ti h' nx v; rw [ho]; exact Sv⟩
theorem dSl {ty : TypeId} {lo hi mx : Option Operand} {lo' hi' mx' : Option Value} {x : Operand} {a : Value} {G : Value → Bool} (hm : masksB ops ms = true) (i : Nat) (src : List (Nat × Option Nat)) (Ti : Tb) (h : Heap) (nx : Nat) (ho : opAt ops i = ⟨dst, .slice ty x lo hi mx, t, p, af, gd⟩)  (H : hSlice P h ty a lo' hi' mx' G = true) (next : ∀ v, G v = true → Dn P ops ms i src Ti (fun o => OpR P o Ti h nx (some v) h nx) → CJ P N (.region id ops true) T₀ h₀ nx₀ K) (hx : evT Ti x = some a := by rfl) (h1 : evo Ti lo lo' := by rfl) (h2 : evo Ti hi hi' := by rfl) (h3 : evo Ti mx mx' := by rfl) (hg : GOk ops Ti gd := by exact g0) (hb : srcB ops ms i src = true := by decide +kernel) : CJ P N (.region id ops true) T₀ h₀ nx₀ K := by
  obtain ⟨v, H, Sv⟩ := (r_slice rfl hx (evo_O h1) (evo_O h2) (evo_O h3) H : ∃ v, G v = true ∧ OpR P ⟨dst, .slice ty x lo hi mx, t, p, af, gd⟩ Ti h nx (some v) h nx)
  exact next v H ⟨hm, hb, gOf ho hg, by show OpR P (opAt ops i) Ti h nx _ h nx; rw [ho]; exact Sv⟩
theorem eSl {ty : TypeId} {lo hi mx : Option Operand} {lo' hi' mx' : Option Value} {x : Operand} {a : Value} {G : Value → Bool} {src : List (Nat × Option Nat)} {Ti : Tb} {i : Nat} {h h₂ : Heap} {nx n₂ : Nat} {u₂ : Value} (D : Dn P ops ms i src Ti fun o => OpR P o Ti h₂ n₂ (some u₂) h₂ n₂) (ho : opAt ops i = ⟨dst, .slice ty x lo hi mx, t, p, af, gd⟩)  (H : hSlice P h ty a lo' hi' mx' G = true) (next : ∀ v, G v = true → OpR P (opAt ops i) Ti h nx (some v) h nx → CJ P N (.region id ops true) T₀ h₀ nx₀ K) (hx : evT Ti x = some a := by rfl) (h1 : evo Ti lo lo' := by rfl) (h2 : evo Ti hi hi' := by rfl) (h3 : evo Ti mx mx' := by rfl) : CJ P N (.region id ops true) T₀ h₀ nx₀ K := by
  obtain ⟨v, H, Sv⟩ := (r_slice rfl hx (evo_O h1) (evo_O h2) (evo_O h3) H : ∃ v, G v = true ∧ OpR P ⟨dst, .slice ty x lo hi mx, t, p, af, gd⟩ Ti h nx (some v) h nx)
  exact next v H (by rw [ho]; exact Sv)
theorem dBd {ty : TypeId} {xs : Array (Nat × Operand)} {vs : List (Nat × Value)} {G : Value → Bool} (hm : masksB ops ms = true) (i : Nat) (src : List (Nat × Option Nat)) (Ti : Tb) (ho : opAt ops i = ⟨dst, .build ty xs, t, p, af, gd⟩)  (H : hBuild P ty vs G = true) (next : ∀ v, G v = true → Dn P ops ms i src Ti (fun o => ∀ h nx, OpR P o Ti h nx (some v) h nx) → CJ P N (.region id ops true) T₀ h₀ nx₀ K) (hx : evp Ti xs.toList vs := by rfl) (hg : GOk ops Ti gd := by exact g0) (hb : srcB ops ms i src = true := by decide +kernel) : CJ P N (.region id ops true) T₀ h₀ nx₀ K := by
  obtain ⟨v, H, Sv⟩ := (a_build rfl (evp_P hx) H : ∃ v, G v = true ∧ ∀ h nx, OpR P ⟨dst, .build ty xs, t, p, af, gd⟩ Ti h nx (some v) h nx)
  exact next v H ⟨hm, hb, gOf ho hg, by show ∀ h nx, OpR P (opAt ops i) Ti h nx _ h nx; rw [ho]; exact Sv⟩
theorem dBS {ty : TypeId} {len : Nat} {xs : Array (Nat × Operand)} {vs : List (Nat × Value)} {G : KV} (hm : masksB ops ms = true) (i : Nat) (src : List (Nat × Option Nat)) (Ti : Tb) (h : Heap) (nx : Nat) (ho : opAt ops i = ⟨dst, .buildSlice ty len xs, t, p, af, gd⟩)  (H : hBuildSlice P ty len vs h nx G = true) (next : ∀ v h' nx', G v h' nx' = true → nx ≤ nx' → Dn P ops ms i src Ti (fun o => OpR P o Ti h nx (some v) h' nx') → CJ P N (.region id ops true) T₀ h₀ nx₀ K) (hx : evp Ti xs.toList vs := by rfl) (hg : GOk ops Ti gd := by exact g0) (hb : srcB ops ms i src = true := by decide +kernel) : CJ P N (.region id ops true) T₀ h₀ nx₀ K := by
  obtain ⟨v, h', nx', H, Sv⟩ := (r_buildSlice rfl (evp_P hx) H : ∃ v h' nx', G v h' nx' = true ∧ OpR P ⟨dst, .buildSlice ty len xs, t, p, af, gd⟩ Ti h nx (some v) h' nx')
  exact next v h' nx' H Sv.1 ⟨hm, hb, gOf ho hg, by show OpR P (opAt ops i) Ti h nx _ h' nx'; rw [ho]; exact Sv⟩
theorem fBS {ty : TypeId} {len : Nat} {xs : Array (Nat × Operand)} {vs : List (Nat × Value)} {G : KV} (hm : masksB ops ms = true) (i : Nat) (src : List (Nat × Option Nat)) (Ti : Tb) (h : Heap) (nx : Nat) (ho : opAt ops i = ⟨dst, .buildSlice ty len xs, t, p, af, gd⟩)  (H : hBuildSlice P ty len vs h nx G = true) (next : ∀ v h' nx', G v h' nx' = true → nx' = nx + 1 → Grow h nx h' nx' → Dn P ops ms i src Ti (fun o => FreshA P o Ti h' nx v) → CJ P N (.region id ops true) T₀ h₀ nx₀ K) (hx : evp Ti xs.toList vs := by rfl) (hg : GOk ops Ti gd := by exact g0) (hb : srcB ops ms i src = true := by decide +kernel) : CJ P N (.region id ops true) T₀ h₀ nx₀ K := by
  obtain ⟨v, h', nx', H, e, g, Sv⟩ := (f_buildSlice rfl (evp_P hx) H : ∃ v h' nx', G v h' nx' = true ∧ nx' = nx + 1 ∧ Grow h nx h' nx' ∧ FreshA P ⟨dst, .buildSlice ty len xs, t, p, af, gd⟩ Ti h' nx v)
  exact next v h' nx' H e g ⟨hm, hb, gOf ho hg, by show FreshA P (opAt ops i) Ti h' nx v; rw [ho]; exact Sv⟩
theorem dLn {xs : Array Operand} {tys : Array TypeId} {ty e : TypeId} {a : Value} {G : Value → Bool} (hm : masksB ops ms = true) (i : Nat) (src : List (Nat × Option Nat)) (Ti : Tb) (h : Heap) (nx : Nat) (ho : opAt ops i = ⟨dst, .call ⟨.builtin .len, xs, tys⟩, t, p, af, gd⟩) (he : P.underlying ty = some (.slice e)) (H : fLen a G = true) (next : ∀ v, G v = true → Dn P ops ms i src Ti (fun o => OpR P o Ti h nx (some v) h nx) → CJ P N (.region id ops true) T₀ h₀ nx₀ K) (hx : evs Ti xs.toList [a] := by rfl) (ht : tys.toList = [ty] := by rfl) (hg : GOk ops Ti gd := by exact g0) (hb : srcB ops ms i src = true := by decide +kernel) : CJ P N (.region id ops true) T₀ h₀ nx₀ K := by
  obtain ⟨v, H, Sv⟩ := (r_len (x := default) rfl rfl (evs_L hx) ht (fLen_t he H) : ∃ v, G v = true ∧ OpR P ⟨dst, .call ⟨.builtin .len, xs, tys⟩, t, p, af, gd⟩ Ti h nx (some v) h nx)
  exact next v H ⟨hm, hb, gOf ho hg, by show OpR P (opAt ops i) Ti h nx _ h nx; rw [ho]; exact Sv⟩
theorem eLn {xs : Array Operand} {tys : Array TypeId} {ty e : TypeId} {a : Value} {G : Value → Bool} {src : List (Nat × Option Nat)} {Ti : Tb} {i : Nat} {h h₂ : Heap} {nx n₂ : Nat} {u₂ : Value} (D : Dn P ops ms i src Ti fun o => OpR P o Ti h₂ n₂ (some u₂) h₂ n₂) (ho : opAt ops i = ⟨dst, .call ⟨.builtin .len, xs, tys⟩, t, p, af, gd⟩) (he : P.underlying ty = some (.slice e)) (H : fLen a G = true) (next : ∀ v, G v = true → OpR P (opAt ops i) Ti h nx (some v) h nx → CJ P N (.region id ops true) T₀ h₀ nx₀ K) (hx : evs Ti xs.toList [a] := by rfl) (ht : tys.toList = [ty] := by rfl) : CJ P N (.region id ops true) T₀ h₀ nx₀ K := by
  obtain ⟨v, H, Sv⟩ := (r_len (x := default) rfl rfl (evs_L hx) ht (fLen_t he H) : ∃ v, G v = true ∧ OpR P ⟨dst, .call ⟨.builtin .len, xs, tys⟩, t, p, af, gd⟩ Ti h nx (some v) h nx)
  exact next v H (by rw [ho]; exact Sv)
theorem dAp {xs : Array Operand} {tys : Array TypeId} {s t₂ : TypeId} {a b : Value} {G : KV} (hm : masksB ops ms = true) (i : Nat) (src : List (Nat × Option Nat)) (Ti : Tb) (h : Heap) (nx : Nat) (ho : opAt ops i = ⟨dst, .call ⟨.builtin .append, xs, tys⟩, t, p, af, gd⟩)  (H : hAppend P s t₂ a b h nx G = true) (next : ∀ v h' nx', G v h' nx' = true → nx ≤ nx' → Dn P ops ms i src Ti (fun o => OpR P o Ti h nx (some v) h' nx') → CJ P N (.region id ops true) T₀ h₀ nx₀ K) (hx : evs Ti xs.toList [a, b] := by rfl) (ht : tys.toList = [s, t₂] := by rfl) (hg : GOk ops Ti gd := by exact g0) (hb : srcB ops ms i src = true := by decide +kernel) : CJ P N (.region id ops true) T₀ h₀ nx₀ K := by
  obtain ⟨v, h', nx', H, Sv⟩ := (r_append1 rfl rfl (evs_L hx) ht H : ∃ v h' nx', G v h' nx' = true ∧ OpR P ⟨dst, .call ⟨.builtin .append, xs, tys⟩, t, p, af, gd⟩ Ti h nx (some v) h' nx')
  exact next v h' nx' H Sv.1 ⟨hm, hb, gOf ho hg, by show OpR P (opAt ops i) Ti h nx _ h' nx'; rw [ho]; exact Sv⟩
theorem dMi {xs : Array Operand} {tys : Array TypeId} {ts : List TypeId} {vs : List Value} {G : Value → Bool} (hm : masksB ops ms = true) (i : Nat) (src : List (Nat × Option Nat)) (Ti : Tb) (ho : opAt ops i = ⟨dst, .call ⟨.builtin .min, xs, tys⟩, t, p, af, gd⟩)  (H : hMin P ts vs G = true) (next : ∀ v, G v = true → Dn P ops ms i src Ti (fun o => ∀ h nx, OpR P o Ti h nx (some v) h nx) → CJ P N (.region id ops true) T₀ h₀ nx₀ K) (hx : evs Ti xs.toList vs := by rfl) (ht : tys.toList = ts := by rfl) (hg : GOk ops Ti gd := by exact g0) (hb : srcB ops ms i src = true := by decide +kernel) : CJ P N (.region id ops true) T₀ h₀ nx₀ K := by
  obtain ⟨v, H, Sv⟩ := (a_min rfl rfl (evs_L hx) ht H : ∃ v, G v = true ∧ ∀ h nx, OpR P ⟨dst, .call ⟨.builtin .min, xs, tys⟩, t, p, af, gd⟩ Ti h nx (some v) h nx)
  exact next v H ⟨hm, hb, gOf ho hg, by show ∀ h nx, OpR P (opAt ops i) Ti h nx _ h nx; rw [ho]; exact Sv⟩
theorem dMa {xs : Array Operand} {tys : Array TypeId} {ts : List TypeId} {vs : List Value} {G : Value → Bool} (hm : masksB ops ms = true) (i : Nat) (src : List (Nat × Option Nat)) (Ti : Tb) (ho : opAt ops i = ⟨dst, .call ⟨.builtin .max, xs, tys⟩, t, p, af, gd⟩)  (H : hMax P ts vs G = true) (next : ∀ v, G v = true → Dn P ops ms i src Ti (fun o => ∀ h nx, OpR P o Ti h nx (some v) h nx) → CJ P N (.region id ops true) T₀ h₀ nx₀ K) (hx : evs Ti xs.toList vs := by rfl) (ht : tys.toList = ts := by rfl) (hg : GOk ops Ti gd := by exact g0) (hb : srcB ops ms i src = true := by decide +kernel) : CJ P N (.region id ops true) T₀ h₀ nx₀ K := by
  obtain ⟨v, H, Sv⟩ := (a_max rfl rfl (evs_L hx) ht H : ∃ v, G v = true ∧ ∀ h nx, OpR P ⟨dst, .call ⟨.builtin .max, xs, tys⟩, t, p, af, gd⟩ Ti h nx (some v) h nx)
  exact next v H ⟨hm, hb, gOf ho hg, by show ∀ h nx, OpR P (opAt ops i) Ti h nx _ h nx; rw [ho]; exact Sv⟩
theorem dCa {xs : Array Operand} {tys : Array TypeId} {x : Operand} {f : FuncId} {vs : List Value} {G : KV} (hm : masksB ops ms = true) (i : Nat) (src : List (Nat × Option Nat)) (Ti : Tb) (h : Heap) (nx : Nat) (ho : opAt ops i = ⟨dst, .call ⟨.value x, xs, tys⟩, t, p, af, gd⟩) (en : ∀ (as : Array Value) w, (callFunc f as).run P w = .ok (.enter f as) w) (H : SimR P f (vs) h nx G) (next : ∀ v h' nx', G v h' nx' = true → nx ≤ nx' → Dn P ops ms i src Ti (fun o => OpR P o Ti h nx (some v) h' nx') → CJ P N (.region id ops true) T₀ h₀ nx₀ K) (hx : evs Ti xs.toList vs := by rfl) (hf : evT Ti x = some (Fn0 f) := by rfl) (hg : GOk ops Ti gd := by exact g0) (hb : srcB ops ms i src = true := by decide +kernel) : CJ P N (.region id ops true) T₀ h₀ nx₀ K := by
  obtain ⟨v, h', nx', H, Sv⟩ := (r_call rfl rfl hf (evs_L hx) en H : ∃ v h' nx', G v h' nx' = true ∧ OpR P ⟨dst, .call ⟨.value x, xs, tys⟩, t, p, af, gd⟩ Ti h nx (some v) h' nx')
  exact next v h' nx' H Sv.1 ⟨hm, hb, gOf ho hg, by show OpR P (opAt ops i) Ti h nx _ h' nx'; rw [ho]; exact Sv⟩
theorem dCf {xs : Array Operand} {tys : Array TypeId} {x : Operand} {f : FuncId} {first caps vs : List Value} {G : KV} (hm : masksB ops ms = true) (i : Nat) (src : List (Nat × Option Nat)) (Ti : Tb) (h : Heap) (nx : Nat) (ho : opAt ops i = ⟨dst, .call ⟨.value x, xs, tys⟩, t, p, af, gd⟩) (en : ∀ (as : Array Value) w, (callFunc f as).run P w = .ok (.enter f as) w) (H : SimR P f (first ++ (vs ++ caps)) h nx G) (next : ∀ v h' nx', G v h' nx' = true → nx ≤ nx' → Dn P ops ms i src Ti (fun o => OpR P o Ti h nx (some v) h' nx') → CJ P N (.region id ops true) T₀ h₀ nx₀ K) (hx : evs Ti xs.toList vs := by rfl) (hf : evT Ti x = some (.func (.func f) ⟨first⟩ ⟨caps⟩) := by rfl) (hg : GOk ops Ti gd := by exact g0) (hb : srcB ops ms i src = true := by decide +kernel) : CJ P N (.region id ops true) T₀ h₀ nx₀ K := by
  obtain ⟨v, h', nx', H, Sv⟩ := (r_callv rfl rfl hf (evs_L hx) en H : ∃ v h' nx', G v h' nx' = true ∧ OpR P ⟨dst, .call ⟨.value x, xs, tys⟩, t, p, af, gd⟩ Ti h nx (some v) h' nx')
  exact next v h' nx' H Sv.1 ⟨hm, hb, gOf ho hg, by show OpR P (opAt ops i) Ti h nx _ h' nx'; rw [ho]; exact Sv⟩
end
end Go.AM

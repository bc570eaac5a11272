/- H, part 5: the rules in the shape in which the printed proofs use them; guards; calls. -/
import Derived.Test.YtmfkidinmcmaaaaGreatAmL
set_option linter.unusedVariables false
set_option linter.unusedSimpArgs false
namespace Go.AM
variable {P : Program}
variable {N : Nat} {ops : Array Oper} {o : Oper} {l : List Oper} {T : Tb} {h : Heap} {nx : Nat} {K : Tb → Heap → Nat → Prop}
theorem OJ.rd {d : Nat} {G : Value → Bool} (hg : o.guard = none) (hdst : o.dst = some d) (hd : Nat.blt d N = true) (E : ∃ v, G v = true ∧ OpR P o T h nx (some v) h nx)
    (rest : ∀ v, G v = true → OJ P N ops l ((d, some v) :: T) h nx K) : OJ P N ops (o :: l) T h nx K := by
  obtain ⟨v, H, S⟩ := E
  exact .step (by unfold guardB; rw [hg]) S (by unfold dstOk; rw [hdst]; exact hd) (by rw [hdst]; exact rest v H)
theorem OJ.wr {G : Heap → Bool} (hg : o.guard = none) (hdst : o.dst = none) (E : ∃ h', G h' = true ∧ OpR P o T h nx none h' nx)
    (rest : ∀ h', G h' = true → OJ P N ops l T h' nx K) : OJ P N ops (o :: l) T h nx K := by
  obtain ⟨h', H, S⟩ := E
  exact .step (by unfold guardB; rw [hg]) S (by unfold dstOk; rw [hdst]) (by rw [hdst]; exact rest h' H)
theorem OJ.fu {d : Nat} {G : KV} (hg : o.guard = none) (hdst : o.dst = some d) (hd : Nat.blt d N = true) (E : ∃ v h' nx', G v h' nx' = true ∧ OpR P o T h nx (some v) h' nx')
    (rest : ∀ v h' nx', G v h' nx' = true → OJ P N ops l ((d, some v) :: T) h' nx' K) : OJ P N ops (o :: l) T h nx K := by
  obtain ⟨v, h', nx', H, S⟩ := E
  exact .step (by unfold guardB; rw [hg]) S (by unfold dstOk; rw [hdst]; exact hd) (by rw [hdst]; exact rest v h' nx' H)
/-! with a guard that holds -/
theorem guard_in {b want : Bool} {j d : Nat} {og : Option Value} (hg : o.guard = some (j, want)) (hj : (ops[j]?).bind (·.dst) = some d) (hl : look T d = some og) (g : WantP og want b) : guardB ops T o b := by
  unfold guardB; rw [hg]; exact ⟨d, og, hj, hl, g⟩
/-- a guard that fails -/
theorem OJ.no {j : Nat} {want : Bool} {dj : Nat} {og : Option Value} {d : Nat} (hg : o.guard = some (j, want)) (hj : (ops[j]?).bind (·.dst) = some dj) (hl : look T dj = some og) (g : WantP og want false)
    (hdst : o.dst = some d) (hd : Nat.blt d N = true) (rest : OJ P N ops l ((d, none) :: T) h nx K) : OJ P N ops (o :: l) T h nx K :=
  .skip (guard_in hg hj hl g) (by unfold dstOk; rw [hdst]; exact hd) (by rw [hdst]; exact rest)
noncomputable def vWant : Value → Bool → Bool → Bool → Bool :=
  @Value.rec (fun _ => Bool → Bool → Bool → Bool) (fun _ => Unit) (fun _ => Unit)
    (fun b w t e => @Bool.rec (fun _ => Bool) (@Bool.rec (fun _ => Bool) t e w) (@Bool.rec (fun _ => Bool) e t w) b) (fun _ _ _ _ e => e) (fun _ _ _ _ e => e) (fun _ _ _ _ _ e => e) (fun _ _ _ e => e) (fun _ _ _ e => e) (fun _ _ _ _ _ e => e)
    (fun _ _ _ e => e) (fun _ _ _ _ => false) (fun _ _ _ _ _ _ _ e => e) (fun _ _ e => e) (fun _ _ _ _ _ e => e) (fun _ _ e => e) (fun _ _ _ _ e => e) (fun _ _ _ _ e => e)
    (fun _ _ => ()) () (fun _ _ _ _ => ())
noncomputable def hG (og : Option Value) (want : Bool) (A B : Unit → Bool) : Bool := @Option.rec Value (fun _ => Bool) (B ()) (fun v => vWant v want (A ()) (B ())) og
theorem hG_true {og : Option Value} {want : Bool} {A B : Unit → Bool} (H : hG og want A B = true) : (WantP og want true ∧ A () = true) ∨ (WantP og want false ∧ B () = true) := by
  cases og with
  | none => exact .inr ⟨⟨rfl, rfl⟩, H⟩
  | some v =>
    cases v <;> first
      | exact .inr ⟨⟨rfl, rfl⟩, H⟩
      | (cases H; done)
      | (rename_i b; cases b <;> cases want <;> first | exact .inl ⟨⟨rfl, rfl⟩, H⟩ | exact .inr ⟨⟨rfl, rfl⟩, H⟩)
/-- behind so many operations the roads meet -/
theorem OJ.cut {X : Type} (m : Nat) (J : X → Heap → Nat → Bool) (Tof : X → Tb) (next : ∀ x h nx, J x h nx = true → OJ P N ops (l.drop m) (Tof x) h nx K)
    (now : (∀ x h nx, J x h nx = true → OJ P N ops (l.drop m) (Tof x) h nx K) → OJ P N ops l T h nx K) : OJ P N ops l T h nx K := now next
theorem OJ.weaken (T₂ : Tb) (s : Sub T₂ T) (H : OJ P N ops l T₂ h nx K) : OJ P N ops l T h nx K := fun i hl =>
  let ⟨T', h', nx', k, hn, S⟩ := H i hl; ⟨T', h', nx', k, hn, fun B φ a w Q r tr hd hq => S B φ a w Q r (tr.sub s) hd hq⟩
/-! conditions -/
noncomputable def vBool : Value → Bool → Bool → Bool :=
  @Value.rec (fun _ => Bool → Bool → Bool) (fun _ => Unit) (fun _ => Unit)
    (fun b t e => @Bool.rec (fun _ => Bool) e t b) (fun _ _ _ _ => false) (fun _ _ _ _ => false) (fun _ _ _ _ _ => false) (fun _ _ _ => false) (fun _ _ _ => false) (fun _ _ _ _ _ => false)
    (fun _ _ _ => false) (fun _ _ _ => false) (fun _ _ _ _ _ _ _ => false) (fun _ _ => false) (fun _ _ _ _ _ => false) (fun _ _ => false) (fun _ _ _ _ => false) (fun _ _ _ _ => false)
    (fun _ _ => ()) () (fun _ _ _ _ => ())
theorem vBool_true {v : Value} {t e : Bool} (H : vBool v t e = true) : (v = .bool true ∧ t = true) ∨ (v = .bool false ∧ e = true) := by
  cases v <;> first
    | (cases H; done)
    | (rename_i b; cases b <;> first | exact .inl ⟨rfl, H⟩ | exact .inr ⟨rfl, H⟩)
noncomputable def hIf (v : Value) (A B : Unit → Bool) : Bool := vBool v (A ()) (B ())
theorem CJ.ite {c : Operand} {x y : Code} {v : Value} {A B : Unit → Bool} {K : Ex → Tb → Heap → Nat → Prop} (hc : evT T c = some v) (H : hIf v A B = true)
    (H1 : A () = true → CJ P N x T h nx K) (H2 : B () = true → CJ P N y T h nx K) : CJ P N (.cond c x y) T h nx K := by
  rcases vBool_true H with ⟨rfl, H⟩ | ⟨rfl, H⟩
  · exact .branch hc (fun _ => H1 H) (fun e => by cases e)
  · exact .branch hc (fun e => by cases e) (fun _ => H2 H)
noncomputable def hPick (c : Value) (a b : Option Value) (G : Value → Bool) : Bool := vBool c (optK a G) (optK b G)
theorem r_pick {c a b : Operand} {vc : Value} {oa ob : Option Value} {G : Value → Bool} (ho : o.op = .pick c a b) (hc : evT T c = some vc) (ha : evT T a = oa) (hb : evT T b = ob) (H : hPick vc oa ob G = true) : ∃ v, G v = true ∧ OpR P o T h nx (some v) h nx := by
  rcases vBool_true H with ⟨rfl, H⟩ | ⟨rfl, H⟩
  · obtain ⟨v, rfl, H⟩ := optK_true H; exact ⟨v, H, r_pick1 ho hc ha⟩
  · obtain ⟨v, rfl, H⟩ := optK_true H; exact ⟨v, H, r_pick2 ho hc hb⟩
/-! calls -/
theorem r_call {c : Call} {x : Operand} {f : FuncId} {args : List Value} {G : KV} (ho : o.op = .call c) (hc : c.callee = .value x) (hx : evT T x = some (.func (.func f) ⟨[]⟩ ⟨[]⟩)) (ha : EvL T c.args.toList args)
    (hen : ∀ (as : Array Value) w, (callFunc f as).run P w = .ok (.enter f as) w) (E : ∃ v h' nx', G v h' nx' = true ∧ CallSim P f args h nx v h' nx') : ∃ v h' nx', G v h' nx' = true ∧ OpR P o T h nx (some v) h' nx' := by
  obtain ⟨v, h', nx', H, S⟩ := E
  exact ⟨v, h', nx', H, .call ho hc hx ha hen (by simpa using S)⟩
/-- a function value's parts -/
def hFn (v : Value) (k : Nat → List Value → List Value → Bool) : Bool := match v with
  | .func (.func f) ⟨first⟩ ⟨caps⟩ => k f first caps
  | _ => false
theorem hFn_true {v : Value} {k : Nat → List Value → List Value → Bool} (H : hFn v k = true) : ∃ f first caps, v = .func (.func f) ⟨first⟩ ⟨caps⟩ ∧ k f first caps = true := by
  unfold hFn at H
  split at H
  · exact ⟨_, _, _, rfl, H⟩
  · cases H
theorem r_callv {c : Call} {x : Operand} {f : FuncId} {first caps args : List Value} {G : KV} (ho : o.op = .call c) (hc : c.callee = .value x) (hx : evT T x = some (.func (.func f) ⟨first⟩ ⟨caps⟩)) (ha : EvL T c.args.toList args)
    (hen : ∀ (as : Array Value) w, (callFunc f as).run P w = .ok (.enter f as) w) (E : ∃ v h' nx', G v h' nx' = true ∧ CallSim P f (first ++ (args ++ caps)) h nx v h' nx') : ∃ v h' nx', G v h' nx' = true ∧ OpR P o T h nx (some v) h' nx' := by
  obtain ⟨v, h', nx', H, S⟩ := E
  exact ⟨v, h', nx', H, .call ho hc hx ha hen S⟩
end Go.AM
namespace Go.AM
variable {P : Program}
theorem OJ.fin {N : Nat} {ops : Array Oper} {T : Tb} {h : Heap} {nx : Nat} {K : Tb → Heap → Nat → Prop} (H : K T h nx) : OJ P N ops [] T h nx K :=
  fun i _ => ⟨T, h, nx, H, Nat.le_refl _, fun B φ a w Q r tr hd hq => hq a w ⟨hd, φ, .refl _ _, r, tr, Fr.refl _ _⟩⟩
theorem CJ.go {N : Nat} {c : Code} {T : Tb} {h : Heap} {nx : Nat} {K : Ex → Tb → Heap → Nat → Prop} (e : Ex) (H : K e T h nx) (hc : ∀ (a : Act) w (Q : Exit → Act → World → Prop), Q (conc e) a w → cwp P c Q a w) : CJ P N c T h nx K :=
  ⟨e, T, h, nx, H, Nat.le_refl _, fun B φ a w Q r tr hd hq => hc a w Q (hq a w ⟨hd, φ, .refl _ _, r, tr, Fr.refl _ _⟩)⟩
theorem CJ.skip1 {N : Nat} {T : Tb} {h : Heap} {nx : Nat} {K : Ex → Tb → Heap → Nat → Prop} (H : K .nm T h nx) : CJ P N .skip T h nx K := .go .nm H fun a w Q hq => wp_skip hq
theorem CJ.exit1 {N : Nat} {id : Nat} {T : Tb} {h : Heap} {nx : Nat} {K : Ex → Tb → Heap → Nat → Prop} (H : K (.exit id) T h nx) : CJ P N (.exit id) T h nx K := .go (.exit id) H fun a w Q hq => wp_exit hq
theorem CJ.ret1 {N : Nat} {T : Tb} {h : Heap} {nx : Nat} {K : Ex → Tb → Heap → Nat → Prop} (H : K .ret T h nx) : CJ P N .ret T h nx K := .go .ret H fun a w Q hq => wp_ret hq
def LookL (T : Tb) : List Nat → List Value → Prop
  | [], [] => True
  | d :: ds, v :: vs => look T d = some (some v) ∧ LookL T ds vs
  | _, _ => False
def noTups : List Value → Bool
  | [] => true
  | v :: vs => noTup v && noTups vs
def hRet (vs : List Value) (h : Heap) (nx : Nat) (k : KV) : Bool := match noTups vs with
  | true => k (resV vs) h nx
  | false => false
theorem resR_of {T : Tb} {h : Heap} : ∀ {ds : List Nat} {vs : List Value}, LookL T ds vs → noTups vs = true → ResR P T h (ds.map .tmp) vs
  | [], [], _, _ => trivial
  | d :: ds, v :: vs, hl, hn => by
    simp only [noTups, Bool.and_eq_true] at hn
    exact ⟨hl.1, hn.1, resR_of hl.2 hn.2⟩
  | [], _ :: _, hl, _ => hl.elim
  | _ :: _, [], hl, _ => hl.elim
theorem ret_one {rs : List ResultVar} {k : KV} {e : Ex} {T : Tb} {h : Heap} {nx d : Nat} {v : Value} (he : e = .nm ∨ e = .ret) (hrs : rs = [.tmp d]) (hv : look T d = some (some v)) (H : k v h nx = true) : RetK P rs k e T h nx :=
  ⟨he, .inl ⟨d, v, hrs, hv, H⟩⟩
theorem ret_many {rs : List ResultVar} {k : KV} {e : Ex} {T : Tb} {h : Heap} {nx : Nat} (ds : List Nat) {vs : List Value} (he : e = .nm ∨ e = .ret) (hrs : rs = ds.map .tmp) (hl : LookL T ds vs) (H : hRet vs h nx k = true) : RetK P rs k e T h nx := by
  unfold hRet at H
  split at H
  · subst hrs; exact ⟨he, .inr ⟨vs, resR_of hl ‹_›, H⟩⟩
  · cases H
end Go.AM
namespace Go.AM
variable {P : Program}
noncomputable def hAlloc (P : Program) (e : TypeId) (h : Heap) (nx : Nat) (G : KV) : Bool := optK (zeroT P e) fun z => newK z 0 h nx fun h' nx' => G (.pointer (some ⟨nx, 0, none⟩)) h' nx'
theorem r_alloc1 {o : Oper} {T : Tb} {h : Heap} {nx : Nat} {e : TypeId} {G : KV} (ho : o.op = .alloc e) (H : hAlloc P e h nx G = true) : ∃ v h' nx', G v h' nx' = true ∧ OpR P o T h nx (some v) h' nx' := r_alloc ho H
noncomputable def hAppend (P : Program) (sT xT : TypeId) (s x : Value) (h : Heap) (nx : Nat) (G : KV) : Bool := appendK P sT xT s x h nx (kF G)
theorem r_append1 {o : Oper} {T : Tb} {h : Heap} {nx : Nat} {c : Call} {sT xT : TypeId} {s x : Value} {G : KV} (ho : o.op = .call c) (hc : c.callee = .builtin .append) (hx : EvL T c.args.toList [s, x]) (ht : c.argTypes.toList = [sT, xT]) (H : hAppend P sT xT s x h nx G = true) : ∃ v h' nx', G v h' nx' = true ∧ OpR P o T h nx (some v) h' nx' := r_append ho hc hx ht H
noncomputable def hCopy (P : Program) (dT : TypeId) (s x : Value) (h : Heap) (nx : Nat) (G : KV) : Bool := copyK P dT s x h nx (kF G)
end Go.AM
namespace Go.AM
variable {P : Program}
def hNT (v : Value) (A : Unit → Bool) : Bool := match noTup v with
  | true => A ()
  | false => false
theorem hNT_true {v : Value} {A : Unit → Bool} (H : hNT v A = true) : noTup v = true ∧ A () = true := by
  unfold hNT at H
  split at H
  · exact ⟨‹_›, H⟩
  · cases H
theorem ret_gen {rs : List ResultVar} {k : KV} {e : Ex} {T : Tb} {h : Heap} {nx : Nat} {vs : List Value} (he : e = .nm ∨ e = .ret) (hr : ResR P T h rs vs) (H : k (resV vs) h nx = true) : RetK P rs k e T h nx :=
  ⟨he, .inr ⟨vs, hr, H⟩⟩
def hIs (f g : Nat) (A B : Unit → Bool) : Bool := match Nat.beq f g with
  | true => A ()
  | false => B ()
theorem hIs_true {f g : Nat} {A B : Unit → Bool} (H : hIs f g A B = true) : (f = g ∧ A () = true) ∨ B () = true := by
  unfold hIs at H
  split at H
  · exact .inl ⟨Nat.eq_of_beq_eq_true ‹_›, H⟩
  · exact .inr H
def hL0 (l : List Value) (A : Unit → Bool) : Bool := match l with
  | [] => A ()
  | _ => false
theorem hL0_true {l : List Value} {A : Unit → Bool} (H : hL0 l A = true) : l = [] ∧ A () = true := by
  unfold hL0 at H
  split at H
  · exact ⟨rfl, H⟩
  · cases H
def hLc (l : List Value) (A : Value → List Value → Bool) : Bool := match l with
  | v :: l => A v l
  | [] => false
theorem hLc_true {l : List Value} {A : Value → List Value → Bool} (H : hLc l A = true) : ∃ v l', l = v :: l' ∧ A v l' = true := by
  unfold hLc at H
  split at H
  · exact ⟨_, _, rfl, H⟩
  · cases H
end Go.AM

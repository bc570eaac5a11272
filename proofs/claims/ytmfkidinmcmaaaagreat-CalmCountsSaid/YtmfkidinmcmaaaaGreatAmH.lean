/- H, part 1: code as a function of its live temporaries: what is to be shown of it, and the rules of the control flow. -/
import Derived.Test.YtmfkidinmcmaaaaGreatAmOps
set_option linter.unusedVariables false
set_option linter.unusedSimpArgs false
namespace Go.AM
variable {P : Program}
inductive Ex where
  | nm
  | exit (id : Nat)
  | ret
def conc : Ex → Exit
  | .nm => .normal
  | .exit id => .exit id
  | .ret => .ret
/-! ### bindings: what is known of some temporaries; none: it was never written -/
abbrev Tb := List (Nat × Option Value)
def look : Tb → Nat → Option (Option Value)
  | [], _ => none
  | (j, ov) :: T, i => cond (Nat.beq j i) (some ov) (look T i)
def Sub : Tb → Tb → Prop
  | [], _ => True
  | (i, ov) :: T₂, T => look T i = some ov ∧ Sub T₂ T
theorem Sub.look {T : Tb} {i : Nat} {ov : Option Value} : ∀ {T₂ : Tb}, Sub T₂ T → look T₂ i = some ov → look T i = some ov
  | [], _, h => by cases h
  | (j, ov') :: T₂, s, h => by
    simp only [AM.look] at h
    cases e : Nat.beq j i with
    | true =>
      rw [e] at h; cases h
      have := Nat.eq_of_beq_eq_true e; subst this
      exact s.1
    | false => rw [e] at h; exact Sub.look s.2 h
noncomputable def tr : Tb → Tmps
  | [] => .e
  | (i, ov) :: T => Tr.set ov (path i) (tr T)
theorem get_tr (i : Nat) : ∀ T : Tb, Tr.get (path i) (tr T) = (look T i).join
  | [] => Tr.get_e _
  | (j, ov) :: T => by
    simp only [tr, look]
    cases e : Nat.beq j i with
    | true =>
      have := Nat.eq_of_beq_eq_true e; subst this
      rw [Tr.get_set_same]; rfl
    | false =>
      rw [Tr.get_set_ne _ _ _ _ (fun h => by have := path_inj h; subst this; simp at e), get_tr i T]; rfl
def evT (T : Tb) : Operand → Option Value
  | .tmp i => (look T i).join
  | .const v => if flat v then some v else none
  | .func f => some (.func (.func f) #[] #[])
  | .global _ => none
theorem ev_tr (T : Tb) (x : Operand) : ev (tr T) x = evT T x := by
  cases x with
  | tmp i => exact get_tr i T
  | _ => rfl
def EvL (T : Tb) : List Operand → List Value → Prop
  | [], [] => True
  | x :: xs, v :: vs => evT T x = some v ∧ EvL T xs vs
  | _, _ => False
def VO (φ : Emb) (ov : Option Value) (v' : Value) : Prop := match ov with | some v => VRel φ v v' | none => v' = undef
def Bnd (φ : Emb) (N : Nat) (T : Tb) (tm : Array Value) : Prop := tm.size = N ∧ ∀ i ov, look T i = some ov → ∃ v', tm[i]? = some v' ∧ VO φ ov v'
theorem VO.mono {φ ψ : Emb} (h : φ.le ψ) {ov : Option Value} {v' : Value} (r : VO φ ov v') : VO ψ ov v' := by
  cases ov with
  | some v => exact VRel.mono h r
  | none => exact r
theorem Bnd.mono {φ ψ : Emb} (h : φ.le ψ) {N : Nat} {T : Tb} {tm : Array Value} (r : Bnd φ N T tm) : Bnd ψ N T tm :=
  ⟨r.1, fun i ov hi => let ⟨v', a, b⟩ := r.2 i ov hi; ⟨v', a, b.mono h⟩⟩
theorem Bnd.sub {φ : Emb} {N : Nat} {T T₂ : Tb} {tm : Array Value} (s : Sub T₂ T) (r : Bnd φ N T tm) : Bnd φ N T₂ tm :=
  ⟨r.1, fun i ov hi => r.2 i ov (s.look hi)⟩
def upd (dst : Option Tmp) (ov : Option Value) (T : Tb) : Tb := match dst with | none => T | some d => (d, ov) :: T
def dstOk (N : Nat) (dst : Option Tmp) : Bool := match dst with | none => true | some d => Nat.blt d N
theorem Bnd.put {φ : Emb} {N : Nat} {T : Tb} {a : Act} (r : Bnd φ N T a.tmps) {dst : Option Tmp} (hd : dstOk N dst = true) {ov : Option Value} {v' : Value} (hv : VO φ ov v') : Bnd φ N (upd dst ov T) (a.put dst v').tmps := by
  cases dst with
  | none => exact r
  | some d =>
    have hd : d < N := Nat.le_of_ble_eq_true (show Nat.ble (d + 1) N = true from hd)
    refine ⟨by simpa [Act.put] using r.1, fun i ou hi => ?_⟩
    show ∃ u', (a.tmps.setIfInBounds d v')[i]? = some u' ∧ VO φ ou u'
    simp only [upd, look] at hi
    cases e : Nat.beq d i with
    | true =>
      rw [e] at hi; cases hi
      have := Nat.eq_of_beq_eq_true e; subst this
      exact ⟨v', by rw [Array.getElem?_setIfInBounds]; simp [r.1, hd], hv⟩
    | false =>
      rw [e] at hi
      rw [Array.getElem?_setIfInBounds, if_neg (fun h => by subst h; simp at e)]
      exact r.2 i ou hi
theorem Bnd.lr {φ : Emb} {N : Nat} {T : Tb} {a : Act} (r : Bnd φ N T a.tmps) (xs : List Operand) : LR φ (tr T) a xs := by
  intro x _ v h
  rw [ev_tr] at h
  cases x with
  | tmp i =>
    simp only [evT] at h
    cases hl : look T i with
    | none => rw [hl] at h; cases h
    | some ov =>
      rw [hl] at h
      obtain ⟨v', e, hv⟩ := r.2 i ov hl
      simp only [Option.join] at h
      subst h
      show VRel φ v (a.tmps.getD i undef)
      rw [Array.getD_eq_getD_getElem?, e]; exact hv
  | const c =>
    simp only [evT] at h
    split at h
    · cases h; exact .one (flat_rel ‹_›)
    · cases h
  | func f => simp only [evT] at h; cases h; exact .one (.cell (.func .nil .nil))
  | global g => simp [evT] at h
theorem EvL.rel {T : Tb} {φ : Emb} {a : Act} : ∀ {xs : List Operand} {vs : List Value}, EvL T xs vs → LR φ (tr T) a xs → FL (VRel φ) vs (xs.map a.eval)
  | [], [], _, _ => .nil
  | x :: xs, v :: vs, h, r => .cons (r x (by simp) v (by rw [ev_tr]; exact h.1)) (EvL.rel h.2 (r.sub fun x hx => by simp [hx]))
  | [], _ :: _, h, _ => h.elim
  | _ :: _, [], h, _ => h.elim
/-! ### what a call comes to -/
def CallSim (P : Program) (f : FuncId) (args : List Value) (h : Heap) (nx : Nat) (v : Value) (h' : Heap) (nx' : Nat) : Prop :=
  nx ≤ nx' ∧ ∀ B φ (args' : List Value) w, Rel B φ h nx w → FL (VRel φ) args args' →
    Calls P f ⟨args'⟩ w fun e w' => ∃ v' φ', e = .returned v' ∧ VRel φ' v v' ∧ Ext φ nx φ' ∧ Rel B φ' h' nx' w' ∧ Fr B w w'
def Aft (B : Nat) (φ : Emb) (nx : Nat) (w : World) (N : Nat) (T' : Tb) (h' : Heap) (nx' : Nat) (a' : Act) (w' : World) : Prop :=
  a'.defers = [] ∧ ∃ φ', Ext φ nx φ' ∧ Rel B φ' h' nx' w' ∧ Bnd φ' N T' a'.tmps ∧ Fr B w w'
theorem Aft.trans {B : Nat} {φ φ₁ : Emb} {nx nx₁ : Nat} {w w₁ : World} {N : Nat} {T' : Tb} {h' : Heap} {nx' : Nat} {a' : Act} {w' : World} (hφ : Ext φ nx φ₁) (hn : nx ≤ nx₁) (hw : Fr B w w₁) (h : Aft B φ₁ nx₁ w₁ N T' h' nx' a' w') : Aft B φ nx w N T' h' nx' a' w' :=
  let ⟨hd, φ', a, b, c, d⟩ := h; ⟨hd, φ', hφ.trans a hn, b, c, hw.trans d⟩
theorem put_defers (a : Act) (dst : Option Tmp) (v : Value) : (a.put dst v).defers = a.defers := by cases dst <;> rfl
/-! ### the operations of a region -/
def OJ (P : Program) (N : Nat) (ops : Array Oper) (l : List Oper) (T : Tb) (h : Heap) (nx : Nat) (K : Tb → Heap → Nat → Prop) : Prop :=
  ∀ i, ops.toList.drop i = l → ∃ T' h' nx', K T' h' nx' ∧ nx ≤ nx' ∧ ∀ B φ (a : Act) w (Q : Exit → Act → World → Prop), Rel B φ h nx w → Bnd φ N T a.tmps → a.defers = [] →
    (∀ a' w', Aft B φ nx w N T' h' nx' a' w' → Q .normal a' w') → wpOps P ops Q (List.range' i l.length) a w
theorem OJ.done {N : Nat} {ops : Array Oper} {T : Tb} {h : Heap} {nx : Nat} {K : Tb → Heap → Nat → Prop} (T₂ : Tb) (s : Sub T₂ T) (H : K T₂ h nx) : OJ P N ops [] T h nx K :=
  fun i _ => ⟨T₂, h, nx, H, Nat.le_refl _, fun B φ a w Q r tr hd hq => hq a w ⟨hd, φ, .refl _ _, r, tr.sub s, Fr.refl _ _⟩⟩
/-- one operation, as the model takes it -/
def OpR (P : Program) (o : Oper) (T : Tb) (h : Heap) (nx : Nat) (ov : Option Value) (h' : Heap) (nx' : Nat) : Prop :=
  nx ≤ nx' ∧ ∀ B φ N (a : Act) w (next : Act → World → Prop) (Q : Exit → Act → World → Prop), Rel B φ h nx w → Bnd φ N T a.tmps →
    (∀ v' w' φ', VO φ' ov v' → Ext φ nx φ' → Rel B φ' h' nx' w' → Fr B w w' → next (a.put o.dst v') w') → o.wp P a w next Q
theorem OpR.of_sim {o : Oper} {T : Tb} {h : Heap} {nx : Nat} {ov : Option Value} {h' : Heap} {nx' : Nat} (S : Sim P o (tr T) h nx ov h' nx') : OpR P o T h nx ov h' nx' := by
  refine ⟨S.1, fun B φ N a w next Q r tr hk => ?_⟩
  obtain ⟨nt, w', φ', e, hr, hle, r', fr⟩ := S.2 B φ N a w r (tr.lr _)
  unfold Oper.wp
  rw [e]
  cases ov with
  | some v =>
    cases nt with
    | value v' => exact hk v' w' φ' hr hle r' fr
    | _ => exact hr.elim
  | none =>
    cases nt with
    | skip => exact hk undef w' φ' rfl hle r' fr
    | _ => exact hr.elim
theorem OpR.call {o : Oper} {T : Tb} {h : Heap} {nx : Nat} {v : Value} {h' : Heap} {nx' : Nat} {c : Call} {x : Operand} {f : FuncId} {first caps args : List Value}
    (ho : o.op = .call c) (hc : c.callee = .value x) (hx : evT T x = some (.func (.func f) ⟨first⟩ ⟨caps⟩)) (ha : EvL T c.args.toList args)
    (hen : ∀ (as : Array Value) w, (callFunc f as).run P w = .ok (.enter f as) w) (S : CallSim P f (first ++ (args ++ caps)) h nx v h' nx') : OpR P o T h nx (some v) h' nx' := by
  refine ⟨S.1, fun B φ N a w next Q r tr hk => ?_⟩
  have lr := tr.lr (o.op.operands.toList)
  have hr := lr x (by simp [ho, Op.operands, Call.operands, hc]) _ (by rw [ev_tr]; exact hx)
  generalize hy : a.eval x = y at hr
  cases hr with
  | one hr => cases hr with
    | cell hr => cases hr with
      | @func f0 fs fs' cs cs' hfs hcs =>
        unfold Oper.wp
        have e : (execOp a.eval o).run P w = .ok (.enter f ⟨fs' ++ (c.args.toList.map a.eval ++ cs')⟩) w := by
          have : ((⟨fs'⟩ : Array Value) ++ c.args.map a.eval ++ (⟨cs'⟩ : Array Value)) = ⟨fs' ++ (c.args.toList.map a.eval ++ cs')⟩ := by apply Array.ext'; simp
          simp only [execOp, ho, resolve, hc, hy, Deferred.ofValue, Sem.run_bind, Sem.run_pure, Result.andThen_ok, invoke, this, hen]
        rw [e]
        show Calls P f _ w _
        refine (S.2 B φ _ w r ((hfs.mono fun _ _ h => .one (.cell h.cell)).append ((ha.rel (lr.sub (by intro x hx; simp [ho, Op.operands, Call.operands, hc] at hx ⊢; simp [hx]))).append (hcs.mono fun _ _ h => .one (.cell h.cell))))).mono ?_
        rintro e w' ⟨v', φ', rfl, hv, hle, r', fr⟩
        exact hk v' w' φ' hv hle r' fr
def wantB (og : Option Value) (want : Bool) : Bool := match og with | some (.bool b) => b == want | _ => false
def noAny (og : Option Value) : Bool := match og with | some (.chan _) => false | _ => true
def WantP (og : Option Value) (want b : Bool) : Prop := wantB og want = b ∧ noAny og = true
def guardB (ops : Array Oper) (T : Tb) (o : Oper) (b : Bool) : Prop := match o.guard with
  | none => b = true
  | some (j, want) => ∃ d og, (ops[j]?).bind (·.dst) = some d ∧ look T d = some og ∧ WantP og want b
theorem guardB.eq {φ : Emb} {N : Nat} {ops : Array Oper} {T : Tb} {o : Oper} {b : Bool} {a : Act} (g : guardB ops T o b) (r : Bnd φ N T a.tmps) : Region.wanted o (yielded ops a.tmps) = b := by
  unfold guardB at g
  unfold Region.wanted yielded
  split at g
  · rename_i e; rw [e]; exact g.symm
  · rename_i j want e
    obtain ⟨d, og, h1, h2, h3, h4⟩ := g
    obtain ⟨v', hv, rv⟩ := r.2 d og h2
    rw [e]
    simp only [h1, Option.bind_some, hv]
    cases og with
    | none => cases rv; rw [← h3]; rfl
    | some v =>
      rw [← h3]
      cases rv with
      | one rv => cases rv with
        | cell rv => cases rv <;> first | rfl | (rename_i b; cases b <;> cases want <;> rfl) | (cases h4; done)
        | agg => rfl
      | tuple => rfl
theorem OJ.step {N : Nat} {ops : Array Oper} {o : Oper} {l : List Oper} {T : Tb} {h : Heap} {nx : Nat} {ov : Option Value} {h₁ : Heap} {nx₁ : Nat} {K : Tb → Heap → Nat → Prop}
    (g : guardB ops T o true) (S : OpR P o T h nx ov h₁ nx₁) (hd : dstOk N o.dst = true) (rest : OJ P N ops l (upd o.dst ov T) h₁ nx₁ K) : OJ P N ops (o :: l) T h nx K := by
  intro i hl
  have hoi : ops[i]? = some o := by
    have := congrArg (·[0]?) hl
    simpa using this
  have hl' : ops.toList.drop (i + 1) = l := by
    have := congrArg List.tail hl
    simpa using this
  obtain ⟨T', h', nx', H, hn, R⟩ := rest (i + 1) hl'
  refine ⟨T', h', nx', H, Nat.le_trans S.1 hn, fun B φ a w Q r tr hdf hq => ?_⟩
  simp only [List.length_cons, List.range'_succ, wpOps, hoi]
  rw [if_pos (g.eq tr)]
  left
  refine S.2 B φ N a w _ Q r tr fun v' w₁ φ₁ hv hle r₁ fr => ?_
  exact R B φ₁ _ w₁ Q r₁ ((tr.mono hle.le).put hd hv) (by rw [put_defers]; exact hdf) fun a' w' hA => hq a' w' (hA.trans hle S.1 fr)
theorem OJ.skip {N : Nat} {ops : Array Oper} {o : Oper} {l : List Oper} {T : Tb} {h : Heap} {nx : Nat} {K : Tb → Heap → Nat → Prop}
    (g : guardB ops T o false) (hd : dstOk N o.dst = true) (rest : OJ P N ops l (upd o.dst none T) h nx K) : OJ P N ops (o :: l) T h nx K := by
  intro i hl
  have hoi : ops[i]? = some o := by
    have := congrArg (·[0]?) hl
    simpa using this
  have hl' : ops.toList.drop (i + 1) = l := by
    have := congrArg List.tail hl
    simpa using this
  obtain ⟨T', h', nx', H, hn, R⟩ := rest (i + 1) hl'
  refine ⟨T', h', nx', H, hn, fun B φ a w Q r tr hdf hq => ?_⟩
  simp only [List.length_cons, List.range'_succ, wpOps, hoi]
  rw [if_neg (by rw [g.eq tr]; simp)]
  exact R B φ _ w Q r (tr.put hd rfl) (by rw [put_defers]; exact hdf) hq
/-! ### code -/
def LoopWp (P : Program) (c : Code) (Q : Exit → Act → World → Prop) (a : Act) (w : World) : Prop :=
  ∀ (b : Frame) (k : List Item) (cs : List Frame), ∃ e a' w', Q e a' w' ∧ Arrives P (lone (b.at a (.code c :: .inLoop c :: k)) cs w) b k cs e a' w'
theorem LoopWp.wp {c : Code} {Q : Exit → Act → World → Prop} {a : Act} {w : World} (h : LoopWp P c Q a w) : (Code.loop c).wp P Q a w :=
  fun b k cs => let ⟨e, a', w', q, r⟩ := h b k cs; ⟨e, a', w', q, .of_steps (.one step_loop) r⟩
theorem LoopWp.round {c : Code} {Q : Exit → Act → World → Prop} {a : Act} {w : World} (h : c.wp P (Exit.then (LoopWp P c Q) Q) a w) : LoopWp P c Q a w := by
  intro b k cs
  obtain ⟨e, a₁, w₁, hq, harr⟩ := h b (.inLoop c :: k) cs
  cases e with
  | normal =>
    obtain ⟨e₂, a₂, w₂, hq₂, harr₂⟩ := hq b k cs
    exact ⟨e₂, a₂, w₂, hq₂, .of_steps (Steps.trans harr (.one step_inLoop)) harr₂⟩
  | exit id => exact ⟨_, a₁, w₁, hq, .pass (x := .inLoop c) rfl (fun _ _ => .inl (by simp)) harr⟩
  | goto l => exact ⟨_, a₁, w₁, hq, .pass (x := .inLoop c) rfl (fun _ _ => .inl (by simp)) harr⟩
  | ret => exact ⟨_, a₁, w₁, hq, .pass (x := .inLoop c) rfl (fun _ _ => .inl (by simp)) harr⟩
  | panic ch => exact ⟨_, a₁, w₁, hq, .pass (x := .inLoop c) rfl (fun _ _ => .inl (by simp)) harr⟩
  | outgrown => exact ⟨_, a₁, w₁, hq, .pass (x := .inLoop c) rfl (fun _ _ => .inl (by simp)) harr⟩
/-- code, a loop's as it stands at the head of a round -/
def cwp (P : Program) : Code → (Exit → Act → World → Prop) → Act → World → Prop
  | .loop c => LoopWp P c
  | c => c.wp P
theorem cwp_wp {c : Code} {Q : Exit → Act → World → Prop} {a : Act} {w : World} (h : cwp P c Q a w) : c.wp P Q a w := by
  cases c <;> first | exact h | exact LoopWp.wp h
def CJ (P : Program) (N : Nat) (c : Code) (T : Tb) (h : Heap) (nx : Nat) (K : Ex → Tb → Heap → Nat → Prop) : Prop :=
  ∃ e T' h' nx', K e T' h' nx' ∧ nx ≤ nx' ∧ ∀ B φ (a : Act) w (Q : Exit → Act → World → Prop), Rel B φ h nx w → Bnd φ N T a.tmps → a.defers = [] →
    (∀ a' w', Aft B φ nx w N T' h' nx' a' w' → Q (conc e) a' w') → cwp P c Q a w
theorem CJ.mono {N : Nat} {c : Code} {T : Tb} {h : Heap} {nx : Nat} {K K' : Ex → Tb → Heap → Nat → Prop} (H : CJ P N c T h nx K) (hK : ∀ e T' h' nx', K e T' h' nx' → K' e T' h' nx') : CJ P N c T h nx K' :=
  let ⟨e, T', h', nx', k, r⟩ := H; ⟨e, T', h', nx', hK _ _ _ _ k, r⟩
theorem CJ.weaken {N : Nat} {c : Code} {T : Tb} {h : Heap} {nx : Nat} {K : Ex → Tb → Heap → Nat → Prop} (T₂ : Tb) (s : Sub T₂ T) (H : CJ P N c T₂ h nx K) : CJ P N c T h nx K :=
  let ⟨e, T', h', nx', k, hn, S⟩ := H; ⟨e, T', h', nx', k, hn, fun B φ a w Q r tr hd hq => S B φ a w Q r (tr.sub s) hd hq⟩
/-- code that goes on at once -/
theorem CJ.now {N : Nat} {c : Code} {T : Tb} {h : Heap} {nx : Nat} {K : Ex → Tb → Heap → Nat → Prop} (e : Ex) (T₂ : Tb) (s : Sub T₂ T) (H : K e T₂ h nx) (hc : ∀ (a : Act) w (Q : Exit → Act → World → Prop), Q (conc e) a w → cwp P c Q a w) : CJ P N c T h nx K :=
  ⟨e, T₂, h, nx, H, Nat.le_refl _, fun B φ a w Q r tr hd hq => hc a w Q (hq a w ⟨hd, φ, .refl _ _, r, tr.sub s, Fr.refl _ _⟩)⟩
theorem CJ.skip {N : Nat} {T : Tb} {h : Heap} {nx : Nat} {K : Ex → Tb → Heap → Nat → Prop} (T₂ : Tb) (s : Sub T₂ T) (H : K .nm T₂ h nx) : CJ P N .skip T h nx K := .now .nm T₂ s H fun a w Q hq => wp_skip hq
theorem CJ.exit {N : Nat} {id : Nat} {T : Tb} {h : Heap} {nx : Nat} {K : Ex → Tb → Heap → Nat → Prop} (T₂ : Tb) (s : Sub T₂ T) (H : K (.exit id) T₂ h nx) : CJ P N (.exit id) T h nx K := .now (.exit id) T₂ s H fun a w Q hq => wp_exit hq
theorem CJ.ret {N : Nat} {T : Tb} {h : Heap} {nx : Nat} {K : Ex → Tb → Heap → Nat → Prop} (T₂ : Tb) (s : Sub T₂ T) (H : K .ret T₂ h nx) : CJ P N .ret T h nx K := .now .ret T₂ s H fun a w Q hq => wp_ret hq
theorem CJ.region {N : Nat} {id : Nat} {ops : Array Oper} {T : Tb} {h : Heap} {nx : Nat} {K : Ex → Tb → Heap → Nat → Prop} (H : OJ P N ops ops.toList T h nx (K .nm)) : CJ P N (.region id ops false) T h nx K := by
  obtain ⟨T', h', nx', k, hn, S⟩ := H 0 (by simp)
  refine ⟨.nm, T', h', nx', k, hn, fun B φ a w Q r tr hd hq => wp_region ?_⟩
  have := S B φ a w Q r tr hd hq
  rwa [Array.length_toList, ← List.range_eq_range'] at this
def SeqK (P : Program) (N : Nat) (b : Code) (K : Ex → Tb → Heap → Nat → Prop) : Ex → Tb → Heap → Nat → Prop := fun e T h nx => match e with
  | .nm => CJ P N b T h nx K
  | e => K e T h nx
theorem CJ.seq {N : Nat} {x y : Code} {T : Tb} {h : Heap} {nx : Nat} {K : Ex → Tb → Heap → Nat → Prop} (H : CJ P N x T h nx (SeqK P N y K)) : CJ P N (.seq x y) T h nx K := by
  obtain ⟨e, T₁, h₁, nx₁, k, hn, S⟩ := H
  have other : ∀ e, e ≠ .nm → K e T₁ h₁ nx₁ → (∀ B φ (a : Act) w (Q : Exit → Act → World → Prop), Rel B φ h nx w → Bnd φ N T a.tmps → a.defers = [] →
    (∀ a' w', Aft B φ nx w N T₁ h₁ nx₁ a' w' → Q (conc e) a' w') → cwp P x Q a w) → CJ P N (.seq x y) T h nx K := fun e he k S =>
    ⟨e, T₁, h₁, nx₁, k, hn, fun B φ a w Q r tr hd hq => wp_seq (cwp_wp (S B φ a w _ r tr hd fun a' w' hA => by cases e <;> first | exact (he rfl).elim | exact hq a' w' hA))⟩
  cases e with
  | nm =>
    obtain ⟨e, T', h', nx', k, hn', S'⟩ := k
    refine ⟨e, T', h', nx', k, Nat.le_trans hn hn', fun B φ a w Q r tr hd hq => wp_seq (cwp_wp (S B φ a w _ r tr hd ?_))⟩
    rintro a' w' ⟨hd', φ', hle, r', tr', fr⟩
    exact cwp_wp (S' B φ' a' w' Q r' tr' hd' fun a'' w'' hA => hq a'' w'' (hA.trans hle hn fr))
  | exit id => exact other _ (by simp) k S
  | ret => exact other _ (by simp) k S
theorem CJ.branch {N : Nat} {c : Operand} {x y : Code} {T : Tb} {h : Heap} {nx : Nat} {K : Ex → Tb → Heap → Nat → Prop} {b : Bool} (hc : evT T c = some (.bool b)) (H1 : b = true → CJ P N x T h nx K) (H2 : b = false → CJ P N y T h nx K) : CJ P N (.cond c x y) T h nx K := by
  cases b with
  | true =>
    obtain ⟨e, T', h', nx', k, hn, S⟩ := H1 rfl
    exact ⟨e, T', h', nx', k, hn, fun B φ a w Q r tr hd hq => wp_cond_true (flat_eq rfl (tr.lr [c] c (by simp) _ (by rw [ev_tr]; exact hc))) (cwp_wp (S B φ a w Q r tr hd hq))⟩
  | false =>
    obtain ⟨e, T', h', nx', k, hn, S⟩ := H2 rfl
    exact ⟨e, T', h', nx', k, hn, fun B φ a w Q r tr hd hq => wp_cond_false (flat_eq rfl (tr.lr [c] c (by simp) _ (by rw [ev_tr]; exact hc))) (cwp_wp (S B φ a w Q r tr hd hq))⟩
def BlockK (id : Nat) (K : Ex → Tb → Heap → Nat → Prop) : Ex → Tb → Heap → Nat → Prop := fun e T h nx => match e with
  | .exit j => _root_.cond (Nat.beq j id) (K .nm T h nx) (K (.exit j) T h nx)
  | e => K e T h nx
theorem CJ.block {N : Nat} {id : Nat} {x : Code} {T : Tb} {h : Heap} {nx : Nat} {K : Ex → Tb → Heap → Nat → Prop} (H : CJ P N x T h nx (BlockK id K)) : CJ P N (.block id x) T h nx K := by
  obtain ⟨e, T', h', nx', k, hn, S⟩ := H
  cases e with
  | nm => exact ⟨.nm, T', h', nx', k, hn, fun B φ a w Q r tr hd hq => wp_block (cwp_wp (S B φ a w _ r tr hd hq))⟩
  | ret => exact ⟨.ret, T', h', nx', k, hn, fun B φ a w Q r tr hd hq => wp_block (cwp_wp (S B φ a w _ r tr hd hq))⟩
  | exit j =>
    replace k : _root_.cond (Nat.beq j id) (K .nm T' h' nx') (K (.exit j) T' h' nx') := k
    cases hj : Nat.beq j id with
    | true =>
      rw [hj] at k
      have hj := Nat.eq_of_beq_eq_true hj
      refine ⟨.nm, T', h', nx', k, hn, fun B φ a w Q r tr hd hq => wp_block (cwp_wp (S B φ a w _ r tr hd fun a' w' hA => ?_))⟩
      show Exit.inBlock id Q (.exit j) a' w'
      simp only [Exit.inBlock, hj, if_true]
      exact hq a' w' hA
    | false =>
      rw [hj] at k
      have hj : j ≠ id := fun e => by subst e; simp at hj
      refine ⟨.exit j, T', h', nx', k, hn, fun B φ a w Q r tr hd hq => wp_block (cwp_wp (S B φ a w _ r tr hd fun a' w' hA => ?_))⟩
      show Exit.inBlock id Q (.exit j) a' w'
      simp only [Exit.inBlock, hj, if_false]
      exact hq a' w' hA
def LoopK (P : Program) (N : Nat) (b : Code) (K : Ex → Tb → Heap → Nat → Prop) : Ex → Tb → Heap → Nat → Prop := fun e T h nx => match e with
  | .nm => CJ P N (.loop b) T h nx K
  | e => K e T h nx
theorem CJ.loop {N : Nat} {x : Code} {T : Tb} {h : Heap} {nx : Nat} {K : Ex → Tb → Heap → Nat → Prop} (H : CJ P N x T h nx (LoopK P N x K)) : CJ P N (.loop x) T h nx K := by
  obtain ⟨e, T₁, h₁, nx₁, k, hn, S⟩ := H
  have other : ∀ e, e ≠ .nm → K e T₁ h₁ nx₁ → (∀ B φ (a : Act) w (Q : Exit → Act → World → Prop), Rel B φ h nx w → Bnd φ N T a.tmps → a.defers = [] →
    (∀ a' w', Aft B φ nx w N T₁ h₁ nx₁ a' w' → Q (conc e) a' w') → cwp P x Q a w) → CJ P N (.loop x) T h nx K := fun e he k S =>
    ⟨e, T₁, h₁, nx₁, k, hn, fun B φ a w Q r tr hd hq => LoopWp.round (cwp_wp (S B φ a w _ r tr hd fun a' w' hA => by cases e <;> first | exact (he rfl).elim | exact hq a' w' hA))⟩
  cases e with
  | nm =>
    obtain ⟨e, T', h', nx', k, hn', S'⟩ := k
    refine ⟨e, T', h', nx', k, Nat.le_trans hn hn', fun B φ a w Q r tr hd hq => LoopWp.round (cwp_wp (S B φ a w _ r tr hd ?_))⟩
    rintro a' w' ⟨hd', φ', hle, r', tr', fr⟩
    exact S' B φ' a' w' Q r' tr' hd' fun a'' w'' hA => hq a'' w'' (hA.trans hle hn fr)
  | exit id => exact other _ (by simp) k S
  | ret => exact other _ (by simp) k S
/-- a loop by its rounds; X: what it carries from round to round -/
theorem CJ.loop_ind {X : Type} {N : Nat} {b : Code} {K : Ex → Tb → Heap → Nat → Prop} (f : Nat → X → Heap → Nat → Bool) (Tof : X → Tb) (zero : ∀ x h nx, f 0 x h nx = false)
    (step : ∀ n, (∀ x h nx, f n x h nx = true → CJ P N (.loop b) (Tof x) h nx K) → ∀ x h nx, f (n + 1) x h nx = true → CJ P N b (Tof x) h nx (LoopK P N b K)) (n : Nat) : ∀ x h nx, f n x h nx = true → CJ P N (.loop b) (Tof x) h nx K := by
  induction n with
  | zero => intro x h nx H; rw [zero] at H; cases H
  | succ n ih => intro x h nx H; exact .loop (step n ih x h nx H)
/-- a point where roads meet -/
def CutK {X : Type} (J : X → Heap → Nat → Bool) (Tof : X → Tb) (K : Ex → Tb → Heap → Nat → Prop) : Ex → Tb → Heap → Nat → Prop := fun e T h nx => match e with
  | .nm => ∃ x, T = Tof x ∧ J x h nx = true
  | e => K e T h nx
theorem CJ.cut {X : Type} {N : Nat} {c : Code} {T : Tb} {h : Heap} {nx : Nat} {K : Ex → Tb → Heap → Nat → Prop} (J : X → Heap → Nat → Bool) (Tof : X → Tb) (H : CJ P N c T h nx (CutK J Tof K)) (next : ∀ x h nx, J x h nx = true → K .nm (Tof x) h nx) : CJ P N c T h nx K :=
  H.mono fun e T' h' nx' k => by
    cases e with
    | nm => obtain ⟨x, rfl, hj⟩ := k; exact next x h' nx' hj
    | exit id => exact k
    | ret => exact k
end Go.AM

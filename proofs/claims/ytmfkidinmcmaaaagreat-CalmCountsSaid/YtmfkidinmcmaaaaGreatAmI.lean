/- H, part 2: a function as a whole: its arguments, its results. -/
import Derived.Test.YtmfkidinmcmaaaaGreatAmH
set_option linter.unusedVariables false
set_option linter.unusedSimpArgs false
namespace Go.AM
variable {P : Program}
def argT : Nat → List Value → Tb
  | _, [] => []
  | i, v :: vs => (i, some v) :: argT (i + 1) vs
theorem look_argT {j : Nat} {ov : Option Value} : ∀ {vs : List Value} {i : Nat}, look (argT i vs) j = some ov → ∃ n v, j = i + n ∧ vs[n]? = some v ∧ ov = some v
  | [], i, h => by cases h
  | v :: vs, i, h => by
    simp only [argT, look] at h
    cases e : Nat.beq i j with
    | true =>
      rw [e] at h; cases h
      exact ⟨0, v, (Nat.eq_of_beq_eq_true e).symm, rfl, rfl⟩
    | false =>
      rw [e] at h
      obtain ⟨n, u, h1, h2, h3⟩ := look_argT h
      exact ⟨n + 1, u, by omega, h2, h3⟩
theorem bnd_args {φ : Emb} {N : Nat} {vs vs' : List Value} (f : FL (VRel φ) vs vs') (hN : vs.length ≤ N) : Bnd φ N (argT 0 vs) ((⟨vs'⟩ : Array Value) ++ Array.replicate (N - vs'.length) undef) := by
  have hl := f.length
  refine ⟨by simp; omega, fun i ov hi => ?_⟩
  obtain ⟨n, v, h1, h2, h3⟩ := look_argT hi
  obtain ⟨v', h4, h5⟩ := f.get n v h2
  have hi' : i = n := by omega
  subst hi'
  have hlt : i < vs'.length := by
    rw [List.getElem?_eq_some_iff] at h4; exact h4.1
  refine ⟨v', ?_, by subst h3; exact h5⟩
  rw [Array.getElem?_append_left (by simpa using hlt)]
  simpa using h4
/-- what a load gives -/
def LoadV (P : Program) (ty : TypeId) (p : Value) (h : Heap) (v : Value) : Prop := ∀ B φ nx w p', Rel B φ h nx w → VRel φ p p' →
    ∃ A v', p' = .pointer (some A) ∧ (loadVar ty A).run P w = .ok v' w ∧ ARel φ v v'
theorem load_val {ty : TypeId} {p : Value} {h : Heap} {k : Value → Bool} (H : loadK P ty p h k = true) : ∃ v, k v = true ∧ LoadV P ty p h v := by
  unfold loadK at H
  split at H
  · rename_i b off
    split at H
    · rename_i n hag hsz
      obtain ⟨cs, esz, hc, hn, H⟩ := cellsK_true H
      refine ⟨_, H, fun B φ nx w p' r rp => ?_⟩
      obtain ⟨E, hb, rfl⟩ := ptr_inv rp
      obtain ⟨l', hl, hcell, hfl⟩ := r.load hb hc hn
      refine ⟨_, .agg ⟨l'⟩, rfl, ?_, .agg hfl⟩
      have := run_loadCells_list (P := P) w _ l' hcell
      rw [hl] at this
      simp [loadVar, run_isAggT hag, run_szT hsz, this]
    · rename_i n hag hsz
      obtain ⟨cs, esz, hc, hn, H⟩ := cellsK_true H
      split at H
      · rename_i v tl hseg
        refine ⟨_, H, fun B φ nx w p' r rp => ?_⟩
        obtain ⟨E, hb, rfl⟩ := ptr_inv rp
        obtain ⟨l', hl, hcell, hfl⟩ := r.load hb hc hn
        obtain ⟨v', hv', hr⟩ := hfl.get 0 v (by rw [hseg]; rfl)
        refine ⟨_, v', rfl, ?_, .cell hr⟩
        have := hcell 0 v' hv'
        simp only [add_plain, Nat.add_zero] at this
        simp [loadVar, run_isAggT hag, this]
      · cases H
    · cases H
  · cases H
def noTup (v : Value) : Bool := match v with | .tuple _ => false | _ => true
theorem arel_noTup {φ : Emb} {v v' : Value} (r : VRel φ v v') (h : noTup v = true) : ARel φ v v' := by
  cases r with
  | one r => exact r
  | tuple => cases h
/-- a function's results, by its bindings -/
def ResR (P : Program) (T : Tb) (h : Heap) : List ResultVar → List Value → Prop
  | [], [] => True
  | .tmp d :: rs, v :: vs => look T d = some (some v) ∧ noTup v = true ∧ ResR P T h rs vs
  | .cell d ty :: rs, v :: vs => (∃ p, look T d = some (some p) ∧ LoadV P ty p h v) ∧ ResR P T h rs vs
  | _, _ => False
theorem ResR.run {T : Tb} {h : Heap} : ∀ {rs : List ResultVar} {vs : List Value}, ResR P T h rs vs → ∀ B φ N nx w (a : Act), Rel B φ h nx w → Bnd φ N T a.tmps →
    ∃ vs', FL (ARel φ) vs vs' ∧ (rs.mapM fun r => (match r with
      | .tmp t => pure (a.tmps.getD t undef)
      | .cell c t => do loadVar t (← asAddr (a.tmps.getD c undef)) : Sem Value)).run P w = .ok vs' w
  | [], [], _, B, φ, N, nx, w, a, _, _ => ⟨[], .nil, rfl⟩
  | .tmp d :: rs, v :: vs, H, B, φ, N, nx, w, a, r, tr => by
    obtain ⟨hv, hn, H⟩ := H
    obtain ⟨v', e, rv⟩ := tr.2 d _ hv
    obtain ⟨vs', f, hm⟩ := ResR.run H B φ N nx w a r tr
    refine ⟨v' :: vs', .cons (arel_noTup rv hn) f, ?_⟩
    have e' : a.tmps.getD d undef = v' := by rw [Array.getD_eq_getD_getElem?, e]; rfl
    simp only [List.mapM_cons, Sem.run_bind, Sem.run_pure, Result.andThen_ok, hm, e']
  | .cell d ty :: rs, v :: vs, H, B, φ, N, nx, w, a, r, tr => by
    obtain ⟨⟨p, hp, S⟩, H⟩ := H
    obtain ⟨p', e, rp⟩ := tr.2 d _ hp
    obtain ⟨vs', f, hm⟩ := ResR.run H B φ N nx w a r tr
    obtain ⟨A, v', rfl, hl, rv⟩ := S B φ nx w p' r rp
    refine ⟨v' :: vs', .cons rv f, ?_⟩
    have e' : a.tmps.getD d undef = .pointer (some A) := by rw [Array.getD_eq_getD_getElem?, e]; rfl
    have e2 : (asAddr (.pointer (some A))).run P w = .ok A w := rfl
    simp only [List.mapM_cons, Sem.run_bind, Sem.run_pure, Result.andThen_ok, hm, e', e2, hl]
  | [], _ :: _, H, _, _, _, _, _, _, _, _ => H.elim
  | .tmp _ :: _, [], H, _, _, _, _, _, _, _, _ => H.elim
  | .cell _ _ :: _, [], H, _, _, _, _, _, _, _, _ => H.elim
abbrev KV := Value → Heap → Nat → Bool
def resV (vs : List Value) : Value := match vs with | [v] => v | vs => .tuple ⟨vs⟩
def RetK (P : Program) (rs : List ResultVar) (k : KV) : Ex → Tb → Heap → Nat → Prop := fun e T h nx =>
  (e = .nm ∨ e = .ret) ∧ ((∃ d v, rs = [.tmp d] ∧ look T d = some (some v) ∧ k v h nx = true) ∨ ∃ vs, ResR P T h rs vs ∧ k (resV vs) h nx = true)
theorem fn_rule {f : FuncId} {fn : Func} {c : Code} {args : List Value} {h : Heap} {nx : Nat} {k : KV} (hfn : P.funcs[f]? = some fn) (hb : fn.body = some c) (hlen : Nat.ble args.length fn.ntmps = true)
    (H : CJ P fn.ntmps c (argT 0 args) h nx (RetK P fn.results.toList k)) : ∃ v h' nx', k v h' nx' = true ∧ CallSim P f args h nx v h' nx' := by
  have hlen : args.length ≤ fn.ntmps := Nat.le_of_ble_eq_true hlen
  obtain ⟨e, T', h', nx', ⟨he, hr⟩, hn, S⟩ := H
  have fin : ∀ v, (∀ B φ w (a : Act), Rel B φ h' nx' w → Bnd φ fn.ntmps T' a.tmps → ∃ v', (results fn a.tmps).run P w = .ok v' w ∧ VRel φ v v') → CallSim P f args h nx v h' nx' := by
    intro v hv
    refine ⟨hn, fun B φ args' w r fa => ?_⟩
    refine calls_of_wp hfn hb ?_
    refine cwp_wp (S B φ _ w _ r ?_ rfl ?_)
    · exact bnd_args fa hlen
    · rintro a' w' ⟨hd, φ', hle, r', tr', fr⟩
      obtain ⟨v', hres, rv⟩ := hv B φ' w' a' r' tr'
      have hpost : bodyPost P fn (fun e w' => ∃ v' φ', e = .returned v' ∧ VRel φ' v v' ∧ Ext φ nx φ' ∧ Rel B φ' h' nx' w' ∧ Fr B w w') (conc e) a' w' := by
        rcases he with rfl | rfl <;> exact ⟨hd, _, hres, _, φ', rfl, rv, hle, r', fr⟩
      exact hpost
  rcases hr with ⟨d, v, hrs, hv, hk⟩ | ⟨vs, hvs, hk⟩
  · refine ⟨v, h', nx', hk, fin v fun B φ w a r tr => ?_⟩
    obtain ⟨v', e, rv⟩ := tr.2 d _ hv
    refine ⟨v', ?_, rv⟩
    have e' : a.tmps.getD d undef = v' := by rw [Array.getD_eq_getD_getElem?, e]; rfl
    unfold results
    rw [Sem.run_bind, Array.mapM_eq_mapM_toList, Sem.run_map, hrs]
    simp only [List.mapM_cons, List.mapM_nil, Sem.run_bind, Sem.run_pure, Result.andThen_ok, e']
    simp
  · refine ⟨resV vs, h', nx', hk, fin _ fun B φ w a r tr => ?_⟩
    obtain ⟨vs', fv, hm⟩ := hvs.run B φ _ nx' w a r tr
    have hres : (results fn a.tmps).run P w = .ok (if h : (⟨vs'⟩ : Array Value).size = 1 then (⟨vs'⟩ : Array Value)[0] else .tuple ⟨vs'⟩) w := by
      unfold results
      rw [Sem.run_bind, Array.mapM_eq_mapM_toList, Sem.run_map]
      erw [hm]
      simp
    refine ⟨_, hres, ?_⟩
    unfold resV
    split
    · cases fv with
      | cons h1 h2 => cases h2; exact .one h1
    · rename_i hne
      have : ¬ (⟨vs'⟩ : Array Value).size = 1 := by
        intro h1
        have hl := fv.length
        have : vs.length = 1 := by rw [hl]; exact h1
        cases vs with
        | nil => simp at this
        | cons v vs =>
          have : vs = [] := List.eq_nil_of_length_eq_zero (by simpa using this)
          subst this
          exact hne v rfl
      rw [dif_neg this]
      exact .tuple fv
theorem empty_rel (w : World) : Rel w.heap.size (fun _ => none) .e 0 w :=
  ⟨fun _ _ h => (by cases h), fun _ _ _ _ h => (by cases h), fun _ _ _ _ h => (by cases h), fun _ _ _ _ h => (by cases h), Nat.le_refl _⟩
end Go.AM

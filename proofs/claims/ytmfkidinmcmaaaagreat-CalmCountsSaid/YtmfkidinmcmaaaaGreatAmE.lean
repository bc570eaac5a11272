/- H, part 7: the rule of a region that draws its order. -/
import Derived.Test.YtmfkidinmcmaaaaGreatAmD
set_option linter.unusedVariables false
set_option linter.unusedSimpArgs false
namespace Go.AM
variable {P : Program}
/-- what is recorded of a region's run -/
structure Rec where
  out : Nat → Option Value
  es : List Nat
  G : Nat → Heap
  X : Nat → Nat
  fb : Nat → Option Nat
def TOk (ops : Array Oper) (R : Rec) (T₀ : Tb) (i : Nat) (Ti : Tb) : Prop := ∀ t ov, look Ti t = some ov →
  (∃ (j : Nat) (oj : Oper), Bef ops j i ∧ ops[j]? = some oj ∧ oj.dst = some t ∧ R.out j = ov) ∨ (look T₀ t = some ov ∧ ∀ (j : Nat) (oj : Oper), ops[j]? = some oj → oj.dst = some t → Bef ops i j)
def TFin (ops : Array Oper) (R : Rec) (T₀ Tf : Tb) : Prop := ∀ t ov, look Tf t = some ov →
  (∃ (j : Nat) (oj : Oper), ops[j]? = some oj ∧ oj.dst = some t ∧ R.out j = ov) ∨ (look T₀ t = some ov ∧ ∀ (j : Nat) (oj : Oper), ops[j]? = some oj → oj.dst ≠ some t)
/-- in which stages an operation may come -/
def InStage (ops : Array Oper) (R : Rec) (i k : Nat) : Prop := k ≤ R.es.length ∧ ∀ j e, R.es[j]? = some e → (Bef ops e i → j < k) ∧ (Bef ops i e → k ≤ j)
def FreshR (P : Program) (o : Oper) (T : Tb) (h : Heap) (nx nb : Nat) (ov : Option Value) : Prop :=
  ∀ B φ N (a : Act) w (next : Act → World → Prop) (Q : Exit → Act → World → Prop), Rel B φ h nx w → φ nb = none → Bnd φ N T a.tmps →
    (∀ v' w' φ', VO φ' ov v' → φ.le φ' → (∀ b E, φ' b = some E → φ b = some E ∨ b = nb) → Rel B φ' h nx w' → Fr B w w' → next (a.put o.dst v') w') → o.wp P a w next Q
inductive Fact (P : Program) (N : Nat) (ops : Array Oper) (R : Rec) (T₀ : Tb) (nx : Nat) (i : Nat) (o : Oper) : Prop
  | skip (Ti : Tb) : TOk ops R T₀ i Ti → guardB ops Ti o false → R.out i = none → i ∉ R.es → R.fb i = none → Fact P N ops R T₀ nx i o
  | read (Ti : Tb) : TOk ops R T₀ i Ti → guardB ops Ti o true → i ∉ R.es → R.fb i = none →
      (∀ k, InStage ops R i k → OpR P o Ti (R.G k) (R.X k) (R.out i) (R.G k) (R.X k)) → Fact P N ops R T₀ nx i o
  | fresh (Ti : Tb) (nb : Nat) : TOk ops R T₀ i Ti → guardB ops Ti o true → i ∉ R.es → R.fb i = some nb → nx ≤ nb → (∀ j, R.fb j = some nb → j = i) →
      (∀ k, InStage ops R i k → FreshR P o Ti (R.G k) (R.X k) nb (R.out i)) → Fact P N ops R T₀ nx i o
  | eff (Ti : Tb) (j : Nat) (h₁ : Heap) (nx₁ : Nat) : TOk ops R T₀ i Ti → guardB ops Ti o true → R.es[j]? = some i → R.fb i = none →
      OpR P o Ti (R.G j) (R.X j) (R.out i) h₁ nx₁ → (∀ B φ w, Rel B φ h₁ nx₁ w → Rel B φ (R.G (j+1)) (R.X (j+1)) w) → nx ≤ R.X j →
      (∀ l nb, R.fb l = some nb → nb < R.X j ∨ nx₁ ≤ nb) → (∀ l, l < j → ∃ e, R.es[l]? = some e ∧ Bef ops e i) → (∀ l e, j < l → R.es[l]? = some e → Bef ops i e) → Fact P N ops R T₀ nx i o
structure Inv (ops : Array Oper) (N : Nat) (R : Rec) (T₀ : Tb) (nx B : Nat) (φ₀ : Emb) (w₀ : World) (listed : Array Bool) (a : Act) (w : World) (φ : Emb) (k : Nat) : Prop where
  size : listed.size = ops.size
  closed : Closed ops listed
  kle : k ≤ R.es.length
  effs : ∀ j e, R.es[j]? = some e → (Has listed e ↔ j < k)
  rel : Rel B φ (R.G k) (R.X k) w
  pend : ∀ i nb, R.fb i = some nb → ¬ Has listed i → φ nb = none
  defers : a.defers = []
  tsize : a.tmps.size = N
  done : ∀ (i : Nat) (o : Oper) (d : Nat), ops[i]? = some o → o.dst = some d → Has listed i → ∃ v', a.tmps[d]? = some v' ∧ VO φ (R.out i) v'
  rest : ∀ t ov, look T₀ t = some ov → (∀ (i : Nat) (o : Oper), ops[i]? = some o → o.dst = some t → ¬ Has listed i) → ∃ v', a.tmps[t]? = some v' ∧ VO φ ov v'
  ext : Ext φ₀ nx φ
  fr : Fr B w₀ w
variable {ops : Array Oper} {N : Nat} {R : Rec} {T₀ : Tb} {nx B : Nat} {φ₀ : Emb} {w₀ : World} {listed : Array Bool} {a : Act} {w : World} {φ : Emb} {k : Nat} {md : Region.Mode}
theorem Inv.bnd (I : Inv ops N R T₀ nx B φ₀ w₀ listed a w φ k) {i : Nat} {Ti : Tb} (ht : TOk ops R T₀ i Ti) (hr : i ∈ Region.ready md ops listed) : Bnd φ N Ti a.tmps := by
  refine ⟨I.tsize, fun t ov hl => ?_⟩
  rcases ht t ov hl with ⟨j, oj, hb, hj, hd, ho⟩ | ⟨h0, hw⟩
  · rw [← ho]; exact I.done j oj t hj hd (ready_bef I.closed hb hr)
  · refine I.rest t ov h0 fun j oj hj hd hh => ?_
    have := I.closed i j (hw j oj hj hd) hh
    obtain ⟨hn, o, ho, _⟩ := mem_ready.1 hr
    unfold Has at this
    have hlt : i < listed.size := by rw [I.size]; exact (Array.getElem?_eq_some_iff.1 ho).1
    simp [hlt] at hn this
    rw [hn] at this; cases this
theorem Inv.notHas (I : Inv ops N R T₀ nx B φ₀ w₀ listed a w φ k) {i : Nat} (hr : i ∈ Region.ready md ops listed) : ¬ Has listed i := by
  intro this
  obtain ⟨hn, o, ho, _⟩ := mem_ready.1 hr
  unfold Has at this
  have hlt : i < listed.size := by rw [I.size]; exact (Array.getElem?_eq_some_iff.1 ho).1
  simp [hlt] at hn this
  rw [hn] at this; cases this
theorem Inv.stage (I : Inv ops N R T₀ nx B φ₀ w₀ listed a w φ k) {i : Nat} (hr : i ∈ Region.ready md ops listed) : InStage ops R i k := by
  refine ⟨I.kle, fun j e he => ⟨fun hb => (I.effs j e he).1 (ready_bef I.closed hb hr), fun hb => ?_⟩⟩
  rcases Nat.lt_or_ge j k with h | h
  · exact (I.notHas hr (I.closed i e hb ((I.effs j e he).2 h))).elim
  · exact h
/-- one more operation is done -/
theorem Inv.next (I : Inv ops N R T₀ nx B φ₀ w₀ listed a w φ k) (hdist : ∀ (i j : Nat) (oi oj : Oper) (d : Nat), ops[i]? = some oi → ops[j]? = some oj → oi.dst = some d → oj.dst = some d → i = j) (hN : ∀ (i : Nat) (o : Oper), ops[i]? = some o → dstOk N o.dst = true)
    {i : Nat} {o : Oper} (hi : ops[i]? = some o) (hr : i ∈ Region.ready md ops listed) {v' : Value} {w' : World} {φ' : Emb} {k' : Nat} (hv : VO φ' (R.out i) v') (hle : φ.le φ') (hext : Ext φ₀ nx φ') (hfr : Fr B w w')
    (hk : k' ≤ R.es.length) (heffs : ∀ j e, R.es[j]? = some e → ((e = i ∨ Has listed e) ↔ j < k')) (hrel : Rel B φ' (R.G k') (R.X k') w') (hpend : ∀ l nb, R.fb l = some nb → l ≠ i → ¬ Has listed l → φ' nb = none) :
    Inv ops N R T₀ nx B φ₀ w₀ (listed.setIfInBounds i true) (a.put o.dst v') w' φ' k' := by
  have hlt : i < listed.size := by rw [I.size]; exact (Array.getElem?_eq_some_iff.1 hi).1
  have put : ∀ d, (o.dst = some d → ∃ u', (a.put o.dst v').tmps[d]? = some u' ∧ u' = v') ∧ (o.dst ≠ some d → (a.put o.dst v').tmps[d]? = a.tmps[d]?) := by
    intro d
    have hd := hN i o hi
    cases hod : o.dst with
    | none => exact ⟨fun h => (by cases h), fun _ => rfl⟩
    | some d' =>
      rw [hod] at hd
      have hd : d' < N := Nat.le_of_ble_eq_true (show Nat.ble (d' + 1) N = true from hd)
      constructor
      · intro h; cases h
        exact ⟨v', by show (a.tmps.setIfInBounds d v')[d]? = _; rw [Array.getElem?_setIfInBounds]; simp [I.tsize, hd], rfl⟩
      · intro h
        show (a.tmps.setIfInBounds d' v')[d]? = _
        rw [Array.getElem?_setIfInBounds, if_neg (fun e => h (by rw [e]))]
  refine ⟨by simpa using I.size, I.closed.set hlt hr, hk, fun j e he => ?_, hrel, fun l nb hl hn => ?_, by rw [put_defers]; exact I.defers, ?_, fun j oj d hj hd hh => ?_, fun t ov ht hw => ?_, hext, I.fr.trans hfr⟩
  · rw [Has.set hlt]; exact heffs j e he
  · rw [Has.set hlt] at hn
    exact hpend l nb hl (fun e => hn (.inl e)) fun h => hn (.inr h)
  · cases o.dst with
    | none => exact I.tsize
    | some d => show (a.tmps.setIfInBounds d v').size = N; simpa using I.tsize
  · rw [Has.set hlt] at hh
    by_cases e : j = i
    · subst e
      rw [hi] at hj; cases hj
      obtain ⟨u', h1, rfl⟩ := (put d).1 hd
      exact ⟨_, h1, hv⟩
    · obtain ⟨u', h1, h2⟩ := I.done j oj d hj hd (hh.resolve_left e)
      exact ⟨u', by rw [(put d).2 fun h => e (hdist j i oj o d hj hi hd h)]; exact h1, h2.mono hle⟩
  · have hne : o.dst ≠ some t := fun h => hw i o hi h ((Has.set hlt).2 (.inl rfl))
    obtain ⟨u', h1, h2⟩ := I.rest t ov ht fun j oj hj hd hh => hw j oj hj hd ((Has.set hlt).2 (.inr hh))
    exact ⟨u', by rw [(put t).2 hne]; exact h1, h2.mono hle⟩
theorem count_set {listed : Array Bool} {i n : Nat} (hi : i < listed.size) (hn : ¬ Has listed i) (hc : listed.toList.count false ≤ n + 1) : (listed.setIfInBounds i true).toList.count false ≤ n := by
  rw [Array.toList_setIfInBounds, List.count_set (by simpa using hi)]
  have : listed.toList[i]'(by simpa using hi) = false := by
    unfold Has at hn
    simpa [hi] using hn
  rw [this]
  show List.count false listed.toList - 1 + 0 ≤ n
  omega
theorem all_of_ready {l : List Nat} (hs : listed.size = ops.size) (hok : orderOk md ops [] l = true) (hall : ∀ i, i < ops.size → i ∈ l) (hr : Region.ready md ops listed = []) (i : Nat) (hi : i < ops.size) : Has listed i := by
  by_cases h : Has listed i
  · exact h
  · exact (ready_ne hs l [] hok (fun _ h => by cases h) ⟨i, hall i hi, h⟩ hr).elim
theorem Inv.fin (I : Inv ops N R T₀ nx B φ₀ w₀ listed a w φ k) (hes : ∀ (j e : Nat), R.es[j]? = some e → e < ops.size) {Tf : Tb} (hT : TFin ops R T₀ Tf) (hall : ∀ i, i < ops.size → Has listed i) : Aft B φ₀ nx w₀ N Tf (R.G R.es.length) (R.X R.es.length) a w := by
  have hk : k = R.es.length := by
    rcases Nat.lt_or_ge k R.es.length with h | h
    · have he : R.es[k]? = some R.es[k] := by simp [h]
      have := (I.effs k _ he).1 (hall _ (hes k _ he))
      omega
    · have := I.kle; omega
  subst hk
  refine ⟨I.defers, φ, I.ext, I.rel, ⟨I.tsize, fun t ov hl => ?_⟩, I.fr⟩
  rcases hT t ov hl with ⟨j, oj, hj, hd, ho⟩ | ⟨h0, hw⟩
  · rw [← ho]; exact I.done j oj t hj hd (hall j (Array.getElem?_eq_some_iff.1 hj).1)
  · exact I.rest t ov h0 fun j oj hj hd => (hw j oj hj hd).elim
theorem draw_any (facts : ∀ (i : Nat) (o : Oper), ops[i]? = some o → Fact P N ops R T₀ nx i o) (hdist : ∀ (i j : Nat) (oi oj : Oper) (d : Nat), ops[i]? = some oi → ops[j]? = some oj → oi.dst = some d → oj.dst = some d → i = j) (hN : ∀ (i : Nat) (o : Oper), ops[i]? = some o → dstOk N o.dst = true)
    {l : List Nat} (hok : orderOk md ops [] l = true) (hall : ∀ i, i < ops.size → i ∈ l) (hes : ∀ (j e : Nat), R.es[j]? = some e → e < ops.size) (hX : ∀ k, k ≤ R.es.length → nx ≤ R.X k) {Tf : Tb} (hT : TFin ops R T₀ Tf) {Q : Exit → Act → World → Prop}
    (hQ : ∀ a' w', Aft B φ₀ nx w₀ N Tf (R.G R.es.length) (R.X R.es.length) a' w' → Q .normal a' w') : ∀ (fuel : Nat) (listed : Array Bool) (a : Act) (w : World) (φ : Emb) (k : Nat), listed.toList.count false ≤ fuel → Inv ops N R T₀ nx B φ₀ w₀ listed a w φ k → wpAny P md ops Q fuel listed a w
  | 0, listed, a, w, φ, k, hc, I => by
    have hh : ∀ i, i < ops.size → Has listed i := by
      intro i hi
      by_cases h : Has listed i
      · exact h
      · have hlt : i < listed.size := by rw [I.size]; exact hi
        have : listed[i] = false := by unfold Has at h; simpa [hlt] using h
        have hm : false ∈ listed.toList := by rw [← this]; simp
        have := List.count_pos_iff.2 hm
        omega
    refine ⟨?_, hQ _ _ (I.fin hes hT hh)⟩
    cases hr : Region.ready md ops listed with
    | nil => rfl
    | cons i r =>
      have hi : i ∈ Region.ready md ops listed := by rw [hr]; simp
      obtain ⟨_, o, ho, _⟩ := mem_ready.1 hi
      exact (I.notHas hi (hh i (Array.getElem?_eq_some_iff.1 ho).1)).elim
  | fuel + 1, listed, a, w, φ, k, hc, I => by
    refine ⟨fun hr => hQ _ _ (I.fin hes hT (all_of_ready I.size hok hall hr)), fun i hi => ?_⟩
    obtain ⟨_, o, ho, _⟩ := mem_ready.1 hi
    have hlt : i < listed.size := by rw [I.size]; exact (Array.getElem?_eq_some_iff.1 ho).1
    have hc' := count_set hlt (I.notHas hi) hc
    have go := fun a' w' φ' k' => draw_any facts hdist hN hok hall hes hX hT hQ fuel (listed.setIfInBounds i true) a' w' φ' k' hc'
    have same : i ∉ R.es → ∀ (j e : Nat), R.es[j]? = some e → ((e = i ∨ Has listed e) ↔ j < k) := fun hni j e he => by
      have : e ≠ i := fun h => hni (by rw [← h]; exact List.mem_of_getElem? he)
      simp [this, I.effs j e he]
    unfold wpOp
    rw [ho]
    simp only
    cases facts i o ho with
    | skip Ti ht hg hout hni hf =>
      rw [if_neg (by rw [hg.eq (I.bnd ht hi)]; simp)]
      exact go _ _ φ k (I.next hdist hN ho hi (by rw [hout]; rfl) φ.le_refl I.ext (Fr.refl _ _) I.kle (same hni) I.rel fun l nb hl _ hn => I.pend l nb hl hn)
    | read Ti ht hg hni hf S =>
      rw [if_pos (hg.eq (I.bnd ht hi))]
      left
      refine (S k (I.stage hi)).2 B φ N a w _ Q I.rel (I.bnd ht hi) fun v' w' φ' hv hle r' fr => ?_
      refine go _ _ φ' k (I.next hdist hN ho hi hv hle.le (I.ext.trans hle (hX k I.kle)) fr I.kle (same hni) r' fun l nb hl _ hn => ?_)
      cases e : φ' nb with
      | none => rfl
      | some E =>
        have h1 := (r'.base nb E e).1
        rcases hle.new nb E e with h | h
        · rw [I.pend l nb hl hn] at h; cases h
        · omega
    | fresh Ti nb ht hg hni hf hnb huniq S =>
      rw [if_pos (hg.eq (I.bnd ht hi))]
      left
      refine S k (I.stage hi) B φ N a w _ Q I.rel (I.pend i nb hf (I.notHas hi)) (I.bnd ht hi) fun v' w' φ' hv hle hnew r' fr => ?_
      refine go _ _ φ' k (I.next hdist hN ho hi hv hle ⟨Emb.le_trans I.ext.le hle, fun b E hb => ?_⟩ fr I.kle (same hni) r' fun l nb' hl hli hn => ?_)
      · rcases hnew b E hb with h | rfl
        · exact I.ext.new b E h
        · exact .inr hnb
      · cases e : φ' nb' with
        | none => rfl
        | some E =>
          rcases hnew nb' E e with h | rfl
          · rw [I.pend l nb' hl hn] at h; cases h
          · exact (hli (huniq l hl)).elim
    | eff Ti j h₁ nx₁ ht hg hj hf S hgrow hnx hfb hlo hhi =>
      have hnot := I.notHas hi
      have hjk : k = j := by
        have h1 : ¬ j < k := fun h => hnot ((I.effs j i hj).2 h)
        rcases Nat.lt_or_ge k j with h | h
        · obtain ⟨e, he, hb⟩ := hlo k h
          have := (I.effs k e he).1 (ready_bef I.closed hb hi)
          omega
        · omega
      subst hjk
      have hkl : k < R.es.length := (List.getElem?_eq_some_iff.1 hj).1
      rw [if_pos (hg.eq (I.bnd ht hi))]
      left
      refine S.2 B φ N a w _ Q I.rel (I.bnd ht hi) fun v' w' φ' hv hle r' fr => ?_
      refine go _ _ φ' (k + 1) (I.next hdist hN ho hi hv hle.le (I.ext.trans hle hnx) fr hkl (fun j' e he => ?_) (hgrow B φ' w' r') fun l nb hl _ hn => ?_)
      · constructor
        · rintro (rfl | h)
          · rcases Nat.lt_trichotomy j' k with h | h | h
            · omega
            · omega
            · exact (hnot (ready_bef I.closed (hhi j' _ h he) hi)).elim
          · have := (I.effs j' e he).1 h; omega
        · intro h
          rcases Nat.lt_or_ge j' k with h' | h'
          · exact .inr ((I.effs j' e he).2 h')
          · have : j' = k := by omega
            subst this
            rw [hj] at he; cases he; exact .inl rfl
      · cases e : φ' nb with
        | none => rfl
        | some E =>
          have h1 := (r'.base nb E e).1
          rcases hle.new nb E e with h | h
          · rw [I.pend l nb hl hn] at h; cases h
          · rcases hfb l nb hl with h2 | h2 <;> omega
theorem not_has {n i : Nat} : ¬ Has (Array.replicate n false) i := by
  unfold Has
  rw [Array.getD_eq_getD_getElem?, Array.getElem?_replicate]
  split <;> simp
/-- A REGION THAT DRAWS ITS ORDER, by what is recorded of one run of it. -/
theorem CJ.draw {id : Nat} {h : Heap} {K : Ex → Tb → Heap → Nat → Prop} (R : Rec) (Tf : Tb) (lo : Region.Mode → List Nat) (facts : ∀ (i : Nat) (o : Oper), ops[i]? = some o → Fact P N ops R T₀ nx i o)
    (hdist : ∀ (i j : Nat) (oi oj : Oper) (d : Nat), ops[i]? = some oi → ops[j]? = some oj → oi.dst = some d → oj.dst = some d → i = j) (hN : ∀ (i : Nat) (o : Oper), ops[i]? = some o → dstOk N o.dst = true)
    (hok : ∀ md, orderOk md ops [] (lo md) = true ∧ ∀ i, i < ops.size → i ∈ lo md) (hes : ∀ (j e : Nat), R.es[j]? = some e → e < ops.size) (hX : ∀ k, k ≤ R.es.length → nx ≤ R.X k) (hfb : ∀ i nb, R.fb i = some nb → nx ≤ nb)
    (g0 : ∀ B φ w, Rel B φ h nx w → Rel B φ (R.G 0) (R.X 0) w) (hT : TFin ops R T₀ Tf) (H : K .nm Tf (R.G R.es.length) (R.X R.es.length)) : CJ P N (.region id ops true) T₀ h nx K := by
  refine ⟨.nm, Tf, _, _, H, hX _ (Nat.le_refl _), fun B φ a w Q r tr hd hq => wp_region_modes fun md => ?_⟩
  refine draw_any (φ₀ := φ) (w₀ := w) (B := B) facts hdist hN (hok md).1 (hok md).2 hes hX hT hq ops.size _ a _ φ 0 (by simp) ?_
  refine ⟨by simp, fun i j _ hj => (not_has hj).elim, Nat.zero_le _, fun j e he => ⟨fun hh => (not_has hh).elim, fun hh => by omega⟩, (g0 B φ w r).same rfl, fun i nb hf _ => ?_, hd, tr.1, fun i o d _ _ hh => (not_has hh).elim, fun t ov ht _ => tr.2 t ov ht, .refl _ _, ⟨rfl, rfl, rfl, Nat.le_refl _, fun _ _ => rfl⟩⟩
  cases e : φ nb with
  | none => rfl
  | some E => have := (r.base nb E e).1; have := hfb i nb hf; omega
end Go.AM

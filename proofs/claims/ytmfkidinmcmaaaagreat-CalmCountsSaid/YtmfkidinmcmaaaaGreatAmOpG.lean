/- AM, part 10: append, copy, clear, len, cap, min, max as the machine does them. -/
import Derived.Test.YtmfkidinmcmaaaaGreatAmOpF
set_option linter.unusedVariables false
set_option linter.unusedSimpArgs false
namespace Go.AM
variable {P : Program}
theorem exec_builtin {o : Oper} {ρ : Operand → Value} {c : Call} {b : Builtin} (ho : o.op = .call c) (hb : c.callee = .builtin b) (s : Array TypeId → TypeId → Array Value → Sem Value)
    (hs : ∀ tys ty cs args, builtin b tys ty cs args = (do pure (.value (← s tys ty args)))) {w w' : World} {v : Value} (h : (s c.argTypes o.type (c.args.map ρ)).run P w = .ok v w') :
    (execOp ρ o).run P w = .ok (.value v) w' := by
  obtain ⟨cs, e⟩ := exec_call (ρ := ρ) ho hb
  rw [e, hs]; simp [h]
theorem args2 {φ : Emb} {t : Tmps} {c : Call} {x y : Value} {a : Act} (h : FL (VRel φ) [x, y] (c.args.toList.map a.eval)) : ∃ x' y', c.args.map a.eval = #[x', y'] ∧ VRel φ x x' ∧ VRel φ y y' := by
  generalize hl : c.args.toList.map a.eval = l at h
  cases h with
  | cons h1 h => cases h with
    | cons h2 h => cases h with
      | nil => exact ⟨_, _, by apply Array.ext'; simpa using hl, h1, h2⟩
theorem args1 {φ : Emb} {t : Tmps} {c : Call} {x : Value} {a : Act} (h : FL (VRel φ) [x] (c.args.toList.map a.eval)) : ∃ x', c.args.map a.eval = #[x'] ∧ VRel φ x x' := by
  generalize hl : c.args.toList.map a.eval = l at h
  cases h with
  | cons h1 h => cases h with
    | nil => exact ⟨_, by apply Array.ext'; simpa using hl, h1⟩
theorem szT_of {e : TypeId} {i : TypeInfo} {n : Nat} (hi : P.info? e = some i) (h : szT P e = some n) : i.size = n := by simpa [szT, hi] using h
theorem bytesT_of {e : TypeId} {i : TypeInfo} {n : Nat} (hi : P.info? e = some i) (h : bytesT P e = some n) : i.bytes = n := by simpa [bytesT, hi] using h
theorem zeroCells_eq {v : Value} {z : List Value} (hcs : v.cells.toList = z) {n size : Nat} (hs : z.length = size) (h0 : size ≠ 0 ∨ n * size = 0) : (Builtin.zeroCells v.cells n).toList = rowOf z (n * size) := by
  have hvs : v.cells.size = size := by rw [← hs, ← hcs]; simp
  unfold Builtin.zeroCells
  rw [hvs]
  rw [← hcs, ← rowOf_eq v.cells (n * size) (by rw [hvs]; exact h0), hvs]
theorem argK_true {e xT : TypeId} {size bytes : Nat} {z : List Value} {x : Value} {h : Heap} {k : Nat → List Value → Bool} (hs : szT P e = some size) (hz : zeroT P e = some z) (h1 : 1 ≤ size) (H : argK P e xT size bytes z x h k = true) :
    ∃ n l, k n l = true ∧ ∀ {B : Nat} {φ : Emb} {nx : Nat} {w : World} {x' : Value}, Rel B φ h nx w → VRel φ x x' → ∃ l', FL (CRel φ) l l' ∧ Arg P e size bytes xT x' n l' w := by
  unfold argK at H
  split at H
  · rename_i kk hu
    split at H
    · rename_i n
      split at H
      · rename_i hc
        simp only [Bool.and_eq_true, Nat.ble_eq] at hc
        have hzs := Nat.eq_of_beq_eq_true hc.1.1
        rw [forceK_eq] at H
        obtain ⟨i, v, hi, hv, hf, hcs, hl⟩ := zeroT_some hz
        refine ⟨n, _, H, fun {B φ nx w x'} r rx => ⟨_, flatL_rel (rowOf_flat hl _ (.inl (by omega))), ?_⟩⟩
        have hx : x' = .int .i64 (.ofNat n) := flat_eq rfl rx
        exact .zeros kk i v hu hx hi hv hc.1.2 hc.2 (by rw [← hzs, ← hcs]; simp) (zeroCells_eq hcs hzs (.inl (by omega))).symm
      · cases H
    · cases H
  · rename_i e' hu
    obtain ⟨n, l, hk, S⟩ := srcK_true (P := P) H
    exact ⟨n, l, hk, fun r rx => let ⟨l', a, b⟩ := S r rx; ⟨l', a, .src _ hu (.inr ⟨e', rfl⟩) b⟩⟩
  · rename_i hu
    obtain ⟨n, l, hk, S⟩ := srcK_true (P := P) H
    exact ⟨n, l, hk, fun r rx => let ⟨l', a, b⟩ := S r rx; ⟨l', a, .src _ hu (.inl rfl) b⟩⟩
  · cases H
theorem nilslice_inv {φ : Emb} {n c : Nat} {v' : Value} (r : VRel φ (.slice none n c) v') : n = 0 ∧ c = 0 ∧ v' = .slice none 0 0 := by
  cases r with
  | one r => cases r with
    | cell r => cases r with
      | sliceNil => exact ⟨rfl, rfl, rfl⟩
theorem drew_heap (w : World) : w.drew.heap = w.heap := rfl
theorem re_new {φ : Emb} {all : List Value} {old' new' : List Value} {z : Value} {arr : Array Value} {size need newCap : Nat} (hf : FL (CRel φ) all (old' ++ new')) (hl : (old' ++ new').length = need * size) (hz : z.cells.size = size)
    (hc : need ≤ newCap) (ha : arr = old'.toArray ++ new'.toArray ++ Builtin.zeroCells z.cells (newCap - need)) :
    (∀ (j : Nat) (u : Value), all[j]? = some u → ∃ u', arr[j]? = some u' ∧ CRel φ u u') ∧ newCap * size ≤ arr.size := by
  have e : arr.toList = (old' ++ new') ++ (Builtin.zeroCells z.cells (newCap - need)).toList := by rw [ha]; simp
  constructor
  · intro j u hj
    obtain ⟨u', e1, hr⟩ := hf.get j u hj
    refine ⟨u', ?_, hr⟩
    have hjl : j < (old' ++ new').length := (List.getElem?_eq_some_iff.1 e1).1
    rw [← Array.getElem?_toList, e, List.getElem?_append_left hjl]; exact e1
  · have : arr.size = need * size + (newCap - need) * size := by
      rw [← Array.length_toList, e, List.length_append, hl]
      simp [Builtin.zeroCells, hz]
    rw [this, ← Nat.add_mul]
    exact Nat.mul_le_mul_right _ (by omega)
theorem sim_append {o : Oper} {c : Call} (ho : o.op = .call c) (hb : c.callee = .builtin .append) {t : Tmps} {h : Heap} {nx : Nat} {s x : Value} {sT xT : TypeId}
    (hargs : ∀ {φ : Emb} {a : Act}, LR φ t a o.op.operands.toList → FL (VRel φ) [s, x] (c.args.toList.map a.eval)) (htys : c.argTypes.toList = [sT, xT]) {k : K} (H : appendK P sT xT s x h nx k = true) :
    ∃ ov h' nx', k ov h' nx' = true ∧ Sim P o t h nx ov h' nx' := by
  have hty : c.argTypes = #[sT, xT] := by apply Array.ext'; simpa using htys
  unfold appendK at H
  split at H
  · rename_i e he
    obtain ⟨size, hs, H1⟩ := optK_true H
    obtain ⟨bytes, hby, H2⟩ := optK_true H1
    obtain ⟨z, hz, H3⟩ := optK_true H2
    clear H H1 H2
    obtain ⟨i, v, hi, hv, hf, hcs, hl⟩ := zeroT_some hz
    have hu := sliceT_some he
    have hsz := szT_of hi hs
    have hbt := bytesT_of hi hby
    split at H3
    · rename_i hs1
      simp only [Bool.and_eq_true, Nat.ble_eq] at hs1
      obtain ⟨hs1, hzs⟩ := hs1
      have hzs := Nat.eq_of_beq_eq_true hzs
      have hvs : v.cells.size = size := by rw [← hzs, ← hcs]; simp
      obtain ⟨n, new, H4, A⟩ := argK_true hs hz hs1 H3
      clear H3
      have run : ∀ {B : Nat} {φ : Emb} {a : Act} {w : World}, Rel B φ h nx w → LR φ t a o.op.operands.toList → ∃ s' x' new', VRel φ s s' ∧ FL (CRel φ) new new' ∧ Arg P e size bytes xT x' n new' w ∧
          ∀ v w', (Builtin.append_ #[sT, xT] o.type #[s', x']).run P w = .ok v w' → (execOp a.eval o).run P w = .ok (.value v) w' := by
        intro B φ a w r tr
        obtain ⟨s', x', ea, rs, rx⟩ := args2 (t := t) (hargs tr)
        obtain ⟨new', f, A⟩ := A r rx
        exact ⟨s', x', new', rs, f, A, fun v w' hr => exec_builtin ho hb Builtin.append_ (fun _ _ _ _ => rfl) (by rw [hty, ea]; exact hr)⟩
      split at H4
      · rename_i sl cc
        split at H4
        · rename_i h00
          simp only [Bool.and_eq_true] at h00
          obtain rfl := Nat.eq_of_beq_eq_true h00.1
          obtain rfl := Nat.eq_of_beq_eq_true h00.2
          split at H4
          · rename_i hn0
            obtain rfl := Nat.eq_of_beq_eq_true hn0
            refine ⟨_, _, _, H4, Sim.quiet fun B φ N a w r tr => ?_⟩
            obtain ⟨s', x', new', rs, f, A, run⟩ := run r tr
            obtain ⟨_, _, rfl⟩ := nilslice_inv rs
            refine ⟨_, run _ _ (by rw [run_append_in hu hi hv hsz hbt A none 0 0 (by omega)]; rfl), .one (.cell .sliceNil)⟩
          · rename_i hn0
            split at H4
            · rename_i hcond
              simp only [Bool.and_eq_true, Nat.ble_eq] at hcond
              have H5 := newK_true H4
              refine ⟨_, _, _, H5, Nat.le_succ _, fun B φ N a w r tr => ?_⟩
              obtain ⟨s', x', new', rs, f, A, run⟩ := run r tr
              obtain ⟨_, _, rfl⟩ := nilslice_inv rs
              have hn1 : 0 < n := by
                rcases Nat.eq_zero_or_pos n with h | h
                · subst h; simp at hn0
                · exact h
              obtain ⟨newCap, arr, g1, g2, g3⟩ := run_append_re (ty := o.type) hu hi hv hsz hbt A none 0 0 [] (by omega) hcond.1 (by simpa using hcond.2) (fun _ _ => by simp [Builtin.firstCells])
              simp only [Nat.zero_add] at g1 g2 g3
              obtain ⟨q1, q2⟩ := re_new (φ := φ) (all := new) (old' := []) (need := n) (by simpa using f) (by simpa using A.length) hvs g1 g2
              refine ⟨_, _, _, run _ _ g3, .one (.cell ?_), Ext.put _ r.fresh, (r.same (drew_heap w)).new size arr e q1, (Fr.refl _ _).drew.alloc r.bw _⟩
              have := CRel.slice (φ := φ.put nx ⟨w.drew.heap.size, 0, arr.size, size⟩) (b := nx) (o := 0) (sp := none) (n := n) (k := n) (k' := newCap) (Emb.put_same _ _ _) (by intro h; cases h) g1 (Nat.le_refl _) (by simpa using q2)
              simpa using this
            · cases H4
        · cases H4
      · rename_i b off sp sl cc
        rw [natK_eq] at H4
        split at H4
        · rename_i hin
          have hin : sl + n ≤ cc := by simpa using hin
          split at H4
          · rename_i hn0
            obtain rfl := Nat.eq_of_beq_eq_true hn0
            refine ⟨_, _, _, H4, Sim.quiet fun B φ N a w r tr => ?_⟩
            obtain ⟨s', x', new', rs, f, A, run⟩ := run r tr
            have hnl : new' = [] := List.eq_nil_of_length_eq_zero (by rw [A.length]; simp)
            subst hnl
            rcases slice_inv rs with ⟨E, c', hb, h1, h2, h3, h4, e1⟩ | ⟨rfl, rfl, a', e1⟩
            · subst e1
              refine ⟨_, run _ _ (by rw [run_append_in hu hi hv hsz hbt A _ sl c' (by omega)]; rfl), .one (.cell ?_)⟩
              exact .slice hb h1 h2 h3 h4
            · subst e1
              refine ⟨_, run _ _ (by rw [run_append_in hu hi hv hsz hbt A _ 0 0 (by omega)]; rfl), .one (.cell .sliceEnd)⟩
          · rename_i hn0
            rw [natK_eq] at H4
            obtain ⟨cs, esz, hc, hw1, hfit, H5⟩ := writeK_true H4
            refine ⟨_, _, _, H5, Nat.le_refl _, fun B φ N a w r tr => ?_⟩
            obtain ⟨s', x', new', rs, f, A, run⟩ := run r tr
            rcases slice_inv rs with ⟨E, c', hb, h1, h2, h3, h4, e1⟩ | ⟨rfl, rfl, a', e1⟩
            · subst e1
              obtain ⟨w', hrun, r', fr⟩ := r.write (P := P) hb hc hw1 hfit f
              refine ⟨_, w', φ, run (.slice (some ⟨E.c, off + E.δ, none⟩) (sl + n) c') w' ?_, .one (.cell ?_), Ext.refl _ _, r', fr⟩
              · rw [run_append_in hu hi hv hsz hbt A _ sl c' (by omega)]
                simp only [add_plain]
                rw [show off + E.δ + sl * size = off + sl * size + E.δ by omega, hrun]; rfl
              · exact .slice hb h1 h2 (by omega) h4
            · have : n = 0 := by omega
              subst this; simp at hn0
        · rename_i hin
          have hin : cc < sl + n := by
            rcases Nat.lt_or_ge cc (sl + n) with h | h
            · exact h
            · exact (hin (by simpa using h)).elim
          split at H4
          · rename_i hcond
            simp only [Bool.and_eq_true, Nat.ble_eq] at hcond
            obtain ⟨n0, old, H5, S⟩ := srcK_true (P := P) H4
            rw [appK_eq] at H5
            -- what stands in s
            have olds : ∀ {B : Nat} {φ : Emb} {w : World} {s' : Value} {A' : Option Addr} {c' : Nat}, Rel B φ h nx w → VRel φ (.slice (some ⟨b, off, sp⟩) sl cc) s' → s' = .slice A' sl c' →
                ∃ old', FL (CRel φ) old old' ∧ old'.length = sl * size ∧ ∀ w'' : World, w''.heap = w.heap → (Builtin.firstCells size sl (.slice A' sl c')).run P w'' = .ok old'.toArray w'' := by
              intro B φ w s' A' c' r rs e1
              obtain ⟨old', f, S⟩ := S r rs
              subst e1
              have hn0 : n0 = sl := by
                have := S.len w
                simp [Builtin.lenOf] at this
                exact this.symm
              subst hn0
              refine ⟨old', f, S.length, fun w'' hw => ?_⟩
              have := S.first n0 w'' (Nat.le_refl _) hw
              rwa [← S.length, List.take_length] at this
            -- a new block in the world
            have again : ∀ {B : Nat} {φ : Emb} {a : Act} {w : World} {h₁ : Heap}, Rel B φ h nx w → Rel B φ h₁ nx w → LR φ t a o.op.operands.toList → (∀ s', VRel φ (.slice (some ⟨b, off, sp⟩) sl cc) s' → a.eval (c.args.getD 0 (.func 0)) = s' → ∃ A' c', s' = .slice A' sl c' ∧ c' < sl + n) →
                ∃ r₁ w' φ', (execOp a.eval o).run P w = .ok r₁ w' ∧ NRel φ' (some (.slice (some ⟨nx, 0, none⟩) (sl + n) (sl + n))) r₁ ∧ Ext φ nx φ' ∧ Rel B φ' (Tr.set (some (.cells (old ++ new) size)) (path nx) h₁) (nx + 1) w' ∧ Fr B w w' := by
              intro B φ a w h₁ r r₁ tr hcap
              obtain ⟨s', x', ea, rs, rx⟩ := args2 (t := t) (hargs tr)
              obtain ⟨new', f, A⟩ := A r rx
              obtain ⟨A', c', e1, hc'⟩ := hcap s' rs (by
                have h0 : (c.args.map a.eval)[0]? = some s' := by rw [ea]; rfl
                rw [Array.getElem?_map] at h0
                cases hq : c.args[0]? with
                | none => rw [hq] at h0; cases h0
                | some q => rw [hq] at h0; simp at h0; rw [Array.getD_eq_getD_getElem?, hq]; exact h0)
              obtain ⟨old', fo, hlo, hold⟩ := olds r rs e1
              subst e1
              obtain ⟨newCap, arr, g1, g2, g3⟩ := run_append_re (ty := o.type) hu hi hv hsz hbt A A' sl c' old' hc' hcond.1 hcond.2 hold
              obtain ⟨q1, q2⟩ := re_new (φ := φ) (all := old ++ new) (need := sl + n) (fo.append f) (by rw [List.length_append, hlo, A.length, Nat.add_mul]) hvs g1 g2
              refine ⟨_, _, _, exec_builtin ho hb Builtin.append_ (fun _ _ _ _ => rfl) (by rw [hty, ea]; exact g3), .one (.cell ?_), Ext.put _ r.fresh, (r₁.same (drew_heap w)).new size arr e q1, (Fr.refl _ _).drew.alloc r.bw _⟩
              have := CRel.slice (φ := φ.put nx ⟨w.drew.heap.size, 0, arr.size, size⟩) (b := nx) (o := 0) (sp := none) (n := sl + n) (k := sl + n) (k' := newCap) (Emb.put_same _ _ _) (by intro h; cases h) g1 (Nat.le_refl _) (by simpa using q2)
              simpa using this
            split at H5
            · have H6 := newK_true H5
              refine ⟨_, _, _, H6, Nat.le_succ _, fun B φ N a w r tr => again r r tr fun s' rs _ => ?_⟩
              rcases slice_inv rs with ⟨E, c', hb, h1, h2, h3, h4, e1⟩ | ⟨rfl, rfl, a', e1⟩
              · exact ⟨_, c', e1, by rw [h1 rfl]; exact hin⟩
              · exact ⟨_, 0, e1, by omega⟩
            · rename_i hsp
              split at H5
              · rename_i cs esz hc
                split at H5
                · rename_i hes
                  have hes := Nat.eq_of_beq_eq_true hes
                  rw [Tr.setK_eq] at H5
                  have H6 := newK_true H5
                  refine ⟨_, _, _, H6, Nat.le_succ _, fun B φ N a w r tr => ?_⟩
                  obtain ⟨s', x', ea, rs, rx⟩ := args2 (t := t) (hargs tr)
                  have h0 : ∀ s'', a.eval (c.args.getD 0 (.func 0)) = s'' → s'' = s' := by
                    intro s'' e
                    have h0 : (c.args.map a.eval)[0]? = some s' := by rw [ea]; rfl
                    rw [Array.getElem?_map] at h0
                    cases hq : c.args[0]? with
                    | none => rw [hq] at h0; cases h0
                    | some q => rw [hq] at h0; simp at h0; rw [Array.getD_eq_getD_getElem?, hq] at e; rw [← e]; exact h0
                  rcases slice_inv rs with ⟨E, c', hbE, h1, h2, h3, h4, e1⟩ | ⟨rfl, rfl, a', e1⟩
                  · by_cases hroom : sl + n ≤ c'
                    · -- in its place
                      obtain ⟨new', f, A⟩ := A r rx
                      obtain ⟨old', fo, hlo, hold⟩ := olds r rs e1
                      subst e1
                      obtain ⟨hE, arr, tt, a3, a4, a5⟩ := r.cells b E cs esz hbE hc
                      have hEs : E.esz = size := by rw [hE, hes]
                      rw [hEs] at h4
                      have hmul : sl * size + n * size ≤ c' * size := by rw [← Nat.add_mul]; exact Nat.mul_le_mul_right _ hroom
                      have hone : ∀ v ∈ new', v.oneCell' = true := f.one'
                      have hst := run_storeCells_at P E.c (off + E.δ + sl * size) tt new' 0 arr w a3 (by rw [A.length]; omega) hone
                      simp only [Nat.add_zero] at hst
                      have hnl := A.length
                      refine ⟨_, _, _, exec_builtin ho hb Builtin.append_ (fun _ _ _ _ => rfl) (by
                        rw [hty, ea, run_append_in hu hi hv hsz hbt A _ sl c' hroom]
                        simp only [add_plain]
                        rw [hst]; rfl), .one (.cell ?_), Ext.put _ r.fresh, r.inplace hbE hc off (old ++ new) _ (by simp; omega) size ?_, (Fr.refl _ _).setRow (r.base b E hbE).2.1 _⟩
                      · have := CRel.slice (φ := φ.put nx ⟨E.c, off + E.δ, E.lim, size⟩) (b := nx) (o := 0) (sp := none) (n := sl + n) (k := sl + n) (k' := c') (Emb.put_same _ _ _) (by intro h; cases h) hroom (Nat.le_refl _) (by simpa using h4)
                        simpa using this
                      · intro j u hj
                        obtain ⟨u', e1, hr⟩ := (fo.append f).get j u hj
                        refine ⟨u', ?_, hr⟩
                        have hho := hold w rfl
                        rw [List.getElem?_toArray]
                        rcases Nat.lt_or_ge j old'.length with hj1 | hj1
                        · rw [List.getElem?_append_left hj1] at e1
                          rw [List.append_assoc, List.getElem?_append_left (by simp; omega), List.getElem?_take_of_lt (by omega)]
                          -- the elder cell
                          have hk : ∃ l', l' = old' := ⟨_, rfl⟩
                          rcases Nat.eq_zero_or_pos sl with h0 | h0
                          · subst h0; simp at hlo; rw [hlo] at hj1; simp at hj1
                          · have hcell : (loadCells ⟨E.c, off + E.δ, none⟩ (sl * size)).run P w = .ok old'.toArray w := by simpa [Builtin.firstCells] using hho
                            have hall : ∀ (j : Nat) (v : Value), ((arr.toList.drop (off + E.δ)).take (sl * size))[j]? = some v → w.cell? ((⟨E.c, off + E.δ, none⟩ : Addr).add j) = some v := by
                              intro j v hj
                              rw [add_plain, cell?_row a3]
                              rw [List.getElem?_take] at hj
                              split at hj
                              · simpa using hj
                              · cases hj
                            have hlen : ((arr.toList.drop (off + E.δ)).take (sl * size)).length = sl * size := by simp; omega
                            have h2 := run_loadCells_list (P := P) w ⟨E.c, off + E.δ, none⟩ _ hall
                            rw [hlen, hcell] at h2
                            have h3 : old' = (arr.toList.drop (off + E.δ)).take (sl * size) := by injection h2 with h2; simpa using congrArg Array.toList h2
                            rw [h3, List.getElem?_take, if_pos (by omega), List.getElem?_drop] at e1
                            rw [show j + (off + E.δ) = off + E.δ + j by omega]; exact e1
                        · rw [List.getElem?_append_right hj1] at e1
                          have hjn : j - old'.length < new'.length := (List.getElem?_eq_some_iff.1 e1).1
                          rw [List.append_assoc, List.getElem?_append_right (by simp; omega), List.getElem?_append_left (by simp; omega)]
                          simp only [List.length_take, Array.length_toList, Nat.min_eq_left (show off + E.δ + sl * size ≤ arr.size by omega)]
                          rw [show j + (off + E.δ) - (off + E.δ + sl * size) = j - old'.length by omega]; exact e1
                    · exact again r (r.kill b) tr fun s'' rs' e => ⟨_, c', (h0 s'' e).trans e1, by omega⟩
                  · exact again r (r.kill b) tr fun s'' rs' e => ⟨_, 0, (h0 s'' e).trans e1, by omega⟩
                · cases H5
              · cases H5
          · cases H4
      · cases H4
    · cases H3
  · cases H
end Go.AM

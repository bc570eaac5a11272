/- AM, part 11: copy, clear, len, cap, min, max, maps; and all operations together. -/
import Derived.Test.YtmfkidinmcmaaaaGreatAmOpG
set_option linter.unusedVariables false
set_option linter.unusedSimpArgs false
namespace Go.AM
variable {P : Program}
theorem sim_copy {o : Oper} {c : Call} (ho : o.op = .call c) (hb : c.callee = .builtin .copy) {t : Tmps} {h : Heap} {nx : Nat} {d x : Value} {dT xT : TypeId}
    (hargs : ∀ {φ : Emb} {a : Act}, LR φ t a o.op.operands.toList → FL (VRel φ) [d, x] (c.args.toList.map a.eval)) (htys : c.argTypes.toList = [dT, xT]) {k : K} (H : copyK P dT d x h nx k = true) :
    ∃ ov h' nx', k ov h' nx' = true ∧ Sim P o t h nx ov h' nx' := by
  have hty : c.argTypes = #[dT, xT] := by apply Array.ext'; simpa using htys
  unfold copyK at H
  split at H
  · rename_i e he
    obtain ⟨size, hs, H1⟩ := optK_true H
    clear H
    have hu := sliceT_some he
    split at H1
    · rename_i dl dc
      obtain ⟨n, l, H2, S⟩ := srcK_true (P := P) H1
      split at H2
      · rename_i h0
        obtain rfl := Nat.eq_of_beq_eq_true h0
        refine ⟨_, _, _, H2, Sim.quiet fun B φ N a w r tr => ?_⟩
        obtain ⟨d', x', ea, rd, rx⟩ := args2 (t := t) (hargs tr)
        obtain ⟨l', f, S⟩ := S r rx
        obtain ⟨_, _, rfl⟩ := nilslice_inv rd
        refine ⟨.int .i64 0, exec_builtin ho hb Builtin.copy_ (fun _ _ _ _ => rfl) ?_, .one (.cell (.int _ _))⟩
        rw [hty, ea]
        have h1 := S.first 0 w (Nat.zero_le _) rfl
        simp [Builtin.copy_, run_underlying hu, S.len, run_szT hs, h1, goInt]
      · cases H2
    · rename_i b off sp dl dc
      obtain ⟨n, l, H2, S⟩ := srcK_true (P := P) H1
      rw [natK_eq] at H2
      have hm : (cond (Nat.ble n dl) n dl) = min n dl := by
        cases e : Nat.ble n dl
        · have : ¬ n ≤ dl := fun h => by rw [Nat.ble_eq_true_of_le h] at e; cases e
          simp only [cond_false]; omega
        · have := Nat.le_of_ble_eq_true e
          simp only [cond_true]; omega
      rw [hm] at H2
      split at H2
      · rename_i h0
        have h0 := Nat.eq_of_beq_eq_true h0
        refine ⟨_, _, _, H2, Sim.quiet fun B φ N a w r tr => ?_⟩
        obtain ⟨d', x', ea, rd, rx⟩ := args2 (t := t) (hargs tr)
        obtain ⟨l', f, S⟩ := S r rx
        have h1 := S.first 0 w (Nat.zero_le _) rfl
        refine ⟨.int .i64 0, exec_builtin ho hb Builtin.copy_ (fun _ _ _ _ => rfl) ?_, .one (.cell (.int _ _))⟩
        rw [hty, ea]
        have key : ∀ A c', (Builtin.copy_ #[dT, xT] o.type #[.slice (some A) dl c', x']).run P w = .ok (.int .i64 0) w := by
          intro A c'
          have h0' : Nat.min n dl = 0 := h0
          simp [Builtin.copy_, run_underlying hu, S.len, run_szT hs, h0', h1, goInt, storeCells]
        rcases slice_inv rd with ⟨E, c', _, _, _, _, _, e1⟩ | ⟨rfl, _, a', e1⟩ <;> (subst e1; exact key _ _)
      · rename_i h0
        obtain ⟨htl, H3⟩ := takeK_true H2
        obtain ⟨cs, esz, hc, hw1, hfit, H4⟩ := writeK_true H3
        refine ⟨_, _, _, H4, Nat.le_refl _, fun B φ N a w r tr => ?_⟩
        obtain ⟨d', x', ea, rd, rx⟩ := args2 (t := t) (hargs tr)
        obtain ⟨l', f, S⟩ := S r rx
        have h1 := S.first (min n dl) w (Nat.min_le_left _ _) rfl
        rcases slice_inv rd with ⟨E, c', hbE, _, _, _, _, e1⟩ | ⟨h00, _, a', e1⟩
        · subst e1
          obtain ⟨w', hrun, r', fr⟩ := r.write (P := P) hbE hc hw1 hfit (f.take _)
          refine ⟨.value (.int .i64 (min n dl : Nat)), w', φ, exec_builtin ho hb Builtin.copy_ (fun _ _ _ _ => rfl) ?_, .one (.cell (.int _ _)), Ext.refl _ _, r', fr⟩
          rw [hty, ea]
          have h1' : (Builtin.firstCells size (Nat.min n dl) x').run P w = .ok (l'.take (min n dl * size)).toArray w := h1
          simp only [Builtin.copy_, List.getElem?_toArray, List.getElem?_cons_zero, List.getElem?_cons_succ, Sem.run_bind, run_underlying hu, Result.andThen_ok, S.len, run_szT hs, h1', hrun, Sem.run_pure]
          rfl
        · subst h00
          have : min n 0 = 0 := by simp
          rw [this] at h0; simp at h0
    · cases H1
  · cases H
theorem sim_clear {o : Oper} {c : Call} (ho : o.op = .call c) (hb : c.callee = .builtin .clear) {t : Tmps} {h : Heap} {nx : Nat} {b off n cc size : Nat} {sp : Option Nat} {ty e : TypeId}
    (hargs : ∀ {φ : Emb} {a : Act}, LR φ t a o.op.operands.toList → FL (VRel φ) [.slice (some ⟨b, off, sp⟩) n cc] (c.args.toList.map a.eval)) (htys : c.argTypes.toList = [ty]) (h0 : n ≠ 0)
    (he : sliceT P ty = some e) (hs : szT P e = some size) {z : List Value} (hz : zeroT P e = some z) (hzs : z.length = size) {k : Heap → Bool} (H : writeK h b off (rowOf z (n * size)) k = true) :
    ∃ h', k h' = true ∧ Sim P o t h nx (some (.tuple ⟨[]⟩)) h' nx := by
  have hty : c.argTypes = #[ty] := by apply Array.ext'; simpa using htys
  obtain ⟨cs, esz, hc, hw1, hfit, H4⟩ := writeK_true H
  obtain ⟨i, v, hi, hv, hf, hcs, hl⟩ := zeroT_some hz
  refine ⟨_, H4, Nat.le_refl _, fun B φ N a w r tr => ?_⟩
  obtain ⟨x', ea, rx⟩ := args1 (t := t) (hargs tr)
  have hs0 : size ≠ 0 := by
    intro e0; subst e0
    rw [rowOf_length] at hw1; simp at hw1
  rcases slice_inv rx with ⟨E, c', hbE, _, _, _, _, e1⟩ | ⟨h00, _, a', e1⟩
  · subst e1
    obtain ⟨w', hrun, r', fr⟩ := r.write (P := P) hbE hc hw1 hfit (flatL_rel (rowOf_flat hl _ (.inl (by omega))))
    refine ⟨.value (.tuple ⟨[]⟩), w', φ, exec_builtin ho hb Builtin.clear_ (fun _ _ _ _ => rfl) ?_, .tuple .nil, Ext.refl _ _, r', fr⟩
    rw [hty, ea]
    have hzc : (Builtin.zeroCells v.cells n).toList = rowOf z (n * size) := zeroCells_eq hcs hzs (.inl hs0)
    have hu := sliceT_some he
    obtain ⟨n, rfl⟩ : ∃ m, n = m + 1 := ⟨n - 1, by omega⟩
    simp [Builtin.clear_, run_underlying hu, run_zeroT hi hv, hzc, hrun]
  · exact (h0 h00).elim
theorem run_getObj {w : World} {r : Nat} {es : Array MapEntry} {ck : Nat} (h : w.heap[r]? = some (.map es ck)) : (getObj r).run P w = .ok (.map es ck) w := by
  simp [getObj, Sem.run, h]
theorem run_setObj {w : World} {r : Nat} {es : Array MapEntry} {ck : Nat} (h : w.heap[r]? = some (.map es ck)) (o : Obj) : (setObj r o).run P w = .ok () { w with heap := w.heap.setIfInBounds r o } := by
  simp [setObj, Sem.run, h]
theorem map_inv {φ : Emb} {b : Nat} {v' : Value} (r : VRel φ (.map (some b)) v') : ∃ E, φ b = some E ∧ v' = .map (some E.c) := by
  cases r with
  | one r => cases r with
    | cell r => cases r with
      | map e => exact ⟨_, e, rfl⟩
theorem sim_len {o : Oper} {c : Call} (ho : o.op = .call c) (hb : c.callee = .builtin .len) {t : Tmps} {h : Heap} {nx : Nat} {x : Value} {ty : TypeId}
    (hargs : ∀ {φ : Emb} {a : Act}, LR φ t a o.op.operands.toList → FL (VRel φ) [x] (c.args.toList.map a.eval)) (htys : c.argTypes.toList = [ty]) {k : Value → Bool} (H : lenK P ty x h k = true) :
    ∃ v, k v = true ∧ Sim P o t h nx (some v) h nx := by
  have hty : c.argTypes = #[ty] := by apply Array.ext'; simpa using htys
  have fin : ∀ n : Nat, (∀ B φ w x', Rel B φ h nx w → VRel φ x x' → (Builtin.len_ #[ty] o.type #[x']).run P w = .ok (.int .i64 (.ofNat n)) w) → Sim P o t h nx (some (.int .i64 (.ofNat n))) h nx := by
    intro n hr
    refine Sim.quiet fun B φ N a w r tr => ?_
    obtain ⟨x', ea, rx⟩ := args1 (t := t) (hargs tr)
    exact ⟨_, exec_builtin ho hb Builtin.len_ (fun _ _ _ _ => rfl) (by rw [hty, ea]; exact hr B φ w x' r rx), .one (.cell (.int _ _))⟩
  unfold lenK at H
  split at H
  · rename_i s hu
    rw [natK_eq] at H
    refine ⟨_, H, fin _ fun B φ w x' r rx => ?_⟩
    have : x' = .string s := flat_eq rfl rx
    subst this
    simp [Builtin.len_, run_underlying hu, goInt]
  · rename_i e n c hu
    refine ⟨_, H, fin _ fun B φ w x' r rx => ?_⟩
    cases rx with
    | one rx => cases rx with
      | cell rx => cases rx <;> simp [Builtin.len_, run_underlying hu, goInt]
  · rename_i n e hu
    refine ⟨_, H, fin _ fun B φ w x' r rx => ?_⟩
    simp [Builtin.len_, run_underlying hu, goInt]
  · rename_i kt et hu
    refine ⟨_, H, fin 0 fun B φ w x' r rx => ?_⟩
    have : x' = .map none := flat_eq rfl rx
    subst this
    simp [Builtin.len_, run_underlying hu, goInt]
  · rename_i kt et b hu
    split at H
    · rename_i es ck hm
      rw [natK_eq] at H
      refine ⟨_, H, fin _ fun B φ w x' r rx => ?_⟩
      obtain ⟨E, hbE, rfl⟩ := map_inv rx
      obtain ⟨es', he, hfl⟩ := r.maps b E es ck hbE hm
      have := hfl.length
      simp only [Array.length_toList] at this
      simp [Builtin.len_, run_underlying hu, goInt, run_getObj he, this]
    · cases H
  · cases H
theorem sim_cap {o : Oper} {c : Call} (ho : o.op = .call c) (hb : c.callee = .builtin .cap) {t : Tmps} {h : Heap} {nx : Nat} {x : Value} {ty : TypeId}
    (hargs : ∀ {φ : Emb} {a : Act}, LR φ t a o.op.operands.toList → FL (VRel φ) [x] (c.args.toList.map a.eval)) (htys : c.argTypes.toList = [ty]) {k : Value → Bool} (H : capK P ty x k = true) :
    ∃ v, k v = true ∧ Sim P o t h nx (some v) h nx := by
  have hty : c.argTypes = #[ty] := by apply Array.ext'; simpa using htys
  have fin : ∀ n : Nat, (∀ φ w x', VRel φ x x' → (Builtin.cap_ #[ty] o.type #[x']).run P w = .ok (.int .i64 (.ofNat n)) w) → Sim P o t h nx (some (.int .i64 (.ofNat n))) h nx := by
    intro n hr
    refine Sim.quiet fun B φ N a w r tr => ?_
    obtain ⟨x', ea, rx⟩ := args1 (t := t) (hargs tr)
    exact ⟨_, exec_builtin ho hb Builtin.cap_ (fun _ _ _ _ => rfl) (by rw [hty, ea]; exact hr φ w x' rx), .one (.cell (.int _ _))⟩
  unfold capK at H
  split at H
  · rename_i e n c hu
    split at H
    · rename_i hc
      simp only [Bool.and_eq_true] at hc
      refine ⟨_, H, fin 0 fun φ w x' rx => ?_⟩
      obtain ⟨_, _, rfl⟩ := nilslice_inv rx
      simp [Builtin.cap_, run_underlying hu, goInt]
    · cases H
  · rename_i e b off n c hu
    refine ⟨_, H, fin _ fun φ w x' rx => ?_⟩
    rcases slice_inv rx with ⟨E, c', hbE, h1, _, _, _, e1⟩ | ⟨_, rfl, a', e1⟩
    · subst e1
      simp [Builtin.cap_, run_underlying hu, goInt, h1 rfl]
    · subst e1
      simp [Builtin.cap_, run_underlying hu, goInt]
  · cases H
theorem flat_of1 {v : Value} (h : flat1 v = true) : flat v = true := by
  unfold flat
  split
  · simp [flat1] at h
  · exact h
theorem sim_minmax {o : Oper} {c : Call} {b : Builtin} (ho : o.op = .call c) (hb : c.callee = .builtin b) (s : Array TypeId → TypeId → Array Value → Sem Value) (hs : ∀ tys ty cs args, builtin b tys ty cs args = (do pure (.value (← s tys ty args))))
    (hty0 : ∀ tys ty args, s tys ty args = s tys 0 args) {t : Tmps} {h : Heap} {nx : Nat} {xs : List Value} (hf : flatL xs = true) (hargs : ∀ {φ : Emb} {a : Act}, LR φ t a o.op.operands.toList → FL (VRel φ) xs (c.args.toList.map a.eval))
    {k : Value → Bool} (H : pureK P (s ⟨c.argTypes.toList⟩ 0 ⟨xs⟩) k = true) : ∃ v, k v = true ∧ Sim P o t h nx (some v) h nx := by
  obtain ⟨z, hk, hz, hrun⟩ := pureK_true H
  refine ⟨z, hk, sim_pure hz fun φ N a w tr => exec_builtin ho hb s hs ?_⟩
  have h1 := hargs tr
  have h2 : c.args.map a.eval = ⟨xs⟩ := by
    apply Array.ext'
    simp only [Array.toList_map]
    generalize c.args.toList.map a.eval = l at h1
    clear H hrun hargs
    induction h1 with
    | nil => rfl
    | cons r _ ih =>
      simp only [flatL, Bool.and_eq_true] at hf
      rw [flat_eq (flat_of1 hf.1) r, ih hf.2]
  rw [h2, hty0]
  exact hrun w
/-! maps -/
theorem pureRun_bind {α β : Type} {x : Sem α} {f : α → Sem β} {b : β} (h : pureRun P (x >>= f) = some b) : ∃ a, pureRun P x = some a ∧ pureRun P (f a) = some b := by
  replace h : pureRun P (x.bind f) = some b := h
  induction x with
  | pure a => exact ⟨a, rfl, h⟩
  | program k ih => simp only [Sem.bind, pureRun] at h ⊢; exact ih P h
  | mark m k ih => simp only [Sem.bind, pureRun] at h ⊢; exact ih h
  | _ => simp [Sem.bind, pureRun] at h
def FRel (φ : Emb) : Option (Nat × Value) → Option (Nat × Value) → Prop
  | none, none => True
  | some (i, v), some (j, v') => i = j ∧ ARel φ v v'
  | _, _ => False
theorem findNow_rel {φ : Emb} {kind : TypeDesc} {k : Value} {es es' : List MapEntry} (h : FL (EntRel φ) es es') : ∀ i,
    (Instr.findNow kind k es i = none → Instr.findNow kind k es' i = none) ∧ (∀ r, Instr.findNow kind k es i = some r → ∃ r', Instr.findNow kind k es' i = some r' ∧ FRel φ r r') := by
  induction h with
  | nil => intro i; exact ⟨fun h => by simp [Instr.findNow] at h, fun r h => by simp [Instr.findNow] at h; subst h; exact ⟨none, rfl, trivial⟩⟩
  | cons hd _ ih =>
    intro i
    rename_i e e' es es' _
    simp only [Instr.findNow, ← hd.1]
    cases Instr.sameNow kind k e.key with
    | none => exact ⟨fun _ => rfl, fun r h => (by cases h)⟩
    | some b => cases b with
      | true => exact ⟨fun h => (by cases h), fun r h => (by cases h; exact ⟨_, rfl, rfl, hd.2.2.1⟩)⟩
      | false => exact ih (i + 1)
theorem findAsking_rel {φ : Emb} {kt : TypeId} {k : Value} {es es' : List MapEntry} (h : FL (EntRel φ) es es') : ∀ i r, pureRun P (Instr.findAsking kt k es i) = some r →
    ∃ r', (∀ w, (Instr.findAsking kt k es' i).run P w = .ok r' w) ∧ FRel φ r r' := by
  induction h with
  | nil => intro i r h; simp only [Instr.findAsking] at h; cases h; exact ⟨none, fun _ => rfl, trivial⟩
  | cons hd _ ih =>
    intro i r h
    rename_i e e' es es' _
    simp only [Instr.findAsking] at h
    obtain ⟨b, h1, h2⟩ := pureRun_bind h
    cases b with
    | true =>
      simp only [if_true] at h2
      cases h2
      refine ⟨some (i, e'.val), fun w => ?_, rfl, hd.2.2.1⟩
      simp [Instr.findAsking, ← hd.1, pureRun_run h1]
    | false =>
      simp only [Bool.false_eq_true, if_false] at h2
      obtain ⟨r', hr, f⟩ := ih _ _ h2
      refine ⟨r', fun w => ?_, f⟩
      simp [Instr.findAsking, ← hd.1, pureRun_run h1, hr]
theorem findKey_rel {φ : Emb} {kt : TypeId} {k : Value} {es es' : List MapEntry} (h : FL (EntRel φ) es es') {r : Option (Nat × Value)} (hr : pureRun P (Instr.findKey kt k es) = some r) :
    ∃ r', (∀ w, (Instr.findKey kt k es').run P w = .ok r' w) ∧ FRel φ r r' := by
  unfold Instr.findKey at hr
  obtain ⟨d, h1, h2⟩ := pureRun_bind hr
  cases hf : Instr.findNow d k es 0 with
  | none =>
    rw [hf] at h2
    obtain ⟨r', g, f⟩ := findAsking_rel h 0 r h2
    refine ⟨r', fun w => ?_, f⟩
    simp [Instr.findKey, pureRun_run h1, (findNow_rel h 0).1 hf, g]
  | some q =>
    rw [hf] at h2
    cases h2
    obtain ⟨r', g, f⟩ := (findNow_rel h 0).2 _ hf
    refine ⟨r', fun w => ?_, f⟩
    simp [Instr.findKey, pureRun_run h1, g]
theorem sim_lookup {o : Oper} {ty kt et : TypeId} {x i : Operand} {ok : Bool} (ho : o.op = .lookup ty x i ok) {t : Tmps} {h : Heap} {nx b ck : Nat} {key z : Value} {es : List MapEntry} (hx : ev t x = some (.map (some b))) (hi : ev t i = some key) (hk : flat key = true)
    (hu : P.underlying ty = some (.map kt et)) (hm : h.at b = some (.map es ck)) {u : Unit} (hck : pureRun P (Instr.checkKey es.isEmpty 10000 kt key) = some u) {r : Option (Nat × Value)} (hr : pureRun P (Instr.findKey kt key es) = some r)
    (hz : pureRun P (zeroValue et) = some z) {v : Value} (hv : (∃ j q, r = some (j, q) ∧ v = cond ok (.tuple ⟨[q, .bool true]⟩) q) ∨ (r = none ∧ flat z = true ∧ v = cond ok (.tuple ⟨[z, .bool false]⟩) z)) : Sim P o t h nx (some v) h nx := by
  refine Sim.quiet fun B φ N a w rr tr => ?_
  obtain ⟨E, hbE, e1⟩ := map_inv (ev_rel hx tr (by rw [ho]; simp [Op.operands]))
  have e2 : a.eval i = key := flat_eq hk (ev_rel hi tr (by rw [ho]; simp [Op.operands]))
  obtain ⟨es', he, hfl⟩ := rr.maps b E es ck hbE hm
  have hemp : es'.isEmpty = es.isEmpty := by
    have := hfl.length
    rw [Array.isEmpty_toList.symm]
    cases es <;> cases h : es'.toList <;> simp_all
  obtain ⟨r', g, f⟩ := findKey_rel hfl hr
  have hb : ∀ b : Bool, VRel φ (.bool b) (.bool b) := fun b => .one (.cell (.bool b))
  rcases hv with ⟨j, q, rfl, rfl⟩ | ⟨rfl, hzf, rfl⟩
  · cases r' with
    | none => exact f.elim
    | some p =>
      obtain ⟨j', q'⟩ := p
      obtain ⟨rfl, hq⟩ := f
      refine ⟨cond ok (.tuple ⟨[q', .bool true]⟩) q', exec_v (s := Instr.lookup ty (a.eval x) (a.eval i) ok) (by simp only [execOp, ho]) ?_, ?_⟩
      · rw [e1, e2]
        cases ok <;> simp [Instr.lookup, run_underlying hu, run_getObj he, hemp, pureRun_run hck, g]
      · cases ok
        · exact .one hq
        · exact .tuple (.cons hq (.cons (.cell (.bool _)) .nil))
  · cases r' with
    | some p => exact f.elim
    | none =>
      refine ⟨cond ok (.tuple ⟨[z, .bool false]⟩) z, exec_v (s := Instr.lookup ty (a.eval x) (a.eval i) ok) (by simp only [execOp, ho]) ?_, ?_⟩
      · rw [e1, e2]
        cases ok <;> simp [Instr.lookup, run_underlying hu, run_getObj he, hemp, pureRun_run hck, g, pureRun_run hz]
      · cases ok
        · exact .one (flat_rel hzf)
        · exact .tuple (.cons (flat_rel hzf) (.cons (.cell (.bool _)) .nil))
theorem FL.set {α β : Type} {R : α → β → Prop} {xs : List α} {ys : List β} (h : FL R xs ys) : ∀ {i : Nat} {a : α} {b : β}, R a b → FL R (xs.set i a) (ys.set i b) := by
  induction h with
  | nil => intro i a b _; exact .nil
  | cons h h' ih => intro i a b r; cases i with
    | zero => exact .cons r h'
    | succ i => exact .cons h (ih r)
theorem arel {φ : Emb} {v v' : Value} (h : VRel φ v v') {cs : List Value} (hc : cellsOf v = some cs) : ARel φ v v' := by
  cases h with
  | one h => exact h
  | tuple => cases hc
theorem sim_mapUpdate {o : Oper} {ty kt et : TypeId} {x i y : Operand} (ho : o.op = .mapUpdate ty x i y) {t : Tmps} {h : Heap} {nx b ck : Nat} {key v : Value} {es : List MapEntry} (hx : ev t x = some (.map (some b))) (hi : ev t i = some key) (hy : ev t y = some v) (hk : flat key = true)
    {cs : List Value} (hc : cellsOf v = some cs) (hu : P.underlying ty = some (.map kt et)) (hm : h.at b = some (.map es ck)) {u : Unit} (hck : pureRun P (Instr.checkKey false 10000 kt key) = some u) {r : Option (Nat × Value)} (hr : pureRun P (Instr.findKey kt key es) = some r)
    {es₁ : List MapEntry} {ck₁ : Nat}
    (hv : (∃ j q e nk, r = some (j, q) ∧ es[j]? = some e ∧ pureRun P (Instr.keyThatStays e.key key) = some nk ∧ flat nk = true ∧ es₁ = es.set j ⟨nk, v, e.born⟩ ∧ ck₁ = ck) ∨ (r = none ∧ es₁ = es ++ [⟨key, v, ck⟩] ∧ ck₁ = ck + 1)) :
    Sim P o t h nx none (Tr.set (some (.map es₁ ck₁)) (path b) h) nx := by
  refine ⟨Nat.le_refl _, fun B φ N a w rr tr => ?_⟩
  obtain ⟨E, hbE, e1⟩ := map_inv (ev_rel hx tr (by rw [ho]; simp [Op.operands]))
  have e2 : a.eval i = key := flat_eq hk (ev_rel hi tr (by rw [ho]; simp [Op.operands]))
  have rv := arel (ev_rel hy tr (by rw [ho]; simp [Op.operands])) hc
  obtain ⟨es', he, hfl⟩ := rr.maps b E es ck hbE hm
  obtain ⟨r', g, f⟩ := findKey_rel hfl hr
  have ex : execOp a.eval o = (do Instr.mapUpdate ty (a.eval x) (a.eval i) (a.eval y); pure .skip) := by simp only [execOp, ho]
  rcases hv with ⟨j, q, e, nk, rfl, hj, hnk, hnf, rfl, rfl⟩ | ⟨rfl, rfl, rfl⟩
  · cases r' with
    | none => exact f.elim
    | some p =>
      obtain ⟨j', q'⟩ := p
      obtain ⟨rfl, hq⟩ := f
      obtain ⟨e', hj', hee⟩ := hfl.get _ _ hj
      have hj'' : es'[j]? = some e' := by simpa using hj'
      refine ⟨.skip, _, φ, ?_, trivial, Ext.refl _ _, rr.setMap hbE hm (es.set j ⟨nk, v, e.born⟩) _ (es'.modify j fun e => { e with key := nk, val := a.eval y }) ?_, (Fr.refl _ _).setObj (rr.base b E hbE).2.1 _⟩
      · rw [ex, e1, e2]
        simp [Instr.mapUpdate, run_underlying hu, run_getObj he, pureRun_run hck, g, hj'', ← hee.1, pureRun_run hnk, run_setObj he]
      · rw [Array.toList_modify]
        have : es'.toList.modify j (fun e => { e with key := nk, val := a.eval y }) = es'.toList.set j { e' with key := nk, val := a.eval y } := by
          apply List.ext_getElem?
          intro n
          rw [List.getElem?_modify, List.getElem?_set]
          by_cases h : j = n
          · subst h
            have hlt : j < es'.toList.length := (List.getElem?_eq_some_iff.1 hj').1
            rw [hj']; simp at hlt; simp [hlt]
          · simp [h]
        rw [this]
        exact hfl.set ⟨rfl, hnf, rv, hee.2.2.2⟩
  · cases r' with
    | some p => exact f.elim
    | none =>
      refine ⟨.skip, _, φ, ?_, trivial, Ext.refl _ _, rr.setMap hbE hm (es ++ [⟨key, v, ck⟩]) (ck + 1) (es'.push ⟨key, a.eval y, ck⟩) ?_, (Fr.refl _ _).setObj (rr.base b E hbE).2.1 _⟩
      · rw [ex, e1, e2]
        simp [Instr.mapUpdate, run_underlying hu, run_getObj he, pureRun_run hck, g, run_setObj he]
      · rw [Array.toList_push]
        exact hfl.append (.cons ⟨rfl, hk, rv, rfl⟩ .nil)
end Go.AM

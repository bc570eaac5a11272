/- AM, part 6: stores, addresses, pure operations, slice expressions. -/
import Derived.Test.YtmfkidinmcmaaaaGreatAmOpB
set_option linter.unusedVariables false
set_option linter.unusedSimpArgs false
namespace Go.AM
variable {P : Program}
theorem writeK_true {h : Heap} {b o : Nat} {vs : List Value} {k : Heap → Bool} (H : writeK h b o vs k = true) :
    ∃ cs esz, h.at b = some (.cells cs esz) ∧ 1 ≤ vs.length ∧ o + vs.length ≤ cs.length ∧ k (Tr.set (some (.cells (cs.take o ++ vs ++ cs.drop (o + vs.length)) esz)) (path b) h) = true := by
  unfold writeK at H
  split at H
  · rename_i cs esz v vs e
    obtain ⟨p, H⟩ := updK_true H
    rw [Tr.setK_eq] at H
    exact ⟨cs, esz, e, by simp, p, H⟩
  · cases H
theorem Rel.write {B : Nat} {φ : Emb} {h : Heap} {nx : Nat} {w : World} (r : Rel B φ h nx w) {b : Nat} {E : Ent} {cs : List Value} {esz : Nat} (hb : φ b = some E) (hc : h.at b = some (.cells cs esz))
    {o : Nat} {vs vs' : List Value} (h1 : 1 ≤ vs.length) (hn : o + vs.length ≤ cs.length) (hv : FL (CRel φ) vs vs') :
    ∃ w', (storeCells ⟨E.c, o + E.δ, none⟩ vs').run P w = .ok () w' ∧ Rel B φ (Tr.set (some (.cells (cs.take o ++ vs ++ cs.drop (o + vs.length)) esz)) (path b) h) nx w' ∧ Fr B w w' := by
  obtain ⟨_, arr, t, a3, a4, a5⟩ := r.cells b E cs esz hb hc
  have hlv := hv.length
  have hlt : o + E.δ + vs'.length ≤ arr.size := by
    have hlt : o + vs.length - 1 < cs.length := by omega
    obtain ⟨v', hv', _⟩ := a5 (o + vs.length - 1) cs[o + vs.length - 1] (by simp [hlt])
    have := (Array.getElem?_eq_some_iff.1 hv').1
    omega
  refine ⟨_, run_storeCells_at P E.c (o + E.δ) t vs' 0 arr w a3 (by omega) hv.one', ?_, (Fr.refl _ _).setRow (r.base b E hb).2.1 _⟩
  refine r.store hb hc _ _ (by simp; omega) fun i v hi => ?_
  simp only [Nat.add_zero]
  rcases Nat.lt_or_ge i o with h2 | h2
  · rw [List.append_assoc, List.getElem?_append_left (by simp; omega), List.getElem?_take_of_lt h2] at hi
    obtain ⟨v', e, hr⟩ := a5 i v hi
    refine ⟨v', ?_, hr⟩
    rw [List.getElem?_toArray, List.append_assoc, List.getElem?_append_left (by simp; omega), List.getElem?_take_of_lt (by omega)]
    simpa using e
  · rcases Nat.lt_or_ge i (o + vs.length) with h3 | h3
    · rw [List.append_assoc, List.getElem?_append_right (by simp; omega), List.getElem?_append_left (by simp; omega)] at hi
      simp only [List.length_take, Nat.min_eq_left (show o ≤ cs.length by omega)] at hi
      obtain ⟨v', e, hr⟩ := hv.get _ v hi
      refine ⟨v', ?_, hr⟩
      rw [List.getElem?_toArray, List.append_assoc, List.getElem?_append_right (by simp; omega), List.getElem?_append_left (by simp; omega)]
      simp only [List.length_take, Array.length_toList, Nat.min_eq_left (show o + E.δ ≤ arr.size by omega)]
      rw [show i + E.δ - (o + E.δ) = i - o by omega]; exact e
    · rw [List.getElem?_append_right (by simp; omega), List.getElem?_drop] at hi
      simp only [List.length_append, List.length_take, Nat.min_eq_left (show o ≤ cs.length by omega)] at hi
      rw [show o + vs.length + (i - (o + vs.length)) = i by omega] at hi
      obtain ⟨v', e, hr⟩ := a5 i v hi
      refine ⟨v', ?_, hr⟩
      rw [List.getElem?_toArray, List.getElem?_append_right (by simp; omega), List.getElem?_drop]
      simp only [List.length_append, List.length_take, Array.length_toList, Nat.min_eq_left (show o + E.δ ≤ arr.size by omega)]
      rw [show o + E.δ + vs'.length + (i + E.δ - (o + E.δ + vs'.length)) = i + E.δ by omega]
      simpa using e
theorem sim_store {o : Oper} {ty : TypeId} {x y : Operand} (ho : o.op = .store ty x y) {t : Tmps} {h : Heap} {nx : Nat} {p v : Value} (hx : ev t x = some p) (hy : ev t y = some v) {k : Heap → Bool} (H : storeK P ty p v h k = true) :
    ∃ h', k h' = true ∧ Sim P o t h nx none h' nx := by
  unfold storeK at H
  split at H
  · rename_i b off vs n hvs hsz
    split at H
    · rename_i hbeq
      have hn := Nat.eq_of_beq_eq_true hbeq
      obtain ⟨cs, esz, hc, h1, hfit, H⟩ := writeK_true H
      refine ⟨_, H, Nat.le_refl _, fun B φ N a w r tr => ?_⟩
      obtain ⟨E, hb, e⟩ := ptr_inv (ev_rel hx tr (by rw [ho]; simp [Op.operands]))
      have hv := cells_rel (ev_rel hy tr (by rw [ho]; simp [Op.operands])) hvs
      obtain ⟨w', hrun, r', fr⟩ := r.write (P := P) hb hc h1 hfit hv
      refine ⟨.skip, w', φ, ?_, trivial, Ext.refl _ _, r', fr⟩
      have hl := hv.length
      simp only [Array.length_toList] at hl
      simp [execOp, ho, Instr.storeAt, e, Instr.sureAddr, storeVar, run_szT hsz, hn, hl, hrun]
    · cases H
  · cases H
theorem sim_nilCheck {o : Oper} {x : Operand} (ho : o.op = .nilCheck x) {t : Tmps} {h : Heap} {nx : Nat} {v : Value} (hx : ev t x = some v) (hv : (∃ a, v = .pointer (some a)) ∨ ∃ f c d, v = .func (.func f) c d) :
    Sim P o t h nx (some v) h nx := by
  refine Sim.quiet fun B φ N a w r tr => ⟨a.eval x, ?_, ev_rel hx tr (by rw [ho]; simp [Op.operands])⟩
  have hr := ev_rel hx tr (by rw [ho]; simp [Op.operands])
  generalize hy : a.eval x = y at hr
  rcases hv with ⟨q, rfl⟩ | ⟨f, c, d, rfl⟩
  · cases hr with
    | one hr => cases hr with
      | cell hr => cases hr with
        | ptr _ => simp [execOp, ho, hy]
  · cases hr with
    | one hr => cases hr with
      | cell hr => cases hr with
        | func _ _ => simp [execOp, ho, hy]
theorem pureK_true {e : Sem Value} {k : Value → Bool} (H : pureK P e k = true) : ∃ v, k v = true ∧ flat v = true ∧ ∀ w, e.run P w = .ok v w := by
  unfold pureK at H
  obtain ⟨v, e1, H⟩ := optK_true H
  split at H
  · rename_i hf
    rw [valK_eq] at H
    exact ⟨v, H, hf, pureRun_run e1⟩
  · cases H
theorem sim_pure {o : Oper} {t : Tmps} {h : Heap} {nx : Nat} {v : Value} (hf : flat v = true) (H : ∀ φ (N : Nat) (a : Act) w, LR φ t a o.op.operands.toList → (execOp a.eval o).run P w = .ok (.value v) w) : Sim P o t h nx (some v) h nx :=
  Sim.quiet fun B φ N a w r tr => ⟨v, H φ N a w tr, .one (flat_rel hf)⟩
theorem equal_nil {t : TypeId} {d : TypeDesc} (hu : P.underlying t = some d) {x y : Value} {b : Bool} (w : World)
    (h : match d, x, y with
      | .pointer _, .pointer (some _), .pointer none | .pointer _, .pointer none, .pointer (some _) | .slice _, .slice (some _) _ _, .slice none _ _ | .slice _, .slice none _ _, .slice (some _) _ _
      | .map _ _, .map (some _), .map none | .map _ _, .map none, .map (some _) | .func _ _ _, .func _ _ _, .nilFunc | .func _ _ _, .nilFunc, .func _ _ _ => b = false
      | _, _, _ => False) : (Op.equal t x y).run P w = .ok b w := by
  show (Op.equalIn (9999 + 1) t x y).run P w = _
  rw [Op.equalIn]
  simp only [Sem.run_bind, run_underlying hu, Result.andThen_ok]
  split at h <;> first | (subst h; rfl) | exact h.elim
theorem run_eqNil {ty : TypeId} {xo yo : Operand} {u v u' v' : Value} {b : Bool} {φ : Emb} (h : eqNil P ty u v = some b) (r1 : VRel φ u u') (r2 : VRel φ v v') (w : World) :
    (eqGuard .eql ty xo yo u' v').run P w = .ok () w ∧ (eqGuard .neq ty xo yo u' v').run P w = .ok () w ∧ (Op.equal ty u' v').run P w = .ok b w ∧
      binOp .eql ty u' v' = (do pure (.bool (← Op.equal ty u' v'))) ∧ binOp .neq ty u' v' = (do pure (.bool (!(← Op.equal ty u' v')))) := by
  unfold eqNil at h
  split at h <;> first | cases h | skip
  all_goals (
    rename_i hu
    cases r1 with
    | one r1 => cases r1 with
      | cell r1 => cases r2 with
        | one r2 => cases r2 with
          | cell r2 => cases r1 <;> cases r2 <;> exact ⟨rfl, rfl, equal_nil hu w rfl, rfl, rfl⟩)
theorem sim_binOp {o : Oper} {op : BinOp} {ty ty' : TypeId} {x y : Operand} (ho : o.op = .binOp op ty x y ty') {t : Tmps} {h : Heap} {nx : Nat} {u v : Value} (hx : ev t x = some u) (hy : ev t y = some v) {k : Value → Bool}
    (H : binK P op ty x y u v k = true) : ∃ z, k z = true ∧ Sim P o t h nx (some z) h nx := by
  have he : ∀ a : Act, execOp a.eval o = (do pure (.value (← (do eqGuard op ty x y (a.eval x) (a.eval y); binOp op ty (a.eval x) (a.eval y))))) := fun a => by simp only [execOp, ho]
  unfold binK at H
  split at H
  · rename_i hf
    simp only [Bool.and_eq_true] at hf
    obtain ⟨z, hk, hz, hrun⟩ := pureK_true H
    refine ⟨z, hk, sim_pure hz fun φ N a w tr => exec_v (he a) ?_⟩
    rw [flat_eq hf.1 (ev_rel hx tr (by rw [ho]; simp [Op.operands])), flat_eq hf.2 (ev_rel hy tr (by rw [ho]; simp [Op.operands]))]
    exact hrun w
  · split at H
    · obtain ⟨b, hb, H⟩ := optK_true H
      exact ⟨_, H, sim_pure rfl fun _ _ a w tr => exec_v (he a) (by
        obtain ⟨g1, _, g2, g3, _⟩ := run_eqNil (P := P) (xo := x) (yo := y) hb (ev_rel hx tr (by rw [ho]; simp [Op.operands])) (ev_rel hy tr (by rw [ho]; simp [Op.operands])) w
        simp only [Sem.run_bind, g1, Result.andThen_ok, g3, g2, Sem.run_pure])⟩
    · obtain ⟨b, hb, H⟩ := optK_true H
      rw [boolK_eq] at H
      exact ⟨_, H, sim_pure rfl fun _ _ a w tr => exec_v (he a) (by
        obtain ⟨_, g1, g2, _, g3⟩ := run_eqNil (P := P) (xo := x) (yo := y) hb (ev_rel hx tr (by rw [ho]; simp [Op.operands])) (ev_rel hy tr (by rw [ho]; simp [Op.operands])) w
        simp only [Sem.run_bind, g1, Result.andThen_ok, g3, g2, Sem.run_pure])⟩
    · cases H
theorem sim_unOp {o : Oper} {op : UnOp} {ty : TypeId} {x : Operand} (ho : o.op = .unOp op ty x) {t : Tmps} {h : Heap} {nx : Nat} {u : Value} (hx : ev t x = some u) (hf : flat u = true) {k : Value → Bool}
    (H : pureK P (Op.unary op u) k = true) : ∃ z, k z = true ∧ Sim P o t h nx (some z) h nx := by
  obtain ⟨z, hk, hz, hrun⟩ := pureK_true H
  refine ⟨z, hk, sim_pure hz fun φ N a w tr => exec_v (s := Op.unary op (a.eval x)) (by simp only [execOp, ho]) ?_⟩
  rw [flat_eq hf (ev_rel hx tr (by rw [ho]; simp [Op.operands]))]
  exact hrun w
theorem sim_index {o : Oper} {ty : TypeId} {x i : Operand} (ho : o.op = .index ty x i) {t : Tmps} {h : Heap} {nx : Nat} {u v : Value} (hx : ev t x = some u) (hi : ev t i = some v) (hf : flat u = true) (hg : flat v = true) {k : Value → Bool}
    (H : pureK P (Instr.index ty u v) k = true) : ∃ z, k z = true ∧ Sim P o t h nx (some z) h nx := by
  obtain ⟨z, hk, hz, hrun⟩ := pureK_true H
  refine ⟨z, hk, sim_pure hz fun φ N a w tr => exec_v (s := Instr.index ty (a.eval x) (a.eval i)) (by simp only [execOp, ho]) ?_⟩
  rw [flat_eq hf (ev_rel hx tr (by rw [ho]; simp [Op.operands])), flat_eq hg (ev_rel hi tr (by rw [ho]; simp [Op.operands]))]
  exact hrun w
theorem fieldT_some {s : TypeId} {f : Nat} {q : Nat × TypeId} (h : fieldT P s f = some q) : ∃ fs fd, P.underlying s = some (.struct fs) ∧ fs[f]? = some fd ∧ q = (fd.offset, fd.type) := by
  unfold fieldT at h
  split at h
  · rename_i fs hu
    split at h
    · rename_i fd hf; cases h; exact ⟨fs, fd, hu, hf, rfl⟩
    · cases h
  · cases h
theorem sim_fieldAddr {o : Oper} {s : TypeId} {x : Operand} {f : Nat} (ho : o.op = .fieldAddr s x f) {t : Tmps} {h : Heap} {nx b off n : Nat} (hx : ev t x = some (.pointer (some ⟨b, off, none⟩))) {q : Nat × TypeId} (hq : fieldT P s f = some q)
    (hn : szT P q.2 = some n) (h0 : n ≠ 0) : Sim P o t h nx (some (.pointer (some ⟨b, off + q.1, none⟩))) h nx := by
  obtain ⟨fs, fd, hu, hf, rfl⟩ := fieldT_some hq
  refine Sim.quiet fun B φ N a w r tr => ?_
  obtain ⟨E, hb, e⟩ := ptr_inv (ev_rel hx tr (by rw [ho]; simp [Op.operands]))
  refine ⟨.pointer (some ⟨E.c, off + fd.offset + E.δ, none⟩), exec_v (s := Instr.fieldAt s (a.eval x) f) (by simp only [execOp, ho]) ?_, .one (.cell (.ptr hb))⟩
  simp only [Instr.fieldAt, Sem.run_bind, run_underlying hu, Result.andThen_ok, hf, e, Instr.sureAddr, Sem.run_pure, fieldPlace, run_szT hn, if_neg h0, add_plain]
  rw [show off + E.δ + fd.offset = off + fd.offset + E.δ by omega]
theorem sim_field {o : Oper} {s : TypeId} {x : Operand} {f : Nat} (ho : o.op = .field s x f) {t : Tmps} {h : Heap} {nx n : Nat} {cs : Array Value} (hx : ev t x = some (.agg cs)) {q : Nat × TypeId} (hq : fieldT P s f = some q)
    (hn : szT P q.2 = some n) {ag : Bool} (hag : isAggT P q.2 = some ag) {v : Value} (hv : (ag = true ∧ q.1 + n ≤ cs.toList.length ∧ v = .agg ⟨(cs.toList.drop q.1).take n⟩) ∨ (ag = false ∧ cs.toList[q.1]? = some v)) :
    Sim P o t h nx (some v) h nx := by
  obtain ⟨fs, fd, hu, hf, rfl⟩ := fieldT_some hq
  refine Sim.quiet fun B φ N a w r tr => ?_
  have hr := ev_rel hx tr (by rw [ho]; simp [Op.operands])
  generalize hy : a.eval x = y at hr
  cases hr with
  | one hr => cases hr with
    | cell hr => cases hr
    | agg hl =>
      rename_i cs cs'
      have he : execOp a.eval o = (do pure (.value (← Instr.field s (a.eval x) f))) := by simp only [execOp, ho]
      rcases hv with ⟨rfl, hle, rfl⟩ | ⟨rfl, hv⟩
      · refine ⟨.agg ⟨(cs'.drop fd.offset).take n⟩, exec_v he ?_, .one (.agg ((hl.drop _).take _))⟩
        simp [Instr.field, run_underlying hu, hf, hy, asAgg, part, run_isAggT hag, run_szT hn]
      · obtain ⟨v', e', hr⟩ := hl.get _ _ hv
        refine ⟨v', exec_v he ?_, .one (.cell hr)⟩
        simp [Instr.field, run_underlying hu, hf, hy, asAgg, part, run_isAggT hag, e']
theorem arrayT_some {t : TypeId} {q : Nat × Nat} (h : arrayT P t = some q) : ∃ e, P.underlying t = some (.array q.1 e) ∧ szT P e = some q.2 := by
  unfold arrayT at h
  split at h
  · rename_i n e hu
    split at h
    · rename_i s hs; cases h; exact ⟨e, hu, hs⟩
    · cases h
  · cases h
theorem slice_inv {φ : Emb} {b o n c : Nat} {sp : Option Nat} {v' : Value} (r : VRel φ (.slice (some ⟨b, o, sp⟩) n c) v') :
    (∃ E c', φ b = some E ∧ (sp = some 0 → c' = c) ∧ c ≤ c' ∧ n ≤ c ∧ o + E.δ + c' * E.esz ≤ E.lim ∧ v' = .slice (some ⟨E.c, o + E.δ, none⟩) n c') ∨ (n = 0 ∧ c = 0 ∧ ∃ a', v' = .slice (some a') 0 0) := by
  cases r with
  | one r => cases r with
    | cell r => cases r with
      | slice h1 h2 h3 h4 h5 => exact .inl ⟨_, _, h1, h2, h3, h4, h5, rfl⟩
      | sliceEnd => exact .inr ⟨rfl, rfl, _, rfl⟩
theorem sim_indexAddr_slice {o : Oper} {ty e : TypeId} {x i : Operand} (ho : o.op = .indexAddr ty x i) {t : Tmps} {h : Heap} {nx b off n c j size : Nat} {sp : Option Nat} {kk : IntKind} (hx : ev t x = some (.slice (some ⟨b, off, sp⟩) n c))
    (hi : ev t i = some (.int kk (.ofNat j))) (he : sliceT P ty = some e) (hs : szT P e = some size) (hj : j < n) : Sim P o t h nx (some (.pointer (some ⟨b, off + j * size, none⟩))) h nx := by
  refine Sim.quiet fun B φ N a w r tr => ?_
  have hiv : a.eval i = .int kk (.ofNat j) := flat_eq rfl (ev_rel hi tr (by rw [ho]; simp [Op.operands]))
  rcases slice_inv (ev_rel hx tr (by rw [ho]; simp [Op.operands])) with ⟨E, c', hb, h1, h2, h3, h4, e1⟩ | ⟨rfl, _⟩
  · refine ⟨.pointer (some ⟨E.c, off + j * size + E.δ, none⟩), exec_v (s := Instr.indexAt ty (a.eval x) (a.eval i)) (by simp only [execOp, ho]) ?_, .one (.cell (.ptr hb))⟩
    have hu := sliceT_some he
    simp only [Instr.indexAt, hiv, e1, asIntOf, Sem.run_bind, Sem.run_pure, Result.andThen_ok, run_underlying hu]
    have : (j : Int) < (n : Int) := by omega
    simp [this, add_plain, run_szT hs]
    omega
  · omega
theorem sim_indexAddr_array {o : Oper} {ty : TypeId} {x i : Operand} (ho : o.op = .indexAddr ty x i) {t : Tmps} {h : Heap} {nx b off j : Nat} {kk : IntKind} (hx : ev t x = some (.pointer (some ⟨b, off, none⟩)))
    (hi : ev t i = some (.int kk (.ofNat j))) {q : Nat × Nat} (hq : arrayT P ty = some q) (hj : j < q.1) : Sim P o t h nx (some (.pointer (some ⟨b, off + j * q.2, none⟩))) h nx := by
  obtain ⟨e, hu, hs⟩ := arrayT_some hq
  refine Sim.quiet fun B φ N a w r tr => ?_
  have hiv : a.eval i = .int kk (.ofNat j) := flat_eq rfl (ev_rel hi tr (by rw [ho]; simp [Op.operands]))
  obtain ⟨E, hb, e1⟩ := ptr_inv (ev_rel hx tr (by rw [ho]; simp [Op.operands]))
  refine ⟨.pointer (some ⟨E.c, off + j * q.2 + E.δ, none⟩), exec_v (s := Instr.indexAt ty (a.eval x) (a.eval i)) (by simp only [execOp, ho]) ?_, .one (.cell (.ptr hb))⟩
  simp only [Instr.indexAt, hiv, e1, asIntOf, Sem.run_bind, Sem.run_pure, Result.andThen_ok, run_underlying hu, Instr.sureAddr]
  have : (j : Int) < (q.1 : Int) := by omega
  simp [this, add_plain, run_szT hs]
  omega
theorem sim_extract {o : Oper} {x : Operand} {i : Nat} (ho : o.op = .extract x i) {t : Tmps} {h : Heap} {nx : Nat} {vs : Array Value} (hx : ev t x = some (.tuple vs)) {v : Value} (hv : vs.toList[i]? = some v) : Sim P o t h nx (some v) h nx := by
  refine Sim.quiet fun B φ N a w r tr => ?_
  have hr := ev_rel hx tr (by rw [ho]; simp [Op.operands])
  generalize hy : a.eval x = y at hr
  cases hr with
  | one hr => cases hr with
    | cell hr => cases hr
  | tuple hl =>
    obtain ⟨v', e', hr⟩ := hl.get _ _ hv
    refine ⟨v', exec_v (s := Instr.extract (a.eval x) i) (by simp only [execOp, ho]) ?_, .one hr⟩
    simp [Instr.extract, hy, e']
theorem ptrs_rel {φ : Emb} : ∀ {vs vs' : List Value}, aop.ptrs vs = true → FL (VRel φ) vs vs' → FL (PRel φ) vs vs'
  | [], _, _, .nil => .nil
  | v :: vs, _, h, .cons r rs => by
    simp only [aop.ptrs, List.all_cons, Bool.and_eq_true] at h
    refine .cons ?_ (ptrs_rel h.2 rs)
    have h1 := h.1
    split at h1
    · obtain ⟨E, hb, rfl⟩ := ptr_inv r; exact .ptr hb
    · cases h1
theorem sim_makeFunc {o : Oper} {f : FuncId} {first cap : Array Operand} (ho : o.op = .makeFunc (.func f) first cap) {t : Tmps} {h : Heap} {nx : Nat} {fs cs : List Value}
    (hfs : ∀ {φ : Emb} {a : Act}, LR φ t a o.op.operands.toList → FL (VRel φ) fs (first.toList.map a.eval)) (hc : ∀ {φ : Emb} {a : Act}, LR φ t a o.op.operands.toList → FL (VRel φ) cs (cap.toList.map a.eval))
    (hp1 : aop.ptrs fs = true) (hp : aop.ptrs cs = true) : Sim P o t h nx (some (.func (.func f) ⟨fs⟩ ⟨cs⟩)) h nx := by
  refine Sim.quiet fun B φ N a w r tr => ?_
  refine ⟨.func (.func f) ⟨first.toList.map a.eval⟩ ⟨cap.toList.map a.eval⟩, exec_v (s := Instr.makeFunc (.func f) (first.map a.eval) (cap.map a.eval)) (by simp only [execOp, ho]) ?_, .one (.cell (.func (ptrs_rel hp1 (hfs tr)) (ptrs_rel hp (hc tr))))⟩
  have e1 : first.map a.eval = ⟨first.toList.map a.eval⟩ := by apply Array.ext'; simp
  have e2 : cap.map a.eval = ⟨cap.toList.map a.eval⟩ := by apply Array.ext'; simp
  rw [e1, e2]
  rfl
theorem sim_makeMap {o : Oper} {ty : TypeId} (ho : o.op = .makeMap ty none) {t : Tmps} {h : Heap} {nx : Nat} : Sim P o t h nx (some (.map (some nx))) (Tr.set (some (.map [] 0)) (path nx) h) (nx + 1) := by
  refine ⟨Nat.le_succ _, fun B φ N a w r tr => ⟨.value (.map (some w.heap.size)), w.alloc (.map #[] 0), _, ?_, .one (.cell (.map (Emb.put_same _ _ _))), Ext.put _ r.fresh, r.newMap, (Fr.refl _ _).alloc r.bw _⟩⟩
  refine exec_v (s := Instr.makeMap ty none) (by simp [execOp, ho]) ?_
  simp [Instr.makeMap]
end Go.AM

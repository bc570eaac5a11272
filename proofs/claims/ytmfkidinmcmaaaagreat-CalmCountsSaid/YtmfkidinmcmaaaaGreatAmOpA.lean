/- AM, part 4: each operation of the abstract machine is one of the model's: the simple ones. -/
import Derived.Test.YtmfkidinmcmaaaaGreatAmDefs
set_option linter.unusedVariables false
namespace Go.AM
variable {P : Program}
def NRel (φ : Emb) : Option Value → Next → Prop
  | some v, .value v' => VRel φ v v'
  | none, .skip => True
  | _, _ => False
/-- what an operand comes to, on either side, of those that stand in a list -/
def LR (φ : Emb) (t : Tmps) (a : Act) (xs : List Operand) : Prop := ∀ x ∈ xs, ∀ v, ev t x = some v → VRel φ v (a.eval x)
theorem LR.sub {φ : Emb} {t : Tmps} {a : Act} {xs ys : List Operand} (h : LR φ t a ys) (hs : ∀ x ∈ xs, x ∈ ys) : LR φ t a xs := fun x hx v e => h x (hs x hx) v e
/-- what the abstract machine does at an operation is what the model does, from every world that is alike -/
def Sim (P : Program) (o : Oper) (t : Tmps) (h : Heap) (nx : Nat) (ov : Option Value) (h' : Heap) (nx' : Nat) : Prop :=
  nx ≤ nx' ∧ ∀ B φ (N : Nat) (a : Act) w, Rel B φ h nx w → LR φ t a o.op.operands.toList →
    ∃ r w' φ', (execOp a.eval o).run P w = .ok r w' ∧ NRel φ' ov r ∧ Ext φ nx φ' ∧ Rel B φ' h' nx' w' ∧ Fr B w w'
theorem Sim.quiet {o : Oper} {t : Tmps} {h : Heap} {nx : Nat} {v : Value}
    (H : ∀ B φ (N : Nat) (a : Act) w, Rel B φ h nx w → LR φ t a o.op.operands.toList → ∃ v', (execOp a.eval o).run P w = .ok (.value v') w ∧ VRel φ v v') : Sim P o t h nx (some v) h nx :=
  ⟨Nat.le_refl _, fun B φ N a w r tr => let ⟨v', e, hv⟩ := H B φ N a w r tr; ⟨.value v', w, φ, e, hv, Ext.refl _ _, r, Fr.refl _ _⟩⟩
theorem pureRun_run {α : Type} {e : Sem α} {x : α} (h : pureRun P e = some x) (w : World) : e.run P w = .ok x w := by
  induction e generalizing w with
  | pure a => simp [pureRun] at h; subst h; rfl
  | program k ih => simp only [pureRun] at h; simp only [Sem.run]; exact ih P h w
  | mark m k ih => simp only [pureRun] at h; simp only [Sem.run]; exact ih h w
  | _ => simp [pureRun] at h
theorem evK_true {t : Tmps} {x : Operand} {k : Value → Bool} (h : evK t x k = true) : ∃ v, ev t x = some v ∧ k v = true := by
  unfold evK at h
  cases e : ev t x with
  | none => rw [e] at h; cases h
  | some v => rw [e] at h; exact ⟨v, rfl, h⟩
theorem ev_rel {t : Tmps} {x : Operand} {v : Value} (h : ev t x = some v) {φ : Emb} {a : Act} {xs : List Operand} (r : LR φ t a xs) (hm : x ∈ xs) : VRel φ v (a.eval x) := r x hm v h
theorem TRel.lr {φ : Emb} {N : Nat} {t : Tmps} {a : Act} (r : TRel φ N t a.tmps) (xs : List Operand) : LR φ t a xs := by
  intro x _ v h
  cases x with
  | tmp i =>
    obtain ⟨v', e, hv⟩ := r.2.1 i v h
    show VRel φ v (a.tmps.getD i undef)
    rw [Array.getD_eq_getD_getElem?, e]; exact hv
  | const c =>
    simp only [ev] at h
    split at h
    · cases h; exact .one (flat_rel ‹_›)
    · cases h
  | func f => simp only [ev] at h; cases h; exact .one (.cell (.func .nil .nil))
  | global g => simp [ev] at h
theorem evLK_true {t : Tmps} {xs : List Operand} : ∀ {k : List Value → Bool}, evLK t xs k = true →
    ∃ vs, k vs = true ∧ ∀ {φ : Emb} {a : Act}, LR φ t a xs → FL (VRel φ) vs (xs.map a.eval) := by
  induction xs with
  | nil => intro k h; exact ⟨[], h, fun _ => .nil⟩
  | cons x xs ih =>
    intro k h
    obtain ⟨v, e, h⟩ := evK_true (show evK t x (fun v => evLK t xs fun vs => k (v :: vs)) = true from h)
    obtain ⟨vs, h, hr⟩ := ih h
    exact ⟨v :: vs, h, fun r => .cons (ev_rel e r (by simp)) (hr (r.sub fun x hx => by simp [hx]))⟩
theorem run_isAggT {t : TypeId} {b : Bool} (h : isAggT P t = some b) (w : World) : (isAgg t).run P w = .ok b w := by
  unfold isAggT at h
  unfold isAgg
  cases e : P.underlying t with
  | none => rw [e] at h; cases h
  | some d =>
    rw [e] at h
    simp only [Sem.run_bind, run_underlying e, Result.andThen_ok]
    cases d <;> (simp only [Option.some.injEq] at h; subst h; rfl)
theorem run_szT {t : TypeId} {n : Nat} (h : szT P t = some n) (w : World) : (sizeOf t).run P w = .ok n w := by
  unfold szT at h
  cases e : P.info? t with
  | none => rw [e] at h; cases h
  | some i =>
    rw [e] at h; cases h
    simp [sizeOf, typeInfo, e]
theorem zeroT_some {t : TypeId} {z : List Value} (h : zeroT P t = some z) : ∃ i v, P.info? t = some i ∧ i.zero = some v ∧ flat v = true ∧ v.cells.toList = z ∧ flatL z = true := by
  unfold zeroT at h
  cases e : P.info? t with
  | none => rw [e] at h; cases h
  | some i =>
    rw [e] at h
    simp only at h
    cases e2 : i.zero with
    | none => rw [e2] at h; cases h
    | some v =>
      rw [e2] at h
      simp only at h
      split at h
      · rename_i hf
        refine ⟨i, v, rfl, e2, hf, ?_, ?_⟩
        · cases v <;> simp [cellsOf] at h <;> first | (subst h; rfl) | skip
        · cases v <;> simp [cellsOf] at h <;> first | (subst h; simpa [flat, flatL] using hf) | skip
      · cases h
theorem run_zeroT {t : TypeId} {i : TypeInfo} {v : Value} (h : P.info? t = some i) (hz : i.zero = some v) (w : World) : (zeroValue t).run P w = .ok v w := by
  simp [zeroValue, typeInfo, h, hz]
theorem sliceT_some {t e : TypeId} (h : sliceT P t = some e) : P.underlying t = some (.slice e) := by
  unfold sliceT at h
  split at h
  · cases h; assumption
  · cases h
theorem add_plain (c o j : Nat) : (⟨c, o, none⟩ : Addr).add j = ⟨c, o + j, none⟩ := by unfold Addr.add; split <;> simp_all
theorem cell?_row {w : World} {c : Nat} {arr : Array Value} {t : TypeId} {fr : Nat × Nat} (h : w.heap[c]? = some (.cells arr t fr)) (o : Nat) : w.cell? ⟨c, o, none⟩ = arr[o]? := by
  simp [World.cell?, h]
theorem cellsK_true {h : Heap} {b o n : Nat} {k : List Value → Bool} (H : cellsK h b o n k = true) :
    ∃ cs esz, h.at b = some (.cells cs esz) ∧ o + n ≤ cs.length ∧ k ((cs.drop o).take n) = true := by
  unfold cellsK at H
  split at H
  · rename_i cs esz e
    obtain ⟨p, H⟩ := dropK_true H
    obtain ⟨q, H⟩ := takeK_true H
    exact ⟨cs, esz, e, by simp at q; omega, H⟩
  · cases H
theorem Rel.load {B : Nat} {φ : Emb} {h : Heap} {nx : Nat} {w : World} (r : Rel B φ h nx w) {b : Nat} {E : Ent} {cs : List Value} {esz : Nat} (hb : φ b = some E) (hc : h.at b = some (.cells cs esz))
    {o n : Nat} (hn : o + n ≤ cs.length) : ∃ l', l'.length = n ∧ (∀ (j : Nat) (v : Value), l'[j]? = some v → w.cell? ((⟨E.c, o + E.δ, none⟩ : Addr).add j) = some v) ∧ FL (CRel φ) ((cs.drop o).take n) l' := by
  obtain ⟨_, arr, t, a3, a4, a5⟩ := r.cells b E cs esz hb hc
  have hlen : o + E.δ + n ≤ arr.size ∨ n = 0 := by
    rcases Nat.eq_zero_or_pos n with h0 | h0
    · exact .inr h0
    · left
      have hlt : o + n - 1 < cs.length := by omega
      obtain ⟨v', hv', _⟩ := a5 (o + n - 1) cs[o + n - 1] (by simp [hlt])
      have := (Array.getElem?_eq_some_iff.1 hv').1
      omega
  have hl : ((arr.toList.drop (o + E.δ)).take n).length = n := by
    rcases hlen with h1 | h1
    · simp; omega
    · subst h1; simp
  refine ⟨(arr.toList.drop (o + E.δ)).take n, hl, fun j v hj => ?_, ?_⟩
  · rw [add_plain, cell?_row a3]
    rw [List.getElem?_take] at hj
    split at hj
    · simpa using hj
    · cases hj
  · refine FL.of_get (by rw [hl]; simp; omega) fun i a c ha hc' => ?_
    rw [List.getElem?_take] at ha hc'
    split at ha
    · rename_i hi
      rw [if_pos hi] at hc'
      rw [List.getElem?_drop] at ha hc'
      obtain ⟨v', e, hv⟩ := a5 (o + i) a ha
      have e2 : arr[o + E.δ + i]? = some c := by simpa using hc'
      rw [show o + i + E.δ = o + E.δ + i by omega, e2] at e
      cases e; exact hv
    · cases ha
theorem exec_v {o : Oper} {ρ : Operand → Value} {s : Sem Value} {w w' : World} {v : Value} (e : execOp ρ o = (do pure (.value (← s)))) (h : s.run P w = .ok v w') : (execOp ρ o).run P w = .ok (.value v) w' := by
  rw [e]; simp [h]
theorem ptr_inv {φ : Emb} {b o : Nat} {v' : Value} (r : VRel φ (.pointer (some ⟨b, o, none⟩)) v') : ∃ E, φ b = some E ∧ v' = .pointer (some ⟨E.c, o + E.δ, none⟩) := by
  cases r with
  | one r => cases r with
    | cell r => cases r with
      | ptr e => exact ⟨_, e, rfl⟩
theorem sim_load {o : Oper} {ty : TypeId} {x : Operand} (ho : o.op = .load ty x) {t : Tmps} {h : Heap} {nx : Nat} {p : Value} (hx : ev t x = some p) {k : Value → Bool} (H : loadK P ty p h k = true) :
    ∃ v, k v = true ∧ Sim P o t h nx (some v) h nx := by
  unfold loadK at H
  split at H
  · rename_i b off
    have he : ∀ (a : Act), execOp a.eval o = (do pure (.value (← Instr.loadAt ty (a.eval x)))) := fun a => by simp only [execOp, ho]
    split at H
    · rename_i n hag hsz
      obtain ⟨cs, esz, hc, hn, H⟩ := cellsK_true H
      refine ⟨_, H, Sim.quiet fun B φ N a w r tr => ?_⟩
      obtain ⟨E, hb, e⟩ := ptr_inv (ev_rel hx tr (by rw [ho]; simp [Op.operands]))
      obtain ⟨l', hl, hcell, hfl⟩ := r.load hb hc hn
      refine ⟨.agg ⟨l'⟩, exec_v (he a) ?_, .one (.agg hfl)⟩
      rw [e]
      have := run_loadCells_list (P := P) w _ l' hcell
      rw [hl] at this
      simp [Instr.loadAt, Instr.sureAddr, loadVar, run_isAggT hag, run_szT hsz, this]
    · rename_i n hag hsz
      obtain ⟨cs, esz, hc, hn, H⟩ := cellsK_true H
      split at H
      · rename_i v tl hseg
        refine ⟨_, H, Sim.quiet fun B φ N a w r tr => ?_⟩
        obtain ⟨E, hb, e⟩ := ptr_inv (ev_rel hx tr (by rw [ho]; simp [Op.operands]))
        obtain ⟨l', hl, hcell, hfl⟩ := r.load hb hc hn
        obtain ⟨v', hv', hr⟩ := hfl.get 0 v (by rw [hseg]; rfl)
        refine ⟨v', exec_v (he a) ?_, .one (.cell hr)⟩
        rw [e]
        have := hcell 0 v' hv'
        simp only [add_plain, Nat.add_zero] at this
        simp [Instr.loadAt, Instr.sureAddr, loadVar, run_isAggT hag, this]
      · cases H
    · cases H
  · cases H
theorem sim_move {o : Oper} {x : Operand} (ho : o.op = .move x ∨ o.op = .assign x) {t : Tmps} {h : Heap} {nx : Nat} {v : Value} (hx : ev t x = some v) : Sim P o t h nx (some v) h nx := by
  refine Sim.quiet fun B φ N a w r tr => ⟨a.eval x, ?_, ev_rel hx tr (by rcases ho with ho | ho <;> (rw [ho]; simp [Op.operands]))⟩
  rcases ho with ho | ho <;> simp [execOp, ho]
theorem sim_pick {o : Oper} {c x y : Operand} {b : Bool} (ho : o.op = .pick c x y) {t : Tmps} {h : Heap} {nx : Nat} {v : Value} (hc : ev t c = some (.bool b)) (hx : ev t (if b then x else y) = some v) :
    Sim P o t h nx (some v) h nx := by
  refine Sim.quiet fun B φ N a w r tr => ⟨a.eval (if b then x else y), ?_, ev_rel hx tr (by rw [ho]; cases b <;> simp [Op.operands])⟩
  have e : a.eval c = .bool b := flat_eq (by rfl) (ev_rel hc tr (by rw [ho]; simp [Op.operands]))
  cases b <;> simp [execOp, ho, e, asBool]
end Go.AM

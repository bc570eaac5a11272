/- H, part 8: helpers for the printed facts of a region that draws its order. -/
import Derived.Test.YtmfkidinmcmaaaaGreatAmE
set_option linter.unusedVariables false
set_option linter.unusedSimpArgs false
namespace Go.AM
variable {P : Program} {N : Nat} {ops : Array Oper} {R : Rec} {T₀ : Tb} {nx : Nat}
def FactsFrom (P : Program) (N : Nat) (ops : Array Oper) (R : Rec) (T₀ : Tb) (nx : Nat) : Nat → List Oper → Prop
  | _, [] => True
  | i, o :: l => Fact P N ops R T₀ nx i o ∧ FactsFrom P N ops R T₀ nx (i + 1) l
theorem FactsFrom.at : ∀ {l : List Oper} {i : Nat}, FactsFrom P N ops R T₀ nx i l → ∀ (j : Nat) (o : Oper), l[j]? = some o → Fact P N ops R T₀ nx (i + j) o
  | [], _, _, j, o, h => by simp at h
  | o :: l, i, hf, 0, o', h => by simp at h; subst h; exact hf.1
  | o :: l, i, hf, j + 1, o', h => by
    have := FactsFrom.at hf.2 j o' (by simpa using h)
    rwa [show i + (j + 1) = i + 1 + j by omega]
theorem facts_of (h : FactsFrom P N ops R T₀ nx 0 ops.toList) (i : Nat) (o : Oper) (hi : ops[i]? = some o) : Fact P N ops R T₀ nx i o := by
  have := h.at i o (by simpa using hi)
  rwa [Nat.zero_add] at this
def beqU : List UInt8 → List UInt8 → Bool
  | [], [] => true
  | x :: xs, y :: ys => Nat.beq x.toNat y.toNat && beqU xs ys
  | _, _ => false
theorem beqU_sound : ∀ {xs ys : List UInt8}, beqU xs ys = true → xs = ys
  | [], [], _ => rfl
  | x :: xs, y :: ys, h => by
    simp only [beqU, Bool.and_eq_true] at h
    rw [UInt8.toNat_inj.1 (Nat.eq_of_beq_eq_true h.1), beqU_sound h.2]
  | [], _ :: _, h => by cases h
  | _ :: _, [], h => by cases h
def beqP : List Value → List Value → Bool
  | [], [] => true
  | .pointer (some ⟨b, o, none⟩) :: xs, .pointer (some ⟨b', o', none⟩) :: ys => Nat.beq b b' && Nat.beq o o' && beqP xs ys
  | _, _ => false
theorem beqP_sound : ∀ {xs ys : List Value}, beqP xs ys = true → xs = ys := by
  intro xs
  induction xs with
  | nil =>
    intro ys h
    cases ys with
    | nil => rfl
    | cons y ys => cases h
  | cons x xs ih =>
    intro ys h
    unfold beqP at h
    split at h
    · rename_i heq; cases heq
    · rename_i b o xs' b' o' ys' heq
      cases heq
      simp only [Bool.and_eq_true] at h
      have h1 := Nat.eq_of_beq_eq_true h.1.1
      have h2 := Nat.eq_of_beq_eq_true h.1.2
      subst h1; subst h2
      rw [ih h.2]
    · cases h
/-- equality of values, of the kinds that come up -/
def veq : Value → Value → Bool
  | .string ⟨⟨s⟩⟩, .string ⟨⟨s'⟩⟩ => beqU s s'
  | .func (.func f) ⟨fs⟩ ⟨cs⟩, .func (.func f') ⟨fs'⟩ ⟨cs'⟩ => Nat.beq f f' && beqP fs fs' && beqP cs cs'
  | .int k n, .int k' n' => (k == k') && (n == n')
  | .bool b, .bool b' => b == b'
  | .pointer none, .pointer none => true
  | .pointer (some ⟨b, o, none⟩), .pointer (some ⟨b', o', none⟩) => Nat.beq b b' && Nat.beq o o'
  | .slice none n c, .slice none n' c' => Nat.beq n n' && Nat.beq c c'
  | .slice (some ⟨b, o, s⟩) n c, .slice (some ⟨b', o', s'⟩) n' c' => Nat.beq b b' && Nat.beq o o' && (s == s') && Nat.beq n n' && Nat.beq c c'
  | .map none, .map none => true
  | .map (some b), .map (some b') => Nat.beq b b'
  | .nilFunc, .nilFunc => true
  | .nilIface, .nilIface => true
  | _, _ => false
def veqL : List Value → List Value → Bool
  | [], [] => true
  | x :: xs, y :: ys => veq x y && veqL xs ys
  | _, _ => false
def veqA : Value → Value → Bool
  | .agg xs, .agg ys => veqL xs.toList ys.toList
  | x, y => veq x y
theorem veq_sound {x y : Value} (h : veq x y = true) : x = y := by
  unfold veq at h
  split at h <;> first
    | rfl
    | (cases h; done)
    | (rw [beqU_sound h]; done)
    | (simp only [Bool.and_eq_true] at h
       obtain ⟨⟨h1, h2⟩, h3⟩ := h
       have := Nat.eq_of_beq_eq_true h1
       have := beqP_sound h2
       have := beqP_sound h3
       subst_vars; rfl)
    | (have := Nat.eq_of_beq_eq_true h; subst_vars; rfl)
    | (simp only [Bool.and_eq_true, beq_iff_eq] at h
       first
         | (obtain ⟨rfl, rfl⟩ := h; rfl)
         | (subst h; rfl)
         | (obtain ⟨h1, h2⟩ := h
            have := Nat.eq_of_beq_eq_true h1
            have := Nat.eq_of_beq_eq_true h2
            subst_vars; rfl)
         | (obtain ⟨⟨⟨⟨h1, h2⟩, h3⟩, h4⟩, h5⟩ := h
            have := Nat.eq_of_beq_eq_true h1
            have := Nat.eq_of_beq_eq_true h2
            have := Nat.eq_of_beq_eq_true h4
            have := Nat.eq_of_beq_eq_true h5
            subst_vars; rfl)
         | (have := Nat.eq_of_beq_eq_true h; subst_vars; rfl))
theorem veqL_sound : ∀ {xs ys : List Value}, veqL xs ys = true → xs = ys
  | [], [], _ => rfl
  | x :: xs, y :: ys, h => by
    simp only [veqL, Bool.and_eq_true] at h
    rw [veq_sound h.1, veqL_sound h.2]
  | [], _ :: _, h => by cases h
  | _ :: _, [], h => by cases h
theorem veqA_sound {x y : Value} (h : veqA x y = true) : x = y := by
  unfold veqA at h
  split at h
  · rename_i xs ys
    have := veqL_sound h
    cases xs; cases ys; simp only at this; subst this; rfl
  · exact veq_sound h
/-- a pending block that comes to lie -/
theorem freshR_of {o : Oper} {T : Tb} {h : Heap} {nx nb : Nat} {v : Value} {cs : List Value} {esz : Nat} (hlt : nb < nx) (hb : h.at nb = some (.cells cs esz))
    (H : ∀ φ (a : Act) w, LR φ (tr T) a o.op.operands.toList → ∃ arr ty v', (execOp a.eval o).run P w = .ok (.value v') (w.alloc (.cells arr ty)) ∧ FL (CRel φ) cs arr.toList ∧ (∀ φ', φ' nb = some ⟨w.heap.size, 0, arr.size, esz⟩ → VRel φ' v v')) :
    FreshR P o T h nx nb (some v) := by
  intro B φ N a w next Q r hp tr hk
  obtain ⟨arr, ty, v', e, hfl, hv⟩ := H φ a w (tr.lr _)
  unfold Oper.wp
  rw [e]
  refine hk v' _ (φ.put nb ⟨w.heap.size, 0, arr.size, esz⟩) (hv _ (Emb.put_same _ _ _)) (Emb.le_put _ hp) (fun b E hbE => ?_) (r.attach hp hlt hb arr ty (fl_arr hfl)) ((Fr.refl _ _).alloc r.bw _)
  by_cases e : b = nb
  · exact .inr e
  · rw [Emb.put_ne _ _ e] at hbE; exact .inl hbE
theorem freshR_alloc {o : Oper} {T : Tb} {h : Heap} {nx nb : Nat} {e : TypeId} {z : List Value} (ho : o.op = .alloc e) (hz : zeroT P e = some z) (hlt : nb < nx) (hb : h.at nb = some (.cells z 0)) : FreshR P o T h nx nb (some (.pointer (some ⟨nb, 0, none⟩))) := by
  obtain ⟨i, v, hi, hv, hf, hcs, hl⟩ := zeroT_some hz
  refine freshR_of hlt hb fun φ a w tr => ⟨v.cells, e, .pointer (some ⟨w.heap.size, 0, none⟩), ?_, by rw [hcs]; exact flatL_rel hl, fun φ' hφ => .one (.cell (.ptr hφ))⟩
  have := run_zeroT (P := P) hi hv w
  simp [execOp, ho, Instr.alloc, this, newVar, newRow]
theorem freshR_buildSlice {o : Oper} {T : Tb} {ty e : TypeId} {len : Nat} {parts : Array (Nat × Operand)} (ho : o.op = .buildSlice ty len parts) {size : Nat} {z : List Value} (he : sliceT P ty = some e) (hs : szT P e = some size)
    (hz : zeroT P e = some z) (hzs : z.length = size) (h1 : 1 ≤ size) (hfit : len * size ≤ 16777216) {k : List Value → Bool} (H : fillK (fun i => some (i * size, size)) parts.toList (tr T) (rowOf z (len * size)) k = true) :
    ∃ cs, k cs = true ∧ ∀ (h : Heap) (nx nb : Nat), nb < nx → h.at nb = some (.cells cs size) → FreshR P o T h nx nb (some (.slice (some ⟨nb, 0, some 0⟩) len len)) := by
  obtain ⟨i, v, hi, hv, hf, hcs, hl⟩ := zeroT_some hz
  have hvs : v.cells.size = size := by rw [← hzs, ← hcs]; simp
  obtain ⟨cs, hk, H⟩ := fillK_true H
  refine ⟨cs, hk, fun h nx nb hlt hb => freshR_of hlt hb fun φ a w tr => ?_⟩
  by_cases h0 : len * size = 0
  · have hl0 : len = 0 := by
      rcases Nat.mul_eq_zero.1 h0 with h | h
      · exact h
      · omega
    subst hl0
    obtain ⟨arr', e', hr⟩ := H (by rw [ho] at tr; simpa [Op.operands] using tr) #[] (by simp [rowOf]; exact .nil)
    refine ⟨arr', e, .slice (some ⟨w.heap.size, 0, none⟩) 0 0, ?_, hr, fun φ' hφ => .one (.cell .sliceEnd)⟩
    have hx : execOp a.eval o = (do pure (.value (← Instr.buildSlice ty 0 (parts.map fun (i, x) => (i, a.eval x))))) := by simp only [execOp, ho]
    refine exec_v hx ?_
    have hm : (parts.map fun (i, x) => (i, a.eval x)).toList = parts.toList.map fun p => (p.1, a.eval p.2) := by simp
    simp only [Instr.buildSlice, Sem.run_bind, run_underlying (sliceT_some he), Result.andThen_ok, run_szT hs, hm]
    have hra : Array.range 0 = #[] := rfl
    simp [hra, e', newRow]
  · obtain ⟨arr', e', hr⟩ := H (by rw [ho] at tr; simpa [Op.operands] using tr) ((Array.range (len * size)).map (v.cells[· % v.cells.size]!)) (by
      rw [rowOf_eq _ _ (.inl (by omega)), hcs]
      exact flatL_rel (rowOf_flat hl _ (.inl (by omega))))
    have hsz : arr'.size = len * size := by
      have := hr.length
      have h3 := fill_size _ _ _ _ e'
      have h2 : cs.length = len * size := by rw [this, Array.length_toList, h3]; simp
      rw [← Array.length_toList, ← this, h2]
    refine ⟨arr', e, .slice (some ⟨w.heap.size, 0, none⟩) len len, ?_, hr, fun φ' hφ => .one (.cell ?_)⟩
    · have hx : execOp a.eval o = (do pure (.value (← Instr.buildSlice ty len (parts.map fun (i, x) => (i, a.eval x))))) := by simp only [execOp, ho]
      refine exec_v hx ?_
      have hm : (parts.map fun (i, x) => (i, a.eval x)).toList = parts.toList.map fun p => (p.1, a.eval p.2) := by simp
      simp only [Instr.buildSlice, Sem.run_bind, run_underlying (sliceT_some he), Result.andThen_ok, run_szT hs, hm]
      have hng : ¬ (len * size > 2 ^ 24) := by omega
      simp [hng, h0, run_zeroT hi hv, e', newRow]
    · have := CRel.slice (φ := φ') (b := nb) (o := 0) (sp := some 0) (n := len) (k := len) (k' := len) hφ (fun _ => rfl) (Nat.le_refl _) (Nat.le_refl _) (by simp [hsz])
      simpa using this
/-- a heap with more blocks that lie nowhere yet -/
inductive Grow : Heap → Nat → Heap → Nat → Prop
  | refl (h : Heap) (nx : Nat) : Grow h nx h nx
  | pend {h : Heap} {nx : Nat} {h' : Heap} {nx' : Nat} (k : Blk) : Grow h nx h' nx' → Grow h nx (Tr.set (some k) (path nx') h') (nx' + 1)
theorem Grow.rel {h : Heap} {nx : Nat} {h' : Heap} {nx' : Nat} (g : Grow h nx h' nx') : ∀ B φ w, Rel B φ h nx w → Rel B φ h' nx' w := by
  induction g with
  | refl => exact fun _ _ _ r => r
  | pend k _ ih => exact fun B φ w r => (ih B φ w r).pend k
theorem Grow.le {h : Heap} {nx : Nat} {h' : Heap} {nx' : Nat} (g : Grow h nx h' nx') : nx ≤ nx' := by
  induction g with
  | refl => exact Nat.le_refl _
  | pend k _ ih => exact Nat.le_succ_of_le ih
theorem hAlloc_true {e : TypeId} {h : Heap} {nx : Nat} {G : KV} (H : hAlloc P e h nx G = true) : ∃ z, zeroT P e = some z ∧ G (.pointer (some ⟨nx, 0, none⟩)) (Tr.set (some (.cells z 0)) (path nx) h) (nx + 1) = true := by
  obtain ⟨z, hz, H⟩ := optK_true H
  exact ⟨z, hz, newK_true H⟩
theorem fresh_buildSlice {o : Oper} {T : Tb} {ty : TypeId} {len : Nat} {xs : Array (Nat × Operand)} {vs : List (Nat × Value)} {h : Heap} {nx : Nat} {G : KV} (ho : o.op = .buildSlice ty len xs) (hx : EvP T xs.toList vs) (H : hBuildSlice P ty len vs h nx G = true) :
    ∃ cs size, G (.slice (some ⟨nx, 0, some 0⟩) len len) (Tr.set (some (.cells cs size)) (path nx) h) (nx + 1) = true ∧ ∀ (h' : Heap) (nx' nb : Nat), nb < nx' → h'.at nb = some (.cells cs size) → FreshR P o T h' nx' nb (some (.slice (some ⟨nb, 0, some 0⟩) len len)) := by
  obtain ⟨e, he, H⟩ := optK_true H
  obtain ⟨size, hs, H⟩ := optK_true H
  obtain ⟨z, hz, H⟩ := optK_true H
  split at H
  · rename_i hc
    simp only [Bool.and_eq_true] at hc
    obtain ⟨⟨h1, h2⟩, h3⟩ := hc
    have h1 := Nat.eq_of_beq_eq_true h1
    have h2 := Nat.le_of_ble_eq_true h2
    have h3 := Nat.le_of_ble_eq_true h3
    rw [forceK_eq, ← fill_some hx] at H
    obtain ⟨cs, hk, S⟩ := freshR_buildSlice ho he hs hz h1 h2 h3 H
    exact ⟨cs, size, newK_true hk, S⟩
  · cases H
end Go.AM

/- AM, part 5: memory that is made, written; literals; numbers. -/
import Derived.Test.YtmfkidinmcmaaaaGreatAmOpA
set_option linter.unusedVariables false
namespace Go.AM
variable {P : Program}
theorem fl_arr {φ : Emb} {cs : List Value} {arr : Array Value} (h : FL (CRel φ) cs arr.toList) (i : Nat) (v : Value) (hv : cs[i]? = some v) : ∃ v', arr[i]? = some v' ∧ CRel φ v v' := by
  obtain ⟨v', e, r⟩ := h.get i v hv
  exact ⟨v', by simpa using e, r⟩
theorem cells_rel {φ : Emb} {v v' : Value} {cs : List Value} (r : VRel φ v v') (h : cellsOf v = some cs) : FL (CRel φ) cs v'.cells.toList := by
  cases r with
  | one r => cases r with
    | cell r =>
      have e : cellsOf v = some [v] := by cases r <;> rfl
      rw [e] at h; cases h
      rw [r.cells.2]; exact .cons r .nil
    | agg l => simp [cellsOf] at h; subst h; exact l
  | tuple l => cases h
theorem FL.one' {φ : Emb} {cs cs' : List Value} (h : FL (CRel φ) cs cs') : ∀ v ∈ cs', v.oneCell' = true := by
  induction h with
  | nil => simp
  | cons h _ ih => intro v hv; simp at hv; rcases hv with rfl | hv; exact h.oneCell; exact ih v hv
/-- a new block: what newK does, and what the world does -/
theorem newK_true {cs : List Value} {esz : Nat} {h : Heap} {nx : Nat} {k : Heap → Nat → Bool} (H : newK cs esz h nx k = true) : k (Tr.set (some (.cells cs esz)) (path nx) h) (nx + 1) = true := by
  unfold newK at H
  rw [Tr.setK_eq, natK_eq] at H; exact H
theorem sim_new {o : Oper} {t : Tmps} {h : Heap} {nx esz : Nat} {cs : List Value} {v : Value}
    (H : ∀ B φ (N : Nat) (a : Act) w, Rel B φ h nx w → LR φ t a o.op.operands.toList → ∃ arr ty v', (execOp a.eval o).run P w = .ok (.value v') (w.alloc (.cells arr ty)) ∧ FL (CRel φ) cs arr.toList ∧
      (∀ φ', φ' nx = some ⟨w.heap.size, 0, arr.size, esz⟩ → VRel φ' v v')) :
    Sim P o t h nx (some v) (Tr.set (some (.cells cs esz)) (path nx) h) (nx + 1) :=
  ⟨Nat.le_succ _, fun B φ N a w r tr =>
    let ⟨arr, ty, v', e, hfl, hv⟩ := H B φ N a w r tr
    ⟨.value v', _, _, e, hv _ (Emb.put_same _ _ _), Ext.put _ r.fresh, r.new esz arr ty (fl_arr hfl), (Fr.refl _ _).alloc r.bw _⟩⟩
theorem sim_alloc {o : Oper} {e : TypeId} (ho : o.op = .alloc e) {t : Tmps} {h : Heap} {nx : Nat} {z : List Value} (hz : zeroT P e = some z) :
    Sim P o t h nx (some (.pointer (some ⟨nx, 0, none⟩))) (Tr.set (some (.cells z 0)) (path nx) h) (nx + 1) := by
  obtain ⟨i, v, hi, hv, hf, hcs, hl⟩ := zeroT_some hz
  refine sim_new fun B φ N a w r tr => ⟨v.cells, e, .pointer (some ⟨w.heap.size, 0, none⟩), ?_, by rw [hcs]; exact flatL_rel hl, fun φ' hφ => .one (.cell (.ptr hφ))⟩
  have := run_zeroT (P := P) hi hv w
  simp [execOp, ho, Instr.alloc, this, newVar, newRow]
theorem sim_box {o : Oper} {e : TypeId} {x : Operand} (ho : o.op = .box e x) {t : Tmps} {h : Heap} {nx : Nat} {v : Value} {cs : List Value} (hx : ev t x = some v) (hc : cellsOf v = some cs) :
    Sim P o t h nx (some (.pointer (some ⟨nx, 0, none⟩))) (Tr.set (some (.cells cs 0)) (path nx) h) (nx + 1) := by
  refine sim_new fun B φ N a w r tr => ⟨(a.eval x).cells, e, .pointer (some ⟨w.heap.size, 0, none⟩), ?_, cells_rel (ev_rel hx tr (by rw [ho]; simp [Op.operands])) hc, fun φ' hφ => .one (.cell (.ptr hφ))⟩
  simp [execOp, ho, Instr.box, newVar, newRow]
/-! literals -/
theorem foldl_set (off : Nat) : ∀ (l : List Value) (i : Nat) (A : Array Value), off + i + l.length ≤ A.size →
    ((l.zipIdx i).foldl (fun cs (x : Value × Nat) => cs.setIfInBounds (off + x.2) x.1) A).toList = A.toList.take (off + i) ++ l ++ A.toList.drop (off + i + l.length)
  | [], i, A, _ => by simp
  | v :: l, i, A, h => by
    simp only [List.zipIdx_cons, List.foldl_cons]
    rw [foldl_set off l (i + 1) (A.setIfInBounds (off + i) v) (by simp at h ⊢; omega)]
    have e := list_seg_step A.toList (off + i) v l (by simp at h ⊢; omega)
    simpa [Array.toList_setIfInBounds, Nat.add_assoc] using e
theorem fillK_true {place : Nat → Option (Nat × Nat)} {t : Tmps} {parts : List (Nat × Operand)} : ∀ {cs : List Value} {k : List Value → Bool}, fillK place parts t cs k = true →
    ∃ cs', k cs' = true ∧ ∀ {φ : Emb} {a : Act}, LR φ t a (parts.map (·.2)) → ∀ arr : Array Value, FL (CRel φ) cs arr.toList →
      ∃ arr', Instr.fill place arr (parts.map fun p => (p.1, a.eval p.2)) = some arr' ∧ FL (CRel φ) cs' arr'.toList := by
  induction parts with
  | nil => intro cs k h; exact ⟨cs, h, fun _ arr hfl => ⟨arr, by simp [Instr.fill], hfl⟩⟩
  | cons p parts ih =>
    intro cs k h
    have h : (match place p.1 with
      | some (off, n) => evK t p.2 fun v => match cellsOf v with
        | some vs => if Nat.beq vs.length n then updK vs off cs fun cs' => fillK place parts t cs' k else false
        | none => false
      | none => false) = true := h
    split at h
    · rename_i off n hp
      obtain ⟨v, hx, h⟩ := evK_true h
      split at h
      · rename_i vs hvs
        split at h
        · rename_i hbeq
          have hlen := Nat.eq_of_beq_eq_true hbeq
          obtain ⟨hfit, h⟩ := updK_true h
          obtain ⟨cs', hk, H⟩ := ih h
          refine ⟨cs', hk, fun {φ a} tr arr hfl => ?_⟩
          have hv := cells_rel (ev_rel hx tr (by simp)) hvs
          have hvl := hv.length
          have hal := hfl.length
          simp only [Array.length_toList] at hvl hal
          have hfold := foldl_set off (a.eval p.2).cells.toList 0 arr (by simp; omega)
          have hfl' : FL (CRel φ) (cs.take off ++ vs ++ cs.drop (off + vs.length))
              ((a.eval p.2).cells.zipIdx.foldl (fun cs (x : Value × Nat) => cs.setIfInBounds (off + x.2) x.1) arr).toList := by
            rw [← Array.foldl_toList, Array.toList_zipIdx, hfold]
            simp only [Nat.add_zero, Array.length_toList, ← hvl]
            exact ((hfl.take _).append hv).append (hfl.drop _)
          obtain ⟨arr', e, hr⟩ := H (tr.sub fun x hx => by simp only [List.map_cons, List.mem_cons]; exact .inr hx) _ hfl'
          refine ⟨arr', ?_, hr⟩
          simp only [List.map_cons, Instr.fill, hp]
          rw [if_neg (by simp; omega)]
          exact e
        · cases h
      · cases h
    · cases h
theorem run_places : ∀ (fs : List Field) (l : List (Nat × Nat)), placesL P fs = some l → ∀ w : World,
    (fs.mapM fun f => (do pure (f.offset, ← sizeOf f.type) : Sem (Nat × Nat))).run P w = .ok l w
  | [], l, h, w => by simp [placesL] at h; subst h; rfl
  | f :: fs, l, h, w => by
    simp only [placesL] at h
    split at h
    · rename_i n l' hn hl
      cases h
      have ih := run_places fs l' hl w
      simp only [List.mapM_cons, Sem.run_bind, run_szT hn, Result.andThen_ok, Sem.run_pure, ih]
    · cases h
theorem sim_build {o : Oper} {ty : TypeId} {parts : Array (Nat × Operand)} (ho : o.op = .build ty parts) {t : Tmps} {h : Heap} {nx : Nat} {z : List Value} {place : Nat → Option (Nat × Nat)} (hz : zeroT P ty = some z)
    (hp : placeT P ty = some place) {k : List Value → Bool} (H : fillK place parts.toList t z k = true) : ∃ cs, k cs = true ∧ Sim P o t h nx (some (.agg ⟨cs⟩)) h nx := by
  obtain ⟨i, v, hi, hv, hf, hcs, hl⟩ := zeroT_some hz
  obtain ⟨cs, hk, H⟩ := fillK_true H
  refine ⟨cs, hk, Sim.quiet fun B φ N a w r tr => ?_⟩
  obtain ⟨arr', e, hr⟩ := H (by rw [ho] at tr; simpa [Op.operands] using tr) v.cells (by rw [hcs]; exact flatL_rel hl)
  have he : execOp a.eval o = (do pure (.value (← Instr.build ty (parts.map fun (i, x) => (i, a.eval x))))) := by simp only [execOp, ho]
  have hm : (parts.map fun (i, x) => (i, a.eval x)).toList = parts.toList.map fun p => (p.1, a.eval p.2) := by simp
  refine ⟨.agg arr', exec_v he ?_, .one ?_⟩
  · unfold placeT at hp
    split at hp
    · rename_i fs hu
      split at hp
      · rename_i l hpl
        cases hp
        have hmap := run_places fs.toList l hpl w
        simp only [Instr.build, Sem.run_bind, run_zeroT hi hv, Result.andThen_ok, run_underlying hu, Array.mapM_eq_mapM_toList, Sem.run_map, hmap, hm]
        simp [e]
      · cases hp
    · rename_i n el hu
      split at hp
      · rename_i n hn
        cases hp
        simp only [Instr.build, Sem.run_bind, run_zeroT hi hv, Result.andThen_ok, run_underlying hu, run_szT hn, hm]
        simp [e]
      · cases hp
    · cases hp
  · obtain ⟨l⟩ := arr'; exact .agg hr
/-! zero cells -/
theorem rowOf_eq (z : Array Value) (n : Nat) (hz : z.size ≠ 0 ∨ n = 0) : ((Array.range n).map (z[· % z.size]!)).toList = rowOf z.toList n := by
  unfold rowOf
  simp only [Array.toList_map, Array.toList_range]
  apply List.map_congr_left
  intro i hi
  rcases hz with hz | hz
  · have : i % z.size < z.size := Nat.mod_lt _ (by omega)
    simp [this]
  · subst hz; simp at hi
theorem flatL_getD {z : List Value} (h : flatL z = true) (i : Nat) (hi : i < z.length) : flat1 (z.getD i undef) = true := by
  induction z generalizing i with
  | nil => simp at hi
  | cons v z ih =>
    simp only [flatL, Bool.and_eq_true] at h
    cases i with
    | zero => simpa using h.1
    | succ i => simpa using ih h.2 i (by simpa using hi)
theorem rowOf_flat {z : List Value} (h : flatL z = true) (n : Nat) (hz : z.length ≠ 0 ∨ n = 0) : flatL (rowOf z n) = true := by
  have key : ∀ l : List Nat, (z.length ≠ 0 ∨ l = []) → flatL (l.map fun i => z.getD (i % z.length) undef) = true := by
    intro l
    induction l with
    | nil => intro _; rfl
    | cons i l ih =>
      intro hz
      rcases hz with hz | hz
      · simp only [List.map_cons, flatL, Bool.and_eq_true]
        exact ⟨flatL_getD h _ (Nat.mod_lt _ (by omega)), ih (.inl hz)⟩
      · cases hz
  exact key _ (by rcases hz with hz | hz; exact .inl hz; right; simp [hz])
theorem rowOf_length (z : List Value) (n : Nat) : (rowOf z n).length = n := by simp [rowOf]
theorem foldl_size (f : Nat → Nat) : ∀ (l : List (Value × Nat)) (A : Array Value), (l.foldl (fun cs (x : Value × Nat) => cs.setIfInBounds (f x.2) x.1) A).size = A.size
  | [], _ => rfl
  | x :: l, A => by rw [List.foldl_cons, foldl_size f l]; simp
theorem fill_size (place : Nat → Option (Nat × Nat)) : ∀ (ps : List (Nat × Value)) (A A' : Array Value), Instr.fill place A ps = some A' → A'.size = A.size
  | [], A, A', h => by simp [Instr.fill] at h; rw [h]
  | p :: ps, A, A', h => by
    simp only [Instr.fill] at h
    split at h
    · cases h
    · rename_i off size _
      split at h
      · cases h
      · rw [fill_size place ps _ _ h, ← Array.foldl_toList]
        exact foldl_size (fun j => off + j) _ _
theorem sim_buildSlice {o : Oper} {ty e : TypeId} {len : Nat} {parts : Array (Nat × Operand)} (ho : o.op = .buildSlice ty len parts) {t : Tmps} {h : Heap} {nx size : Nat} {z : List Value} (he : sliceT P ty = some e) (hs : szT P e = some size)
    (hz : zeroT P e = some z) (hzs : z.length = size) (h1 : 1 ≤ size) (hfit : len * size ≤ 16777216) {k : List Value → Bool} (H : fillK (fun i => some (i * size, size)) parts.toList t (rowOf z (len * size)) k = true) :
    ∃ cs, k cs = true ∧ Sim P o t h nx (some (.slice (some ⟨nx, 0, some 0⟩) len len)) (Tr.set (some (.cells cs size)) (path nx) h) (nx + 1) := by
  obtain ⟨i, v, hi, hv, hf, hcs, hl⟩ := zeroT_some hz
  have hvs : v.cells.size = size := by rw [← hzs, ← hcs]; simp
  obtain ⟨cs, hk, H⟩ := fillK_true H
  refine ⟨cs, hk, sim_new fun B φ N a w r tr => ?_⟩
  by_cases h0 : len * size = 0
  · have hl0 : len = 0 := by
      rcases Nat.mul_eq_zero.1 h0 with h | h
      · exact h
      · omega
    subst hl0
    obtain ⟨arr', e', hr⟩ := H (by rw [ho] at tr; simpa [Op.operands] using tr) #[] (by simp [rowOf]; exact .nil)
    refine ⟨arr', e, .slice (some ⟨w.heap.size, 0, none⟩) 0 0, ?_, hr, fun φ' hφ => .one (.cell .sliceEnd)⟩
    have hx : execOp a.eval o = (do pure (.value (← Instr.buildSlice ty 0 (parts.map fun (i, x) => (i, a.eval x))))) := by simp only [execOp, ho]
    refine exec_v hx ?_
    have hm : (parts.map fun (i, x) => (i, a.eval x)).toList = parts.toList.map fun p => (p.1, a.eval p.2) := by simp
    simp only [Instr.buildSlice, Sem.run_bind, run_underlying (sliceT_some he), Result.andThen_ok, run_szT hs, hm]
    have hra : Array.range 0 = #[] := rfl
    simp [hra, e', newRow]
  · obtain ⟨arr', e', hr⟩ := H (by rw [ho] at tr; simpa [Op.operands] using tr) ((Array.range (len * size)).map (v.cells[· % v.cells.size]!)) (by
      rw [rowOf_eq _ _ (.inl (by omega)), hcs]
      exact flatL_rel (rowOf_flat hl _ (.inl (by omega))))
    have hsz : arr'.size = len * size := by
      have := hr.length
      have h3 := fill_size _ _ _ _ e'
      have h2 : cs.length = len * size := by rw [this, Array.length_toList, h3]; simp
      rw [← Array.length_toList, ← this, h2]
    refine ⟨arr', e, .slice (some ⟨w.heap.size, 0, none⟩) len len, ?_, hr, fun φ' hφ => .one (.cell ?_)⟩
    · have hx : execOp a.eval o = (do pure (.value (← Instr.buildSlice ty len (parts.map fun (i, x) => (i, a.eval x))))) := by simp only [execOp, ho]
      refine exec_v hx ?_
      have hm : (parts.map fun (i, x) => (i, a.eval x)).toList = parts.toList.map fun p => (p.1, a.eval p.2) := by simp
      simp only [Instr.buildSlice, Sem.run_bind, run_underlying (sliceT_some he), Result.andThen_ok, run_szT hs, hm]
      have hng : ¬ (len * size > 2 ^ 24) := by omega
      simp [hng, h0, run_zeroT hi hv, e', newRow]
    · have := CRel.slice (φ := φ') (b := nx) (o := 0) (sp := some 0) (n := len) (k := len) (k' := len) hφ (fun _ => rfl) (Nat.le_refl _) (Nat.le_refl _) (by simp [hsz])
      simpa using this
end Go.AM

/- AM, part 7: conversions, make, slice expressions, append, copy, clear, len, cap. -/
import Derived.Test.YtmfkidinmcmaaaaGreatAmOpC
import Derived.Laws.MakeOwn
import Derived.IntWalk
set_option linter.unusedVariables false
set_option linter.unusedSimpArgs false
namespace Go.AM
variable {P : Program}
theorem exec_call {o : Oper} {ρ : Operand → Value} {c : Call} {b : Builtin} (ho : o.op = .call c) (hb : c.callee = .builtin b) :
    ∃ cs, execOp ρ o = builtin b c.argTypes o.type cs (c.args.map ρ) :=
  ⟨_, by simp only [execOp, ho, resolve, hb]; rfl⟩
theorem sim_convert_flat {o : Oper} {s d : TypeId} {x : Operand} (ho : o.op = .convert s d x) {t : Tmps} {h : Heap} {nx : Nat} {u : Value} (hx : ev t x = some u) (hf : flat u = true) {k : Value → Bool}
    (H : pureK P (convert s d u) k = true) : ∃ z, k z = true ∧ Sim P o t h nx (some z) h nx := by
  obtain ⟨z, hk, hz, hrun⟩ := pureK_true H
  refine ⟨z, hk, sim_pure hz fun φ N a w tr => exec_v (s := convert s d (a.eval x)) (by simp only [execOp, ho]) ?_⟩
  rw [flat_eq hf (ev_rel hx tr (by rw [ho]; simp [Op.operands]))]
  exact hrun w
theorem bytesK_true {l : List Value} : ∀ {k : List UInt8 → Bool}, aop.bytesK l k = true → ∃ ns : List Nat, l = ns.map (fun n => .int .u8 (.ofNat n)) ∧ k (ns.map UInt8.ofNat) = true := by
  induction l with
  | nil => intro k h; exact ⟨[], rfl, h⟩
  | cons v l ih =>
    intro k h
    have h : (match (generalizing := false) v with
      | .int .u8 (.ofNat n) => aop.bytesK l fun r => k (UInt8.ofNat n :: r)
      | _ => false) = true := h
    split at h
    · obtain ⟨ns, e, h⟩ := ih h
      exact ⟨_ :: ns, by rw [e]; rfl, h⟩
    · cases h
theorem sim_convert_bytes {o : Oper} {s d e : TypeId} {x : Operand} (ho : o.op = .convert s d x) {t : Tmps} {h : Heap} {nx b off n c : Nat} {sp : Option Nat} (hx : ev t x = some (.slice (some ⟨b, off, sp⟩) n c))
    (hs : sliceT P s = some e) (hd : P.underlying d = some .string) (he : P.underlying e = some (.int .u8)) {k : List UInt8 → Bool} (H : cellsK h b off n (fun l => aop.bytesK l k) = true) :
    ∃ bs, k bs = true ∧ Sim P o t h nx (some (.string ⟨⟨bs⟩⟩)) h nx := by
  obtain ⟨cs, esz, hc, hfit, H⟩ := cellsK_true H
  obtain ⟨ns, el, hk⟩ := bytesK_true H
  refine ⟨_, hk, Sim.quiet fun B φ N a w r tr => ⟨.string ⟨⟨ns.map UInt8.ofNat⟩⟩, ?_, .one (.cell (.string _))⟩⟩
  refine exec_v (s := convert s d (a.eval x)) (by simp only [execOp, ho]) ?_
  have hstr : strOfNums (ns.map Int.ofNat) = ⟨⟨ns.map UInt8.ofNat⟩⟩ := by
    unfold strOfNums
    congr 1
    rw [List.map_map]
    rfl
  rcases slice_inv (ev_rel hx tr (by rw [ho]; simp [Op.operands])) with ⟨E, c', hb, h1, h2, h3, h4, e1⟩ | ⟨rfl, rfl, a', e1⟩
  · rw [e1]
    obtain ⟨l', hl, hcell, hfl⟩ := r.load hb hc hfit
    rw [el] at hfl
    have hl' : l' = ns.map (fun n => .int .u8 (.ofNat n)) := flatL_eq (by
      clear el H hk hstr hfl hl hcell
      induction ns with
      | nil => rfl
      | cons n ns ih => simp only [List.map_cons, flatL, flat1, Bool.true_and]; exact ih) hfl
    subst hl'
    rw [← hstr]
    refine run_convert_bytes_arg w s e (sliceT_some hs) he E.c (off + E.δ) n c' (ns.map Int.ofNat) (by simpa using hl) (fun i hi => ?_) d hd
    have hin : i < ns.length := by simp at hl; omega
    have := hcell i (.int .u8 (.ofNat ns[i])) (by simp [hin])
    rw [add_plain] at this
    rw [this]
    simp [hin]
  · rw [e1]
    have hn : ns = [] := by
      have := congrArg List.length el
      simp at this
      exact List.eq_nil_of_length_eq_zero (by omega)
    subst hn
    have hu := sliceT_some hs
    simp [convert, run_underlying hu, run_underlying hd, run_underlying he, Conv.bytesToString, loadCells, loadCellsFrom]
    rfl
theorem sim_makeSlice {o : Oper} {ty e : TypeId} {x y : Operand} (ho : o.op = .makeSlice ty x y) {t : Tmps} {h : Heap} {nx size bytes l c : Nat} {z : List Value} {k1 k2 : IntKind} (hx : ev t x = some (.int k1 (.ofNat l))) (hy : ev t y = some (.int k2 (.ofNat c)))
    (he : sliceT P ty = some e) (hs : szT P e = some size) (hb : bytesT P e = some bytes) (hz : zeroT P e = some z) (hzs : z.length = size) (h1 : 1 ≤ size) (hlc : l ≤ c) (hbc : bytes * c ≤ 16777216) (hc : c ≤ 16777216) :
    Sim P o t h nx (some (.slice (some ⟨nx, 0, some 0⟩) l c)) (Tr.set (some (.cells (rowOf z (c * size)) size)) (path nx) h) (nx + 1) := by
  obtain ⟨i, v, hi, hv, hf, hcs, hl⟩ := zeroT_some hz
  have hvs : v.cells.size = size := by rw [← hzs, ← hcs]; simp
  have hsz : i.size = size := by simpa [szT, hi] using hs
  have hby : i.bytes = bytes := by simpa [bytesT, hi] using hb
  refine sim_new fun B φ N a w r tr => ⟨(Array.range (c * size)).map (v.cells[· % v.cells.size]!), e, .slice (some ⟨w.heap.size, 0, none⟩) l c, ?_, ?_, fun φ' hφ => .one (.cell ?_)⟩
  · refine exec_v (s := Instr.makeSlice ty (a.eval x) (a.eval y)) (by simp only [execOp, ho]) ?_
    have e1 : a.eval x = .int k1 (.ofNat l) := flat_eq rfl (ev_rel hx tr (by rw [ho]; simp [Op.operands]))
    have e2 : a.eval y = .int k2 (.ofNat c) := flat_eq rfl (ev_rel hy tr (by rw [ho]; simp [Op.operands]))
    rw [e1, e2]
    have hb' : (i.bytes : Int) * (Int.ofNat c) ≤ 281474976710656 := by
      have h : ((i.bytes * c : Nat) : Int) ≤ 281474976710656 := by rw [hby]; omega
      rwa [Int.natCast_mul] at h
    have := run_make (P := P) w ty e i v (sliceT_some he) hi hv k1 k2 (Int.ofNat l) (Int.ofNat c) (by simp) (by simp; omega) hb' (by simp; omega)
    simpa [madeCells, hsz] using this
  · rw [rowOf_eq _ _ (.inl (by omega)), hcs]
    exact flatL_rel (rowOf_flat hl _ (.inl (by omega)))
  · have := CRel.slice (φ := φ') (b := nx) (o := 0) (sp := some 0) (n := l) (k := c) (k' := c) hφ (fun _ => rfl) (Nat.le_refl _) hlc (by simp)
    simpa using this
end Go.AM

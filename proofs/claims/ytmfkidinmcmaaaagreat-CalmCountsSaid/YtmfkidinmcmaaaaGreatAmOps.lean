/- AM, part 12: every operation that calls no function. -/
import Derived.Test.YtmfkidinmcmaaaaGreatAmOpH
set_option linter.unusedVariables false
set_option linter.unusedSimpArgs false
namespace Go.AM
variable {P : Program}
theorem optFlatK_true {t : Tmps} {x : Option Operand} {k : Option Value → Bool} (H : optFlatK t x k = true) : ∃ y, k y = true ∧ ∀ {φ : Emb} {a : Act}, LR φ t a x.toList → x.map a.eval = y := by
  unfold optFlatK at H
  split at H
  · exact ⟨none, H, fun _ => rfl⟩
  · obtain ⟨v, e, H⟩ := evK_true H
    split at H
    · exact ⟨_, H, fun tr => by simp only [Option.map_some]; rw [flat_eq ‹_› (ev_rel e tr (by simp))]⟩
    · cases H
set_option maxHeartbeats 1000000 in
theorem aop_sim {o : Oper} {t : Tmps} {h : Heap} {nx : Nat} {k : K} (H : aop P o.op t h nx k = true) : ∃ ov h' nx', k ov h' nx' = true ∧ Sim P o t h nx ov h' nx' := by
  generalize hop : o.op = op at H
  cases op with
  | move x =>
    obtain ⟨v, e, H⟩ := evK_true H
    exact ⟨_, _, _, H, sim_move (.inl hop) e⟩
  | assign x =>
    obtain ⟨v, e, H⟩ := evK_true H
    exact ⟨_, _, _, H, sim_move (.inr hop) e⟩
  | pick c x y =>
    obtain ⟨v, e, H⟩ := evK_true H
    split at H
    · obtain ⟨v, e', H⟩ := evK_true H
      exact ⟨_, _, _, H, sim_pick (b := true) hop e e'⟩
    · obtain ⟨v, e', H⟩ := evK_true H
      exact ⟨_, _, _, H, sim_pick (b := false) hop e e'⟩
    · cases H
  | alloc e =>
    obtain ⟨z, hz, H⟩ := optK_true H
    exact ⟨_, _, _, newK_true H, sim_alloc hop hz⟩
  | box e x =>
    obtain ⟨v, hx, H⟩ := evK_true H
    obtain ⟨cs, hc, H⟩ := optK_true H
    exact ⟨_, _, _, newK_true H, sim_box hop hx hc⟩
  | build ty parts =>
    obtain ⟨z, hz, H⟩ := optK_true H
    obtain ⟨p, hp, H⟩ := optK_true H
    obtain ⟨cs, H, S⟩ := sim_build (h := h) (nx := nx) hop hz hp H
    exact ⟨_, _, _, H, S⟩
  | buildSlice ty len parts =>
    obtain ⟨e, he, H⟩ := optK_true H
    obtain ⟨size, hs, H⟩ := optK_true H
    obtain ⟨z, hz, H⟩ := optK_true H
    split at H
    · rename_i hc
      simp only [Bool.and_eq_true, Nat.ble_eq] at hc
      rw [forceK_eq] at H
      obtain ⟨cs, H, S⟩ := sim_buildSlice (h := h) (nx := nx) hop he hs hz (Nat.eq_of_beq_eq_true hc.1.1) hc.1.2 hc.2 H
      exact ⟨_, _, _, newK_true H, S⟩
    · cases H
  | load ty x =>
    obtain ⟨v, hx, H⟩ := evK_true H
    obtain ⟨v, H, S⟩ := sim_load (nx := nx) hop hx H
    exact ⟨_, _, _, H, S⟩
  | store ty x y =>
    obtain ⟨p, hx, H⟩ := evK_true H
    obtain ⟨v, hy, H⟩ := evK_true H
    obtain ⟨h', H, S⟩ := sim_store (nx := nx) hop hx hy H
    exact ⟨_, _, _, H, S⟩
  | nilCheck x =>
    obtain ⟨v, hx, H⟩ := evK_true H
    split at H
    · exact ⟨_, _, _, H, sim_nilCheck hop hx (.inl ⟨_, rfl⟩)⟩
    · exact ⟨_, _, _, H, sim_nilCheck hop hx (.inr ⟨_, _, _, rfl⟩)⟩
    · cases H
  | binOp op ty x y ty' =>
    obtain ⟨p, hx, H⟩ := evK_true H
    obtain ⟨v, hy, H⟩ := evK_true H
    obtain ⟨z, H, S⟩ := sim_binOp (h := h) (nx := nx) hop hx hy H
    exact ⟨_, _, _, H, S⟩
  | unOp op ty x =>
    obtain ⟨p, hx, H⟩ := evK_true H
    split at H
    · obtain ⟨z, H, S⟩ := sim_unOp (h := h) (nx := nx) hop hx ‹_› H
      exact ⟨_, _, _, H, S⟩
    · cases H
  | convert s d x =>
    obtain ⟨p, hx, H⟩ := evK_true H
    split at H
    · obtain ⟨z, H, S⟩ := sim_convert_flat (h := h) (nx := nx) hop hx ‹_› H
      exact ⟨_, _, _, H, S⟩
    · split at H
      · rename_i e b off sp n c hs hd _
        split at H
        · rename_i he
          obtain ⟨bs, H, S⟩ := sim_convert_bytes (nx := nx) hop hx hs hd he H
          exact ⟨_, _, _, H, S⟩
        · cases H
      · cases H
  | makeFunc fn first cap =>
    cases fn with
    | func f =>
      obtain ⟨fs, H, hfs⟩ := evLK_true H
      obtain ⟨cs, H, hc⟩ := evLK_true H
      split at H
      · rename_i hp
        simp only [Bool.and_eq_true] at hp
        exact ⟨_, _, _, H, sim_makeFunc hop (fun tr => hfs (tr.sub (by rw [hop]; intro x hx; simp [Op.operands] at hx ⊢; simp [hx]))) (fun tr => hc (tr.sub (by rw [hop]; intro x hx; simp [Op.operands] at hx ⊢; simp [hx]))) hp.1 hp.2⟩
      · cases H
    | _ => cases H
  | makeMap ty r =>
    cases r with
    | none =>
      have H : Tr.setK (some (.map [] 0)) (path nx) h (fun h' => natK (nx + 1) fun nx' => k (some (.map (some nx))) h' nx') = true := H
      rw [Tr.setK_eq, natK_eq] at H
      exact ⟨_, _, _, H, sim_makeMap hop⟩
    | some x => cases H
  | makeSlice ty l c =>
    obtain ⟨e, he, H⟩ := optK_true H
    obtain ⟨size, hs, H⟩ := optK_true H
    obtain ⟨bytes, hb, H⟩ := optK_true H
    obtain ⟨z, hz, H⟩ := optK_true H
    obtain ⟨p, hx, H⟩ := evK_true H
    obtain ⟨v, hy, H⟩ := evK_true H
    split at H
    · split at H
      · rename_i hc
        simp only [Bool.and_eq_true, Nat.ble_eq] at hc
        rw [forceK_eq] at H
        exact ⟨_, _, _, newK_true H, sim_makeSlice hop hx hy he hs hb hz (Nat.eq_of_beq_eq_true hc.1.1.1.1) hc.1.1.1.2 hc.1.1.2 hc.1.2 hc.2⟩
      · cases H
    · cases H
  | slice ty x lo hi mx =>
    obtain ⟨p, hx, H⟩ := evK_true H
    split at H
    · rename_i hf
      obtain ⟨lo', H, h1⟩ := optFlatK_true H
      obtain ⟨hi', H, h2⟩ := optFlatK_true H
      obtain ⟨mx', H, h3⟩ := optFlatK_true H
      obtain ⟨z, H, hz, hrun⟩ := pureK_true H
      refine ⟨_, _, _, H, sim_pure hz fun φ N a w tr => exec_v (s := Instr.sliceAt ty (a.eval x) (lo.map a.eval) (hi.map a.eval) (mx.map a.eval)) (by simp only [execOp, hop]) ?_⟩
      rw [flat_eq hf (ev_rel hx tr (by rw [hop]; simp [Op.operands])), h1 (tr.sub (by rw [hop]; intro x hx; simp [Op.operands] at hx ⊢; simp [hx])), h2 (tr.sub (by rw [hop]; intro x hx; simp [Op.operands] at hx ⊢; simp [hx])), h3 (tr.sub (by rw [hop]; intro x hx; simp [Op.operands] at hx ⊢; simp [hx]))]
      exact hrun w
    · obtain ⟨z, H, S⟩ := sim_slice (nx := nx) hop hx H
      exact ⟨_, _, _, H, S⟩
  | fieldAddr s x f =>
    obtain ⟨p, hx, H⟩ := evK_true H
    obtain ⟨q, hq, H⟩ := optK_true H
    obtain ⟨n, hn, H⟩ := optK_true H
    split at H
    · split at H
      · cases H
      · rename_i h0
        rw [natK_eq] at H
        exact ⟨_, _, _, H, sim_fieldAddr hop hx hq hn (fun e => h0 (by rw [e]; rfl))⟩
    · cases H
  | field s x f =>
    obtain ⟨p, hx, H⟩ := evK_true H
    obtain ⟨q, hq, H⟩ := optK_true H
    split at H
    · rename_i cs n hag hn _
      obtain ⟨h1, H⟩ := dropK_true H
      obtain ⟨h2, H⟩ := takeK_true H
      exact ⟨_, _, _, H, sim_field hop hx hq hn hag (.inl ⟨rfl, by simp at h2 h1 ⊢; omega, rfl⟩)⟩
    · rename_i cs n hag hn _
      obtain ⟨h1, H⟩ := dropK_true H
      split at H
      · rename_i v tl hl
        refine ⟨_, _, _, H, sim_field hop hx hq hn hag (.inr ⟨rfl, ?_⟩)⟩
        have := congrArg (·[0]?) hl
        simpa using this
      · cases H
    · cases H
  | indexAddr ty x i =>
    obtain ⟨p, hx, H⟩ := evK_true H
    obtain ⟨v, hi, H⟩ := evK_true H
    split at H
    · split at H
      · obtain ⟨e, he, H⟩ := optK_true H
        obtain ⟨size, hs, H⟩ := optK_true H
        split at H
        · rename_i hlt
          rw [natK_eq] at H
          exact ⟨_, _, _, H, sim_indexAddr_slice hop hx hi he hs (by simp [Nat.blt] at hlt; omega)⟩
        · cases H
      · obtain ⟨q, hq, H⟩ := optK_true H
        split at H
        · rename_i hlt
          rw [natK_eq] at H
          exact ⟨_, _, _, H, sim_indexAddr_array hop hx hi hq (by simp [Nat.blt] at hlt; omega)⟩
        · cases H
      · cases H
    · cases H
  | index ty x i =>
    obtain ⟨p, hx, H⟩ := evK_true H
    obtain ⟨v, hi, H⟩ := evK_true H
    split at H
    · rename_i hf
      simp only [Bool.and_eq_true] at hf
      obtain ⟨z, H, S⟩ := sim_index (h := h) (nx := nx) hop hx hi hf.1 hf.2 H
      exact ⟨_, _, _, H, S⟩
    · cases H
  | extract x i =>
    obtain ⟨p, hx, H⟩ := evK_true H
    split at H
    · obtain ⟨v, hv, H⟩ := optK_true H
      exact ⟨_, _, _, H, sim_extract hop hx hv⟩
    · cases H
  | lookup ty x i ok =>
    obtain ⟨m, hx, H⟩ := evK_true H
    obtain ⟨key, hi, H⟩ := evK_true H
    split at H
    · rename_i hk
      split at H
      · rename_i kt et hu
        obtain ⟨_, _, H⟩ := optK_true H
        split at H
        · rename_i b
          split at H
          · rename_i es ck hm
            obtain ⟨u, hck, H⟩ := optK_true H
            obtain ⟨r, hr, H⟩ := optK_true H
            obtain ⟨z, hz, H⟩ := optK_true H
            split at H
            · exact ⟨_, _, _, H, sim_lookup hop hx hi hk hu hm hck hr hz (.inl ⟨_, _, rfl, rfl⟩)⟩
            · split at H
              · exact ⟨_, _, _, H, sim_lookup hop hx hi hk hu hm hck hr hz (.inr ⟨rfl, ‹_›, rfl⟩)⟩
              · cases H
          · cases H
        · cases H
      · cases H
    · cases H
  | mapUpdate ty x i y =>
    obtain ⟨m, hx, H⟩ := evK_true H
    obtain ⟨key, hi, H⟩ := evK_true H
    obtain ⟨v, hy, H⟩ := evK_true H
    split at H
    · rename_i hk
      split at H
      · rename_i kt et cs hu hc
        split at H
        · rename_i b
          split at H
          · rename_i es ck hm
            obtain ⟨u, hck, H⟩ := optK_true H
            obtain ⟨r, hr, H⟩ := optK_true H
            split at H
            · rename_i j q
              obtain ⟨e, he, H⟩ := optK_true H
              obtain ⟨nk, hnk, H⟩ := optK_true H
              split at H
              · rename_i hnf
                obtain ⟨hfit, H⟩ := updK_true H
                rw [Tr.setK_eq] at H
                refine ⟨_, _, _, H, sim_mapUpdate hop hx hi hy hk hc hu hm hck hr (.inl ⟨j, q, e, nk, rfl, he, hnk, hnf, ?_, rfl⟩)⟩
                have hlt : j < es.length := (List.getElem?_eq_some_iff.1 he).1
                rw [List.set_eq_take_append_cons_drop, if_pos hlt]
                simp
              · cases H
            · rw [appK_eq, natK_eq, Tr.setK_eq] at H
              exact ⟨_, _, _, H, sim_mapUpdate hop hx hi hy hk hc hu hm hck hr (.inr ⟨rfl, rfl, rfl⟩)⟩
          · cases H
        · cases H
      · cases H
    · cases H
  | call c =>
    simp only [aop, aCall] at H
    split at H
    · rename_i b hb
      obtain ⟨args, H, ha0⟩ := evLK_true H
      have ha : ∀ {φ : Emb} {a : Act}, LR φ t a o.op.operands.toList → FL (VRel φ) args (c.args.toList.map a.eval) := fun tr => ha0 (tr.sub (by rw [hop]; intro x hx; simp [Op.operands, Call.operands, hb] at hx ⊢; simp [hx]))
      clear ha0
      split at H
      · obtain ⟨v, H, S⟩ := sim_len (nx := nx) hop hb ha ‹_› H
        exact ⟨_, _, _, H, S⟩
      · obtain ⟨v, H, S⟩ := sim_cap (h := h) (nx := nx) hop hb ha ‹_› H
        exact ⟨_, _, _, H, S⟩
      · exact sim_append hop hb ha ‹_› H
      · exact sim_copy hop hb ha ‹_› H
      · split at H
        · obtain ⟨v, H, S⟩ := sim_minmax (h := h) (nx := nx) hop hb Builtin.min_ (fun _ _ _ _ => rfl) (fun _ _ _ => rfl) ‹_› ha H
          exact ⟨_, _, _, H, S⟩
        · cases H
      · split at H
        · obtain ⟨v, H, S⟩ := sim_minmax (h := h) (nx := nx) hop hb Builtin.max_ (fun _ _ _ _ => rfl) (fun _ _ _ => rfl) ‹_› ha H
          exact ⟨_, _, _, H, S⟩
        · cases H
      · rename_i htys _
        obtain ⟨e, he, H⟩ := optK_true H
        refine ⟨_, _, _, H, Sim.quiet fun B φ N a w r tr => ?_⟩
        obtain ⟨x', ea, rx⟩ := args1 (t := t) (ha tr)
        obtain ⟨_, _, rfl⟩ := nilslice_inv rx
        obtain ⟨ty1, hty, he⟩ : ∃ ty1, c.argTypes = #[ty1] ∧ sliceT P ty1 = some e := ⟨_, by apply Array.ext'; simpa using htys, he⟩
        refine ⟨.tuple #[], exec_builtin hop hb Builtin.clear_ (fun _ _ _ _ => rfl) ?_, .tuple .nil⟩
        rw [hty, ea]
        simp [Builtin.clear_, run_underlying (sliceT_some he)]
      · rename_i htys _
        obtain ⟨e, he, H⟩ := optK_true H
        split at H
        · rename_i h0
          have h0 := Nat.eq_of_beq_eq_true h0
          refine ⟨_, _, _, H, Sim.quiet fun B φ N a w r tr => ?_⟩
          obtain ⟨x', ea, rx⟩ := args1 (t := t) (ha tr)
          obtain ⟨ty1, hty, he⟩ : ∃ ty1, c.argTypes = #[ty1] ∧ sliceT P ty1 = some e := ⟨_, by apply Array.ext'; simpa using htys, he⟩
          refine ⟨.tuple #[], exec_builtin hop hb Builtin.clear_ (fun _ _ _ _ => rfl) ?_, .tuple .nil⟩
          rw [hty, ea]
          rcases slice_inv rx with ⟨E, c', _, _, _, _, _, e1⟩ | ⟨_, _, a', e1⟩ <;> subst e1
          · subst h0; simp [Builtin.clear_, run_underlying (sliceT_some he)]
          · simp [Builtin.clear_, run_underlying (sliceT_some he)]
        · rename_i h0
          obtain ⟨size, hs, H⟩ := optK_true H
          obtain ⟨z, hz, H⟩ := optK_true H
          split at H
          · rename_i hzs
            rw [forceK_eq] at H
            obtain ⟨h', H, S⟩ := sim_clear (nx := nx) hop hb ha htys (fun e => h0 (by rw [e]; rfl)) he hs hz (Nat.eq_of_beq_eq_true hzs) H
            exact ⟨_, _, _, H, S⟩
          · cases H
      · cases H
    · cases H
  | _ => cases H
end Go.AM

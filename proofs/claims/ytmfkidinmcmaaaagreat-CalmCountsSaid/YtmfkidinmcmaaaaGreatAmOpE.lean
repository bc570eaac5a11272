/- AM, part 8: slice expressions, append, copy, clear, len, cap. -/
import Derived.Test.YtmfkidinmcmaaaaGreatAmOpD
set_option linter.unusedVariables false
set_option linter.unusedSimpArgs false
namespace Go.AM
variable {P : Program}
theorem bndK_true {t : Tmps} {x : Option Operand} {d : Nat} {k : Nat → Bool} (H : bndK t x d k = true) :
    ∃ m, k m = true ∧ ((x = none ∧ m = d) ∨ ∃ x' kk, x = some x' ∧ ev t x' = some (.int kk (.ofNat m))) := by
  unfold bndK at H
  split at H
  · exact ⟨d, H, .inl ⟨rfl, rfl⟩⟩
  · obtain ⟨v, e, H⟩ := evK_true H
    split at H
    · exact ⟨_, H, .inr ⟨_, _, rfl, e⟩⟩
    · cases H
theorem run_bound (kk : IntKind) (i y : Nat) (code : BoundsCode) (h : i ≤ y) (w : World) : (Instr.sliceBound (.int kk (.ofNat i)) y code).run P w = .ok i w := by
  have : (0 : Int) ≤ Int.ofNat i ∧ Int.ofNat i ≤ (y : Int) := ⟨by simp, by simp; omega⟩
  simp [Instr.sliceBound, asIntOf]
  omega
theorem run_bound' (kk : IntKind) (i y : Nat) (code : BoundsCode) (h : i ≤ y) (w : World) : (Instr.sliceBound (.int kk (i : Int)) y code).run P w = .ok i w := run_bound kk i y code h w
theorem run_bounds {n c' m m' hh l : Nat} {lo hi mx : Option Value} (hm : (mx = none ∧ m' = c') ∨ ∃ kk, mx = some (.int kk (.ofNat m')) ∧ hi ≠ none) (hh' : (hi = none ∧ hh = n) ∨ ∃ kk, hi = some (.int kk (.ofNat hh)))
    (hl : (lo = none ∧ l = 0) ∨ ∃ kk, lo = some (.int kk (.ofNat l))) (h1 : l ≤ hh) (h2 : hh ≤ m') (h3 : m' ≤ c') (w : World) : (Instr.sliceBounds true n c' lo hi mx).run P w = .ok (l, hh, m') w := by
  rcases hm with ⟨rfl, rfl⟩ | ⟨k1, rfl, hne⟩ <;> rcases hh' with ⟨rfl, rfl⟩ | ⟨k2, rfl⟩ <;> rcases hl with ⟨rfl, rfl⟩ | ⟨k3, rfl⟩ <;>
    simp_all [Instr.sliceBounds, run_bound']
theorem sim_slice {o : Oper} {ty : TypeId} {x : Operand} {lo hi mx : Option Operand} (ho : o.op = .slice ty x lo hi mx) {t : Tmps} {h : Heap} {nx : Nat} {u : Value} (hx : ev t x = some u) {k : Value → Bool} (H : sliceK P t h ty u lo hi mx k = true) :
    ∃ z, k z = true ∧ Sim P o t h nx (some z) h nx := by
  unfold sliceK at H
  split at H
  · rename_i b off sp n c
    split at H
    · rename_i e he
      obtain ⟨size, hs, H1⟩ := optK_true H
      obtain ⟨m, H2, hm⟩ := bndK_true H1
      obtain ⟨hh, H3, hhh⟩ := bndK_true H2
      obtain ⟨l, H4, hl⟩ := bndK_true H3
      clear H H1 H2 H3
      split at H4
      · rename_i hcond
        simp only [Bool.and_eq_true, Nat.ble_eq, Bool.or_eq_true] at hcond
        obtain ⟨⟨⟨hc1, hc2⟩, hc3⟩, hc4⟩ := hcond
        have hu := sliceT_some he
        -- the model's side
        have run : ∀ {φ : Emb} {a : Act} {w : World} {A : Option Addr} {c' : Nat}, LR φ t a o.op.operands.toList → a.eval x = .slice A n c' → c ≤ c' →
            ∃ m', ((mx = none ∧ m' = c') ∨ (mx ≠ none ∧ m' = m)) ∧
              (execOp a.eval o).run P w = .ok (.value (.slice (if m' = l then A else A.map (·.add (l * size))) (hh - l) (m' - l))) w := by
          intro φ a w A c' tr ea hcc
          have key : ∀ m', m ≤ m' → m' ≤ c' → ((mx = none ∧ m' = c') ∨ (mx ≠ none ∧ m' = m)) →
              (execOp a.eval o).run P w = .ok (.value (.slice (if m' = l then A else A.map (·.add (l * size))) (hh - l) (m' - l))) w := by
            intro m' g1 g2 g3
            refine exec_v (s := Instr.sliceAt ty (a.eval x) (lo.map a.eval) (hi.map a.eval) (mx.map a.eval)) (by simp only [execOp, ho]) ?_
            have hb := run_bounds (P := P) (n := n) (c' := c') (m' := m') (hh := hh) (l := l) (lo := lo.map a.eval) (hi := hi.map a.eval) (mx := mx.map a.eval) (m := m)
              (by
                rcases hm with ⟨rfl, rfl⟩ | ⟨x', kk, rfl, ex⟩
                · rcases g3 with ⟨_, rfl⟩ | ⟨g3, _⟩
                  · exact .inl ⟨rfl, rfl⟩
                  · exact (g3 rfl).elim
                · rcases g3 with ⟨g3, _⟩ | ⟨_, rfl⟩
                  · cases g3
                  · refine .inr ⟨kk, ?_, ?_⟩
                    · simp only [Option.map_some]; rw [flat_eq rfl (ev_rel ex tr (by rw [ho]; simp [Op.operands]))]
                    · rcases hc4 with hc4 | hc4
                      · cases hc4
                      · cases hi with
                        | none => cases hc4
                        | some _ => simp)
              (by
                rcases hhh with ⟨rfl, rfl⟩ | ⟨x', kk, rfl, ex⟩
                · exact .inl ⟨rfl, rfl⟩
                · exact .inr ⟨kk, by simp only [Option.map_some]; rw [flat_eq rfl (ev_rel ex tr (by rw [ho]; simp [Op.operands]))]⟩)
              (by
                rcases hl with ⟨rfl, rfl⟩ | ⟨x', kk, rfl, ex⟩
                · exact .inl ⟨rfl, rfl⟩
                · exact .inr ⟨kk, by simp only [Option.map_some]; rw [flat_eq rfl (ev_rel ex tr (by rw [ho]; simp [Op.operands]))]⟩)
              hc1 (by omega) g2 w
            simp only [Instr.sliceAt, Sem.run_bind, run_underlying hu, Result.andThen_ok, ea, Instr.slice, hb, run_szT hs, Sem.run_pure]
          rcases hm with ⟨rfl, rfl⟩ | ⟨x', kk, rfl, ex⟩
          · exact ⟨c', .inl ⟨rfl, rfl⟩, key c' hcc (Nat.le_refl _) (.inl ⟨rfl, rfl⟩)⟩
          · exact ⟨m, .inr ⟨by simp, rfl⟩, key m (Nat.le_refl _) (by omega) (.inr ⟨by simp, rfl⟩)⟩
        have hsp : ∀ m' c', ((mx = none ∧ m' = c') ∨ (mx ≠ none ∧ m' = m)) → (sp = some 0 → c' = c) → (if mx.isSome then some 0 else sp) = some 0 → (mx = none → m = c) → m' - l = m - l := by
          intro m' c' g1 g2 g3 g4
          rcases g1 with ⟨rfl, rfl⟩ | ⟨_, rfl⟩
          · simp at g3; rw [g2 g3, g4 rfl]
          · rfl
        have hmc : mx = none → m = c := by
          intro e; rcases hm with ⟨_, rfl⟩ | ⟨_, _, e', _⟩
          · rfl
          · rw [e] at e'; cases e'
        split at H4
        · rename_i hc0
          obtain rfl := Nat.eq_of_beq_eq_true hc0
          have hz : l = 0 ∧ hh = 0 ∧ m = 0 := by omega
          obtain ⟨rfl, rfl, rfl⟩ := hz
          refine ⟨_, H4, Sim.quiet fun B φ N a w r tr => ?_⟩
          rcases slice_inv (ev_rel hx tr (by rw [ho]; simp [Op.operands])) with ⟨E, c', hb, h1, h2, h3, h4, e1⟩ | ⟨rfl, _, a', e1⟩
          · obtain ⟨m', g1, g2⟩ := run (w := w) tr e1 h2
            refine ⟨_, g2, .one (.cell ?_)⟩
            by_cases h0 : m' = 0
            · subst h0; simp only [if_true]; exact .sliceEnd
            · rw [if_neg h0]
              simp only [Option.map_some, Nat.zero_mul]
              have : (⟨E.c, off + E.δ, none⟩ : Addr).add 0 = ⟨E.c, off + E.δ, none⟩ := by rw [add_plain]; rfl
              rw [this]
              refine .slice hb (fun g3 => ?_) (Nat.zero_le _) (Nat.le_refl _) ?_
              · have := hsp m' c' g1 h1 g3 hmc; omega
              · have : m' ≤ c' := by rcases g1 with ⟨_, rfl⟩ | ⟨_, rfl⟩ <;> omega
                have := Nat.mul_le_mul_right E.esz this
                simp only [Nat.sub_zero]
                omega
          · obtain ⟨m', g1, g2⟩ := run (w := w) tr e1 (Nat.le_refl _)
            refine ⟨_, g2, .one (.cell ?_)⟩
            have : m' = 0 := by rcases g1 with ⟨_, rfl⟩ | ⟨_, rfl⟩ <;> rfl
            subst this
            exact .sliceEnd
        · rename_i hc0
          split at H4
          · rename_i cs esz hc
            split at H4
            · rename_i hes
              have hes := Nat.eq_of_beq_eq_true hes
              simp only [natK_eq] at H4
              refine ⟨_, H4, Sim.quiet fun B φ N a w r tr => ?_⟩
              rcases slice_inv (ev_rel hx tr (by rw [ho]; simp [Op.operands])) with ⟨E, c', hb, h1, h2, h3, h4, e1⟩ | ⟨_, h0, _⟩
              · obtain ⟨m', g1, g2⟩ := run (w := w) tr e1 h2
                refine ⟨_, g2, .one (.cell ?_)⟩
                have hEs : E.esz = size := by rw [← hes]; exact (r.cells b E cs esz hb hc).1
                have hmm : m ≤ m' ∧ m' ≤ c' := by rcases g1 with ⟨e, rfl⟩ | ⟨_, rfl⟩ <;> omega
                by_cases h0 : m' = l
                · rw [if_pos h0]
                  have e1 : hh - l = 0 := by omega
                  have e2 : m - l = 0 := by omega
                  have e3 : m' - l = 0 := by omega
                  rw [e1, e2, e3]; exact .sliceEnd
                · rw [if_neg h0]
                  simp only [Option.map_some, add_plain]
                  have : off + E.δ + l * size = off + l * size + E.δ := by omega
                  rw [this]
                  refine .slice hb (fun g3 => hsp m' c' g1 h1 g3 hmc) (by omega) (by omega) ?_
                  rw [hEs] at h4 ⊢
                  have h5 : l * size + (m' - l) * size = m' * size := by rw [← Nat.add_mul]; congr 1; omega
                  have := Nat.mul_le_mul_right size hmm.2
                  omega
              · subst h0; simp at hc0
            · cases H4
          · cases H4
      · cases H4
    · cases H
  · cases H
end Go.AM

/- The frame of a law whose one argument, a struct, is never looked at. -/
import Derived.Test.YtmfkidinmcmaaaaGreatAmP
import Derived.Below
import Derived.Carry
import Derived.ChangeSame
import Derived.WalkKit
import Derived.ProofKit
import Derived.OpenShut
set_option linter.unusedVariables false
namespace Go.AM
open Go.ChangeShapes Go.WideShapes Go.RowKit

theorem oneCell_of_ok {P : Program} {w : World} {r : Reach} {base : Nat} {t : TypeId} {v : Value} (h : Cell.okWide P w r base t v) : v.oneCell' = true := by
  cases v <;> first
    | rfl
    | (unfold Cell.okWide at h
       split at h <;> first
         | (rename_i e; cases e; done)
         | (rename_i e _; cases e; done)
         | (rename_i _ e; cases e; done)
         | (rename_i e e2; cases e2; done)
         | (unfold Cell.ok at h; split at h <;> first | (exact h.elim) | (rename_i e; cases e; done) | (rename_i _ e; cases e; done)))
def anyL (n : Nat) : List Value := List.replicate n (.chan none)
theorem anyL_rel {φ : Emb} : ∀ {l : List Value}, (∀ v ∈ l, v.oneCell' = true) → FL (CRel φ) (anyL l.length) l
  | [], _ => .nil
  | v :: l, h => .cons (.any (h v (by simp))) (anyL_rel fun u hu => h u (by simp [hu]))
theorem ok_agg {P : Program} {w : World} {r : Reach} {base : Nat} {t : TypeId} {v : Value} {fs : Array Field} (ht : P.underlying t = some (.struct fs)) (h : Value.okWide P w r base t v) : ∃ l : List Value, v = .agg ⟨l⟩ ∧ l.length = P.cellsOf t ∧ ∀ u ∈ l, u.oneCell' = true := by
  unfold Value.okWide at h
  rw [ht] at h
  obtain ⟨⟨l⟩, rfl, hs, ts, _, _, hcell⟩ := h
  refine ⟨l, rfl, hs, fun u hu => ?_⟩
  obtain ⟨i, hi⟩ := List.mem_iff_getElem?.1 hu
  obtain ⟨t', _, h'⟩ := hcell i u (by simpa using hi)
  exact oneCell_of_ok h'
theorem ok_agg2 {P : Program} {w : World} {r : Reach} {base : Nat} {t : TypeId} {v : Value} {fs : Array Field} {ts : List TypeId} (ht : P.underlying t = some (.struct fs)) (hts : P.cellTypes P.depth t = some ts) (h : Value.okWide P w r base t v) :
    ∃ l : List Value, v = .agg ⟨l⟩ ∧ l.length = P.cellsOf t ∧ ∀ i u, l[i]? = some u → ∃ t', ts[i % ts.length]? = some t' ∧ Cell.okWide P w r base t' u := by
  unfold Value.okWide at h
  rw [ht] at h
  obtain ⟨⟨l⟩, rfl, hs, ts', hts', _, hcell⟩ := h
  rw [hts] at hts'
  cases hts'
  exact ⟨l, rfl, hs, fun i u hi => hcell i u (by simpa using hi)⟩
theorem cell_int {P : Program} {w : World} {r : Reach} {base : Nat} {t : TypeId} {v : Value} {k : IntKind} (ht : P.underlying t = some (.int k)) (h : Cell.okWide P w r base t v) : ∃ n, v = .int k n := by
  unfold Cell.okWide at h
  rw [ht] at h
  cases v <;> first
    | (simp [Cell.ok, ht] at h; done)
    | (rename_i k' n
       simp only [Cell.ok, ht] at h
       exact ⟨n, by rw [h.1]⟩)
theorem rel_call {P : Program} {f : FuncId} {b : Bool} {h' : Heap} {nx' : Nat} {vs us : List Value} (S : CallSim P f vs .e 0 (.bool b) h' nx') (hr : FL (VRel fun _ => none) vs us) (w : World) :
    Calls P f ⟨us⟩ w fun e w' => e = .returned (.bool b) ∧ Below w.heap.size w w' := by
  refine (S.2 _ _ us w (empty_rel w) hr).mono ?_
  rintro e w' ⟨v', φ', rfl, hr, _, _, fr⟩
  exact ⟨by rw [flat_eq rfl hr], ⟨fr.os, fr.tape, fr.output, fr.size, fr.block⟩⟩
theorem five {l : List Value} (h : l.length = 5) : ∃ c0 c1 c2 c3 c4, l = [c0, c1, c2, c3, c4] := by
  match l, h with
  | [c0, c1, c2, c3, c4], _ => exact ⟨c0, c1, c2, c3, c4, rfl⟩
/-- a struct of five numbers -/
theorem open5 {P : Program} {w : World} {r : Reach} {base : Nat} {t ti : TypeId} {v : Value} {fs : Array Field} {k : IntKind} (ht : P.underlying t = some (.struct fs)) (hts : P.cellTypes P.depth t = some [ti, ti, ti, ti, ti]) (hn : P.cellsOf t = 5) (hi : P.underlying ti = some (.int k))
    (h : Value.okWide P w r base t v) : ∃ a0 a1 a2 a3 a4 : Int, v = .agg ⟨[.int k a0, .int k a1, .int k a2, .int k a3, .int k a4]⟩ := by
  obtain ⟨l, rfl, hl, hc⟩ := ok_agg2 ht hts h
  obtain ⟨c0, c1, c2, c3, c4, rfl⟩ := five (hl.trans hn)
  have num : ∀ (i : Nat) (u : Value), i < 5 → [c0, c1, c2, c3, c4][i]? = some u → ∃ a, u = .int k a := fun i u hi5 hu => by
    obtain ⟨t', ht', h'⟩ := hc i u hu
    have e : t' = ti := by
      have hm : i % 5 = i := Nat.mod_eq_of_lt hi5
      rw [show ([ti, ti, ti, ti, ti] : List TypeId).length = 5 from rfl, hm] at ht'
      match i, hi5, ht' with
      | 0, _, h => exact (Option.some.inj h).symm
      | 1, _, h => exact (Option.some.inj h).symm
      | 2, _, h => exact (Option.some.inj h).symm
      | 3, _, h => exact (Option.some.inj h).symm
      | 4, _, h => exact (Option.some.inj h).symm
    rw [e] at h'
    exact cell_int hi h'
  obtain ⟨a0, rfl⟩ := num 0 c0 (by omega) rfl
  obtain ⟨a1, rfl⟩ := num 1 c1 (by omega) rfl
  obtain ⟨a2, rfl⟩ := num 2 c2 (by omega) rfl
  obtain ⟨a3, rfl⟩ := num 3 c3 (by omega) rfl
  obtain ⟨a4, rfl⟩ := num 4 c4 (by omega) rfl
  exact ⟨a0, a1, a2, a3, a4, rfl⟩
/-- a call with one struct that is never looked at -/
theorem any_call {P : Program} {f : FuncId} {n : Nat} {b : Bool} {h' : Heap} {nx' : Nat} (S : CallSim P f [.agg ⟨anyL n⟩] .e 0 (.bool b) h' nx') {l : List Value} (hl : l.length = n) (ho : ∀ u ∈ l, u.oneCell' = true) (w : World) :
    Calls P f #[.agg ⟨l⟩] w fun e w' => e = .returned (.bool b) ∧ Below w.heap.size w w' := by
  subst hl
  refine (S.2 _ _ [.agg ⟨l⟩] w (empty_rel w) (.cons (.one (.agg (anyL_rel ho))) .nil)).mono ?_
  rintro e w' ⟨v', φ', rfl, hr, _, _, fr⟩
  exact ⟨by rw [flat_eq rfl hr], ⟨fr.os, fr.tape, fr.output, fr.size, fr.block⟩⟩

section
variable {H : Type} {enc : TypeId × Value → H} {P : Program}
/-- the arguments read behind the call as ahead of it -/
theorem again_of_below (hl : laidOutB P = true) {W W' : World} (hb : Below W.heap.size W W') {sp : Nat → Bool} : ∀ {ts : List TypeId} {vs : List Value} {ds : List (DataW H)} {ps : List MemPlace}, (∀ t ∈ ts, P.readableRec t = true ∧ t < P.types.size) →
    DataW.TrodAll enc P W 0 (fun _ => true) true ts vs ds ps → (∀ p ∈ ps, p.block < W.heap.size) → (∀ p ∈ ps, sp p.block = true) → DataW.TrodAll enc P W' 0 sp true ts vs ds ps
  | [], [], [], _, _, h, _, _ => h
  | t :: ts, v :: vs, d :: ds, _, hT, ⟨p, q, h1, h2, e⟩, hlt, hs => by
    subst e
    exact ⟨p, q, WideElems.Trod_stays hl (hT t (by simp)).1 (hT t (by simp)).2 h1 (fun x hx => hb.same (hlt x (by simp [hx]))) (fun x hx => hs x (by simp [hx])),
      again_of_below hl hb (fun t ht => hT t (by simp [ht])) h2 (fun x hx => hlt x (by simp [hx])) (fun x hx => hs x (by simp [hx])), rfl⟩
  | [], _ :: _, _, _, _, h, _, _ => h.elim
  | [], [], _ :: _, _, _, h, _, _ => h.elim
  | _ :: _, [], _, _, _, h, _, _ => h.elim
  | _ :: _, _ :: _, [], _, _, h, _, _ => h.elim
/-- what a law's row asks behind the call, where the call returned true and nothing old has turned -/
theorem law_post {f : Func} {s : ChangeSpec} {apart fresh handsOn : Bool} {W W' : World} {args : Array Value} {ds : List (DataW H)} {before : List MemPlace} {t : TypeId} (hl : laidOutB P = true) (hT : ∀ t ∈ f.params.toList, P.readableRec t = true ∧ t < P.types.size)
    (hv : s.vars = []) (hrt : f.resultTypes = #[t]) (ht : P.underlying t = some .bool) (hW : DataW.Whole enc P f.params.toList s.vars apart W args.toList ds [] before) (hfn : s.fn H ds = { results := [.lit (.bool true)], args := ds }) (hb : Below W.heap.size W W') :
    s.post enc P f apart fresh handsOn false W args (.bool true) W' := by
  have hlt : ∀ p ∈ before, p.block < W.heap.size := fun p hp => hW.lt p hp
  have hW0 := hW
  obtain ⟨p, q, hA, hV, hpq, _, _⟩ := hW
  rw [hv] at hV
  have hq : q = [] := hV
  have hp : before = p := by rw [hpq, hq, List.append_nil]
  subst hp
  have e : s.fn H (ds ++ []) = { results := [.lit (.bool true)], args := ds } := by rw [List.append_nil]; exact hfn
  refine ⟨ds, [], before, [], before, [], hW0, ?_, ?_, ?_, ?_, fun h => by cases h⟩
  · rw [e, hrt]
    exact trodAll_mk1 (shut_bool ht _)
  · rw [e]
    exact again_of_below hl hb hT hA hlt fun x hx => decide_eq_true (hlt x hx)
  · rw [e, hv]; exact rfl
  · exact World.keptBut_mono (fun x hx => ⟨hx, .inr (.inl hx)⟩) (hb.frame (· ∈ before))
end
end Go.AM

/- AM, part 9: append, copy. -/
import Derived.Test.YtmfkidinmcmaaaaGreatAmOpE
set_option linter.unusedVariables false
set_option linter.unusedSimpArgs false
namespace Go.AM
variable {P : Program}
/-- what append or copy reads out of its second argument -/
structure Src (P : Program) (size : Nat) (x' : Value) (n : Nat) (l' : List Value) (w : World) : Prop where
  len : ∀ w'' : World, (Builtin.lenOf x').run P w'' = .ok n w''
  first : ∀ (m : Nat) (w'' : World), m ≤ n → w''.heap = w.heap → (Builtin.firstCells size m x').run P w'' = .ok (l'.take (m * size)).toArray w''
  length : l'.length = n * size
theorem run_first {size m : Nat} {A : Addr} {n c : Nat} {l' : List Value} {w : World} (hl : l'.length = m * size) (h : ∀ (j : Nat) (v : Value), l'[j]? = some v → w.cell? (A.add j) = some v) :
    (Builtin.firstCells size m (.slice (some A) n c)).run P w = .ok l'.toArray w := by
  have := run_loadCells_list (P := P) w A l' h
  rw [hl] at this
  simpa [Builtin.firstCells] using this
theorem cell?_heap {w w' : World} (h : w'.heap = w.heap) (a : Addr) : w'.cell? a = w.cell? a := by simp [World.cell?, h]
theorem srcK_true {size : Nat} {x : Value} {h : Heap} {k : Nat → List Value → Bool} (H : srcK size x h k = true) :
    ∃ n l, k n l = true ∧ ∀ {B : Nat} {φ : Emb} {nx : Nat} {w : World} {x' : Value}, Rel B φ h nx w → VRel φ x x' → ∃ l', FL (CRel φ) l l' ∧ Src P size x' n l' w := by
  unfold srcK at H
  split at H
  · rename_i n c
    split at H
    · rename_i h0
      obtain rfl := Nat.eq_of_beq_eq_true h0
      refine ⟨0, [], H, fun {B φ nx w x'} r rx => ⟨[], .nil, ?_⟩⟩
      cases rx with
      | one rx => cases rx with
        | cell rx => cases rx with
          | sliceNil => exact ⟨fun _ => rfl, fun m w'' hm _ => by have : m = 0 := by omega
                                                                  subst this; simp [Builtin.firstCells], by simp⟩
    · cases H
  · rename_i b o sp n c
    split at H
    · rename_i h0
      obtain rfl := Nat.eq_of_beq_eq_true h0
      refine ⟨0, [], H, fun {B φ nx w x'} r rx => ⟨[], .nil, ?_⟩⟩
      have key : ∀ A c', Src P size (.slice (some A) 0 c') 0 [] w := fun A c' =>
        ⟨fun _ => rfl, fun m w'' hm _ => by have : m = 0 := by omega
                                            subst this; simp [Builtin.firstCells, loadCells, loadCellsFrom], by simp⟩
      rcases slice_inv rx with ⟨E, c', hb, h1, h2, h3, h4, e1⟩ | ⟨_, _, a', e1⟩ <;> (subst e1; exact key _ _)
    · rename_i h0
      rw [natK_eq] at H
      obtain ⟨cs, esz, hc, hfit, H⟩ := cellsK_true H
      refine ⟨n, _, H, fun {B φ nx w x'} r rx => ?_⟩
      rcases slice_inv rx with ⟨E, c', hb, h1, h2, h3, h4, e1⟩ | ⟨h00, _, a', e1⟩
      · subst e1
        obtain ⟨l', hl, hcell, hfl⟩ := r.load hb hc hfit
        refine ⟨l', hfl, fun _ => rfl, fun m w'' hm hw => ?_, hl⟩
        have hms : m * size ≤ n * size := Nat.mul_le_mul_right _ hm
        refine run_first (by simp; omega) fun j v hj => ?_
        rw [cell?_heap hw]
        rw [List.getElem?_take] at hj
        split at hj
        · exact hcell j v hj
        · cases hj
      · subst h00; simp at h0
  · rename_i s
    split at H
    · rename_i hs1
      obtain rfl := Nat.eq_of_beq_eq_true hs1
      rw [natK_eq, forceK_eq] at H
      refine ⟨_, _, H, fun {B φ nx w x'} r rx => ?_⟩
      have hx : x' = .string s := flat_eq rfl rx
      subst hx
      refine ⟨_, flatL_rel ?_, fun _ => rfl, fun m w'' hm hw => ?_, by rw [Nat.mul_one, List.length_map]; rfl⟩
      · generalize s.data.toList = l
        induction l with
        | nil => rfl
        | cons b l ih => simp only [List.map_cons, flatL, flat1, Bool.true_and]; exact ih
      · simp only [Builtin.firstCells, Nat.mul_one, Sem.run_pure]
        congr 1
        apply Array.ext'
        have he : (s.extract 0 m).data.toList = s.data.toList.take m := by
          rw [ByteArray.data_extract, Array.toList_extract]
          simp [List.extract]
        rw [Array.toList_map, he, List.map_take]
    · cases H
  · cases H
/-- the second argument of append: its elements, or so many zero elements -/
inductive Arg (P : Program) (e : TypeId) (size bytes : Nat) (xT : TypeId) (x' : Value) (n : Nat) (l' : List Value) (w : World) : Prop
  | src (d : TypeDesc) : P.underlying xT = some d → (d = .string ∨ ∃ e', d = .slice e') → Src P size x' n l' w → Arg P e size bytes xT x' n l' w
  | zeros (k : IntKind) (i : TypeInfo) (z : Value) : P.underlying xT = some (.int k) → x' = .int .i64 (.ofNat n) → P.info? e = some i → i.zero = some z → n * bytes ≤ 70368744177664 → n ≤ 70368744177664 →
      z.cells.size = size → l' = (Builtin.zeroCells z.cells n).toList → Arg P e size bytes xT x' n l' w
theorem Arg.length {e : TypeId} {size bytes : Nat} {xT : TypeId} {x' : Value} {n : Nat} {l' : List Value} {w : World} (h : Arg P e size bytes xT x' n l' w) : l'.length = n * size := by
  cases h with
  | src d _ _ s => exact s.length
  | zeros k i z _ _ _ _ _ _ hz hl => subst hl; simp [Builtin.zeroCells, hz]
section
variable {sT e xT ty : TypeId} {i : TypeInfo} {z : Value} {size bytes : Nat} {x' : Value} {n : Nat} {l' : List Value} {w : World}
variable (hu : P.underlying sT = some (.slice e)) (hi : P.info? e = some i) (hz : i.zero = some z) (hsz : i.size = size) (hby : i.bytes = bytes)
include hu hi hz hsz hby
theorem run_append_in (hx : Arg P e size bytes xT x' n l' w) (base : Option Addr) (sLen sCap : Nat) (h : sLen + n ≤ sCap) :
    (Builtin.append_ #[sT, xT] ty #[.slice base sLen sCap, x']).run P w =
      ((match base with | some a => storeCells (a.add (sLen * size)) l' | none => pure ()).run P w).andThen fun _ w' => .ok (.slice base (sLen + n) sCap) w' := by
  cases hx with
  | src d hd hne s =>
    have h1 := s.first n w (Nat.le_refl _) rfl
    rw [← s.length, List.take_length] at h1
    rcases hne with rfl | ⟨e', rfl⟩ <;> cases base <;> simp [Builtin.append_, run_underlying hu, run_underlying hd, sizeOf, typeInfo, hi, hsz, s.len, h, h1]
  | zeros k i2 z2 hd hx' hi2 hz2 hb hn hzs hl =>
    subst hx'
    rw [hi] at hi2; cases hi2
    rw [hz] at hz2; cases hz2
    have hw : IntKind.i64.wrap (n : Int) = (n : Int) := Go.IntWalk.i64_in _ (by omega)
    have h1 : ¬ ((n : Int) < 0) := by omega
    have h2 : ¬ (281474976710656 < (n : Int) * (bytes : Int)) := by
      have : (n : Int) * (bytes : Int) = ((n * bytes : Nat) : Int) := by simp
      omega
    have hzero : (if n * size = 0 then (pure #[] : Sem (Array Value)) else do pure (Builtin.zeroCells (← zeroValue e).cells n)).run P w = .ok l'.toArray w := by
      split
      · rename_i h0
        have : l' = [] := List.eq_nil_of_length_eq_zero (by rw [hl]; simp [Builtin.zeroCells, hzs, h0])
        rw [this]; rfl
      · rw [hl]; simp [run_zeroT hi hz]
    rw [Sem.run_ite] at hzero
    by_cases h0 : n * size = 0
    · rw [if_pos h0] at hzero
      have hl0 : l' = [] := by injection hzero with hzero; simpa using congrArg Array.toList hzero.symm
      cases base <;> simp [Builtin.append_, run_underlying hu, run_underlying hd, sizeOf, typeInfo, asInt, asIntOf, hi, hsz, hby, hw, h1, h2, h, h0, hl0, storeCells]
    · rw [if_neg h0] at hzero
      simp only [Sem.run_bind, run_zeroT hi hz, Result.andThen_ok, Sem.run_pure] at hzero
      have hl0 : (Builtin.zeroCells z.cells n).toList = l' := by injection hzero with hzero; simpa using congrArg Array.toList hzero
      cases base <;> simp [Builtin.append_, run_underlying hu, run_underlying hd, sizeOf, typeInfo, asInt, asIntOf, hi, hsz, hby, hw, h1, h2, h, h0, run_zeroT hi hz, hl0]
theorem run_append_re (hx : Arg P e size bytes xT x' n l' w) (base : Option Addr) (sLen sCap : Nat) (old : List Value) (h : sCap < sLen + n) (hb1 : 1 ≤ bytes) (hfit : (sLen + n) * bytes ≤ 70368744177664)
    (hold : ∀ w'' : World, w''.heap = w.heap → (Builtin.firstCells size sLen (.slice base sLen sCap)).run P w'' = .ok old.toArray w'') :
    ∃ newCap arr, sLen + n ≤ newCap ∧ arr = old.toArray ++ l'.toArray ++ Builtin.zeroCells z.cells (newCap - (sLen + n)) ∧
      (Builtin.append_ #[sT, xT] ty #[.slice base sLen sCap, x']).run P w = .ok (.slice (some ⟨w.heap.size, 0, none⟩) (sLen + n) newCap) (w.drew.alloc (.cells arr e)) := by
  have hn : ¬ (sLen + n ≤ sCap) := by omega
  have hneed : sLen + n ≤ 70368744177664 := by
    have := Nat.mul_le_mul_left (sLen + n) hb1
    omega
  have h63' : ¬ (9223372036854775807 < ((sLen : Int) + (n : Int))) := by omega
  have h48' : ¬ (281474976710656 < Builtin.nextslicecap (sLen + n) sCap * bytes) := by
    have := growslice_fits (need := sLen + n) (old := sCap) (bytes := bytes) h (by omega)
    omega
  have hcap : sLen + n ≤ grownCap w (sLen + n) sCap e := by
    unfold grownCap
    simp only [Question.cut]
    omega
  refine ⟨grownCap w (sLen + n) sCap e, _, hcap, rfl, ?_⟩
  have hold' := hold w.drew rfl
  cases hx with
  | src d hd hne s =>
    have h1 := s.first n w.drew (Nat.le_refl _) rfl
    rw [← s.length, List.take_length] at h1
    rcases hne with rfl | ⟨e', rfl⟩
    all_goals
      simp [Builtin.append_, run_underlying hu, run_underlying hd, sizeOf, typeInfo, zeroValue, hi, hz, hsz, hby, s.len, hn, h63', h48', Question.forced, h1, hold', newRow, grownCap]
      try (congr 2; apply Array.ext'; simp [List.append_assoc])
  | zeros k i2 z2 hd hx' hi2 hz2 hb hn2 hzs hl =>
    subst hx'
    rw [hi] at hi2; cases hi2
    rw [hz] at hz2; cases hz2
    have hw : IntKind.i64.wrap (n : Int) = (n : Int) := Go.IntWalk.i64_in _ (by omega)
    have h1 : ¬ ((n : Int) < 0) := by omega
    have h2 : ¬ (281474976710656 < (n : Int) * (bytes : Int)) := by
      have : (n : Int) * (bytes : Int) = ((n * bytes : Nat) : Int) := by simp
      omega
    have hzero : ∀ w : World, (if n * size = 0 then (pure #[] : Sem (Array Value)) else do pure (Builtin.zeroCells (← zeroValue e).cells n)).run P w = .ok l'.toArray w := by
      intro w
      split
      · rename_i h0
        have : l' = [] := List.eq_nil_of_length_eq_zero (by rw [hl]; simp [Builtin.zeroCells, hzs, h0])
        rw [this]; rfl
      · rw [hl]; simp [run_zeroT hi hz]
    by_cases h0 : n * size = 0
    · have hz0 := hzero w
      rw [Sem.run_ite, if_pos h0] at hz0
      have hl0 : l' = [] := by injection hz0 with hz0; simpa using congrArg Array.toList hz0.symm
      simp [Builtin.append_, run_underlying hu, run_underlying hd, sizeOf, typeInfo, asInt, asIntOf, hi, hsz, hby, hw, h1, h2, hn, h0, hl0, h63', h48', Question.forced, zeroValue, hz, hold', newRow, grownCap]
      try (congr 2; apply Array.ext'; simp [List.append_assoc])
    · have hz0 := hzero w
      rw [Sem.run_ite, if_neg h0] at hz0
      simp only [Sem.run_bind, run_zeroT hi hz, Result.andThen_ok, Sem.run_pure] at hz0
      have hl0 : Builtin.zeroCells z.cells n = l'.toArray := by injection hz0
      simp [Builtin.append_, run_underlying hu, run_underlying hd, sizeOf, typeInfo, asInt, asIntOf, hi, hsz, hby, hw, h1, h2, hn, h0, hl0, h63', h48', Question.forced, zeroValue, hz, hold', newRow, grownCap]
      try (congr 2; apply Array.ext'; simp [List.append_assoc])
end
end Go.AM

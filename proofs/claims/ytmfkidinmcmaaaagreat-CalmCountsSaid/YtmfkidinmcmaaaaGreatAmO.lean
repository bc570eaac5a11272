/- H, part 11: memory, made quick for the kernel. -/
import Derived.Test.YtmfkidinmcmaaaaGreatAmN
set_option linter.unusedVariables false
set_option linter.unusedSimpArgs false
namespace Go.AM
variable {P : Program}
/-! ### the heap by numbers -/
noncomputable def Tr.getN {α : Type} : Tr α → Nat → Option α :=
  @Tr.rec α (fun _ => Nat → Option α) (fun _ => none)
    (fun _ x _ ihl ihr k => @Nat.rec (fun _ => Option α) x (fun _ _ => @Bool.rec (fun _ => Option α) (ihl (Nat.div k 2)) (ihr (Nat.div k 2)) (Nat.beq (Nat.mod k 2) 1)) k)
theorem bits_any : ∀ (f g k : Nat), k ≤ f → k ≤ g → bits f k = bits g k := by
  intro f
  induction f with
  | zero =>
    intro g k hf hg
    have : k = 0 := by omega
    subst this
    cases g <;> rfl
  | succ f ih =>
    intro g k hf hg
    cases k with
    | zero => cases g <;> rfl
    | succ k =>
      cases g with
      | zero => omega
      | succ g =>
        show Nat.beq (Nat.mod (k+1) 2) 1 :: bits f (Nat.div (k+1) 2) = Nat.beq (Nat.mod (k+1) 2) 1 :: bits g (Nat.div (k+1) 2)
        have h1 : Nat.div (k+1) 2 ≤ k := by show (k+1)/2 ≤ k; omega
        rw [ih g _ (by omega) (by omega)]
theorem path_succ (k : Nat) : path (k + 1) = Nat.beq (Nat.mod (k+1) 2) 1 :: path (Nat.div (k+1) 2) := by
  show Nat.beq (Nat.mod (k+1) 2) 1 :: bits k (Nat.div (k+1) 2) = _
  have h1 : Nat.div (k+1) 2 ≤ k := by show (k+1)/2 ≤ k; omega
  rw [show path (Nat.div (k+1) 2) = bits (Nat.div (k+1) 2) (Nat.div (k+1) 2) from rfl, bits_any k _ _ h1 (Nat.le_refl _)]
theorem Tr.getN_eq {α : Type} (m : Tr α) : ∀ k, Tr.getN m k = Tr.get (path k) m := by
  induction m with
  | e => intro k; exact (Tr.get_e _).symm
  | n l x r ihl ihr =>
    intro k
    cases k with
    | zero => rfl
    | succ k =>
      rw [path_succ]
      show (@Bool.rec (fun _ => Option α) (Tr.getN l (Nat.div (k+1) 2)) (Tr.getN r (Nat.div (k+1) 2)) (Nat.beq (Nat.mod (k+1) 2) 1)) = _
      cases Nat.beq (Nat.mod (k+1) 2) 1
      · exact ihl _
      · exact ihr _
noncomputable def hBlk (h : Heap) (b : Nat) (c : List Value → Nat → Bool) : Bool :=
  @Option.rec Blk (fun _ => Bool) false (fun blk => @Blk.rec (fun _ => Bool) (fun cs esz => c cs esz) (fun _ _ => false) blk) (Tr.getN h b)
theorem hBlk_true {h : Heap} {b : Nat} {c : List Value → Nat → Bool} (H : hBlk h b c = true) : ∃ cs esz, h.at b = some (.cells cs esz) ∧ c cs esz = true := by
  unfold hBlk at H
  rw [Tr.getN_eq] at H
  unfold Heap.at
  cases e : Tr.get (path b) h with
  | none => rw [e] at H; cases H
  | some blk =>
    rw [e] at H
    cases blk with
    | cells cs esz => exact ⟨cs, esz, rfl, H⟩
    | map _ _ => cases H
noncomputable def nthK : Nat → List Value → (Value → Bool) → Bool :=
  @Nat.rec (fun _ => List Value → (Value → Bool) → Bool) (fun cs G => @List.rec Value (fun _ => Bool) false (fun v _ _ => G v) cs)
    (fun _ ih cs G => @List.rec Value (fun _ => Bool) false (fun _ cs' _ => ih cs' G) cs)
theorem nthK_true : ∀ {o : Nat} {cs : List Value} {G : Value → Bool}, nthK o cs G = true → ∃ v, cs[o]? = some v ∧ G v = true
  | 0, [], _, H => by cases H
  | 0, v :: _, _, H => ⟨v, rfl, H⟩
  | o + 1, [], _, H => by cases H
  | o + 1, _ :: cs, _, H => nthK_true (o := o) (cs := cs) H
theorem nthK_drop : ∀ {o : Nat} {cs : List Value} {v : Value}, cs[o]? = some v → ∀ k : List Value → Bool, dropK o cs (fun l => takeK 1 l k) = k [v]
  | 0, [], _, h, _ => by simp at h
  | 0, u :: _, v, h, k => by simp at h; subst h; rfl
  | o + 1, [], _, h, _ => by simp at h
  | o + 1, _ :: cs, v, h, k => nthK_drop (o := o) (cs := cs) (by simpa using h) k
variable {ty : TypeId} {h : Heap}
noncomputable def fLoad1 (p : Value) (h : Heap) (G : Value → Bool) : Bool := vPtr p fun b o => hBlk h b fun cs _ => nthK o cs G
theorem fLoad1_t {n : Nat} {p : Value} {G : Value → Bool} (ha : isAggT P ty = some false) (hs : szT P ty = some n) (H : fLoad1 p h G = true) : loadK P ty p h G = true := by
  obtain ⟨b, o, rfl, H⟩ := vPtr_true H
  obtain ⟨cs, esz, hb, H⟩ := hBlk_true H
  obtain ⟨v, hv, H⟩ := nthK_true H
  simp only [loadK, ha, hs, cellsK, hb]
  rw [nthK_drop hv]; exact H
noncomputable def fLoadA (n : Nat) (p : Value) (h : Heap) (G : Value → Bool) : Bool := vPtr p fun b o => hBlk h b fun cs _ => dropK o cs fun l => takeK n l fun l => G (.agg ⟨l⟩)
theorem fLoadA_t {n : Nat} {p : Value} {G : Value → Bool} (ha : isAggT P ty = some true) (hs : szT P ty = some n) (H : fLoadA n p h G = true) : loadK P ty p h G = true := by
  obtain ⟨b, o, rfl, H⟩ := vPtr_true H
  obtain ⟨cs, esz, hb, H⟩ := hBlk_true H
  simp only [loadK, ha, hs, cellsK, hb]
  exact H
noncomputable def fStore1 (p v : Value) (h : Heap) (G : Heap → Bool) : Bool := vPtr p fun b o => vOne v (hBlk h b fun cs esz => updK [v] o cs fun cs' => Tr.setK (some (.cells cs' esz)) (path b) h G)
theorem fStore1_t {p v : Value} {G : Heap → Bool} (hs : szT P ty = some 1) (H : fStore1 p v h G = true) : storeK P ty p v h G = true := by
  obtain ⟨b, o, rfl, H⟩ := vPtr_true H
  obtain ⟨hv, H⟩ := vOne_true H
  obtain ⟨cs, esz, hb, H⟩ := hBlk_true H
  simp only [storeK, hv, hs]
  show writeK h b o [v] G = true
  simp only [writeK, hb]
  exact H
noncomputable def fFieldAddr (off : Nat) (p : Value) (G : Value → Bool) : Bool := vPtr p fun b o => natK (Nat.add o off) fun o' => G (.pointer (some ⟨b, o', none⟩))
theorem fFieldAddr_t {s t : TypeId} {f off n : Nat} {p : Value} {G : Value → Bool} (hf : fieldT P s f = some (off, t)) (hs : szT P t = some (n + 1)) (H : fFieldAddr off p G = true) : hFieldAddr P s p f G = true := by
  obtain ⟨b, o, rfl, H⟩ := vPtr_true H
  unfold hFieldAddr
  rw [hf]
  simp only [optK, hs]
  exact H
noncomputable def fIndexAddr (size : Nat) (x i : Value) (G : Value → Bool) : Bool := vSl x fun b o n => vNat i false fun _ j => iff' (Nat.ble (Nat.succ j) n) (natK (Nat.add o (Nat.mul j size)) fun o' => G (.pointer (some ⟨b, o', none⟩))) false
theorem fIndexAddr_t {e : TypeId} {size : Nat} {x i : Value} {G : Value → Bool} (he : sliceT P ty = some e) (hs : szT P e = some size) (H : fIndexAddr size x i G = true) : hIndexAddr P ty x i G = true := by
  obtain ⟨b, o, sp, n, m, rfl, H⟩ := vSl_true H
  rcases vNat_true H with ⟨k, j, rfl, H⟩ | H
  · rcases iff'_true H with ⟨h1, H⟩ | ⟨_, H⟩
    · unfold hIndexAddr
      simp only [he, optK, hs]
      have : Nat.blt j n = true := h1
      rw [if_pos this]; exact H
    · cases H
  · cases H
noncomputable def vLen : Value → (Nat → Bool) → Bool :=
  @Value.rec (fun _ => (Nat → Bool) → Bool) (fun _ => Unit) (fun _ => Unit)
    (fun _ _ => false) (fun _ _ _ => false) (fun _ _ _ => false) (fun _ _ _ _ => false) (fun _ _ => false) (fun _ _ => false)
    (fun _ n _ c => c n)
    (fun _ _ => false) (fun _ _ => false) (fun _ _ _ _ _ _ => false) (fun _ => false) (fun _ _ _ _ => false) (fun _ => false) (fun _ _ _ => false) (fun _ _ _ => false)
    (fun _ _ => ()) () (fun _ _ _ _ => ())
theorem vLen_true {v : Value} {c : Nat → Bool} (H : vLen v c = true) : ∃ oa n m, v = .slice oa n m ∧ c n = true := by
  cases v <;> first
    | (cases H; done)
    | exact ⟨_, _, _, rfl, H⟩
noncomputable def fLen (a : Value) (G : Value → Bool) : Bool := vLen a fun n => G (.int .i64 (.ofNat n))
theorem fLen_t {e : TypeId} {a : Value} {G : Value → Bool} (he : P.underlying ty = some (.slice e)) (H : fLen a G = true) : lenK P ty a h G = true := by
  obtain ⟨oa, n, m, rfl, H⟩ := vLen_true H
  unfold lenK
  simp only [he]
  exact H
end Go.AM

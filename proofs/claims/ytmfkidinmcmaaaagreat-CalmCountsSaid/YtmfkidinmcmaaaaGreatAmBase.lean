/- AM, part 1: tries, values, the relation between the abstract heap and the world. Plain Lean; no program. -/
import Derived.Calls
import Derived.Scope
import Derived.Laws.Sem
import Derived.Laws.Cells
namespace Go.AM
/-! ### tries, keyed by lists of bits -/
inductive Tr (α : Type) where
  | e
  | n (l : Tr α) (x : Option α) (r : Tr α)
noncomputable def Tr.get {α : Type} (p : List Bool) : Tr α → Option α :=
  List.rec (motive := fun _ => Tr α → Option α)
    (fun m => Tr.rec (motive := fun _ => Option α) none (fun _ x _ _ _ => x) m)
    (fun b _ ih m => Tr.rec (motive := fun _ => Option α) none (fun l _ r _ _ => Bool.rec (ih l) (ih r) b) m) p
noncomputable def Tr.setK {α : Type} (v : Option α) (p : List Bool) : Tr α → (Tr α → Bool) → Bool :=
  List.rec (motive := fun _ => Tr α → (Tr α → Bool) → Bool)
    (fun m k => Tr.rec (motive := fun _ => Bool) (k (.n .e v .e)) (fun l _ r _ _ => k (.n l v r)) m)
    (fun b _ ih m k => Tr.rec (motive := fun _ => Bool)
       (Bool.rec (ih .e fun t => k (.n t none .e)) (ih .e fun t => k (.n .e none t)) b)
       (fun l x r _ _ => Bool.rec (ih l fun t => k (.n t x r)) (ih r fun t => k (.n l x t)) b) m) p
def Tr.set {α : Type} (v : Option α) : List Bool → Tr α → Tr α
  | [], .e => .n .e v .e
  | [], .n l _ r => .n l v r
  | false :: p, .e => .n (Tr.set v p .e) none .e
  | true :: p, .e => .n .e none (Tr.set v p .e)
  | false :: p, .n l x r => .n (Tr.set v p l) x r
  | true :: p, .n l x r => .n l x (Tr.set v p r)
theorem Tr.get_e {α : Type} (p : List Bool) : Tr.get p (.e : Tr α) = none := by cases p <;> rfl
theorem Tr.get_f {α : Type} (p : List Bool) (l : Tr α) (x : Option α) (r : Tr α) : Tr.get (false :: p) (.n l x r) = Tr.get p l := rfl
theorem Tr.get_t {α : Type} (p : List Bool) (l : Tr α) (x : Option α) (r : Tr α) : Tr.get (true :: p) (.n l x r) = Tr.get p r := rfl
theorem Tr.setK_eq {α : Type} (v : Option α) (p : List Bool) : ∀ (m : Tr α) (k : Tr α → Bool), Tr.setK v p m k = k (Tr.set v p m) := by
  induction p with
  | nil => intro m k; cases m <;> rfl
  | cons b p ih =>
    intro m k
    cases m with
    | e => cases b <;> exact ih _ _
    | n l x r => cases b <;> exact ih _ _
theorem Tr.get_set_same {α : Type} (v : Option α) (p : List Bool) : ∀ (m : Tr α), Tr.get p (Tr.set v p m) = v := by
  induction p with
  | nil => intro m; cases m <;> rfl
  | cons b p ih => intro m; cases m <;> cases b <;> exact ih _
theorem Tr.get_set_ne {α : Type} (v : Option α) (p : List Bool) : ∀ (q : List Bool) (m : Tr α), q ≠ p → Tr.get q (Tr.set v p m) = Tr.get q m := by
  induction p with
  | nil =>
    intro q m h
    cases q with
    | nil => exact (h rfl).elim
    | cons c q => cases m <;> cases c <;> simp [Tr.set, Tr.get_f, Tr.get_t, Tr.get_e]
  | cons b p ih =>
    intro q m h
    cases q with
    | nil => cases m <;> cases b <;> rfl
    | cons c q =>
      cases m with
      | e =>
        cases b <;> cases c <;> simp only [Tr.set, Tr.get_f, Tr.get_t, Tr.get_e]
        · rw [ih q _ (fun e => h (by rw [e])), Tr.get_e]
        · rw [ih q _ (fun e => h (by rw [e])), Tr.get_e]
      | n l x r =>
        cases b <;> cases c <;> simp only [Tr.set, Tr.get_f, Tr.get_t]
        · exact ih q _ (fun e => h (by rw [e]))
        · exact ih q _ (fun e => h (by rw [e]))
noncomputable def bits : Nat → Nat → List Bool :=
  Nat.rec (motive := fun _ => Nat → List Bool) (fun _ => [])
    (fun _ ih k => Nat.rec (motive := fun _ => List Bool) [] (fun _ _ => Nat.beq (Nat.mod k 2) 1 :: ih (Nat.div k 2)) k)
noncomputable def path (k : Nat) : List Bool := bits k k
def unbits : List Bool → Nat
  | [] => 0
  | b :: p => b.toNat + 2 * unbits p
theorem unbits_bits (f : Nat) : ∀ k, k ≤ f → unbits (bits f k) = k := by
  induction f with
  | zero => intro k h; have : k = 0 := by omega
            subst this; rfl
  | succ f ih =>
    intro k h
    cases k with
    | zero => rfl
    | succ k =>
      show (Nat.beq (Nat.mod (k+1) 2) 1).toNat + 2 * unbits (bits f (Nat.div (k+1) 2)) = k + 1
      have h1 : (k+1) / 2 ≤ f := by omega
      rw [show Nat.div (k+1) 2 = (k+1)/2 from rfl, ih _ h1, show Nat.mod (k+1) 2 = (k+1) % 2 from rfl]
      have : (k+1) % 2 = 0 ∨ (k+1) % 2 = 1 := by omega
      rcases this with e | e
      · rw [e]; show 0 + 2 * ((k+1)/2) = k + 1; omega
      · rw [e]; show 1 + 2 * ((k+1)/2) = k + 1; omega
theorem path_inj {j k : Nat} (h : path j = path k) : j = k := by
  have := congrArg unbits h
  unfold path at this
  rwa [unbits_bits _ _ (Nat.le_refl _), unbits_bits _ _ (Nat.le_refl _)] at this
/-! ### the abstract heap -/
inductive Blk where
  | cells (cs : List Value) (esz : Nat)
  | map (es : List MapEntry) (clock : Nat)
abbrev Heap := Tr Blk
abbrev Tmps := Tr Value
noncomputable def Heap.at (h : Heap) (b : Nat) : Option Blk := Tr.get (path b) h
theorem Heap.at_set_same (h : Heap) (b : Nat) (v : Option Blk) : Heap.at (Tr.set v (path b) h) b = v := Tr.get_set_same _ _ _
theorem Heap.at_set_ne (h : Heap) (b c : Nat) (v : Option Blk) (hc : c ≠ b) : Heap.at (Tr.set v (path b) h) c = Heap.at h c :=
  Tr.get_set_ne _ _ _ _ fun e => hc (path_inj e)
/-! ### lists, pointwise -/
inductive FL {α β : Type} (R : α → β → Prop) : List α → List β → Prop
  | nil : FL R [] []
  | cons {a b as bs} : R a b → FL R as bs → FL R (a :: as) (b :: bs)
theorem FL.length {α β : Type} {R : α → β → Prop} {xs : List α} {ys : List β} (h : FL R xs ys) : xs.length = ys.length := by
  induction h with
  | nil => rfl
  | cons _ _ ih => simp [ih]
theorem FL.mono {α β : Type} {R R' : α → β → Prop} (hr : ∀ a b, R a b → R' a b) {xs : List α} {ys : List β} (h : FL R xs ys) : FL R' xs ys := by
  induction h with
  | nil => exact .nil
  | cons h _ ih => exact .cons (hr _ _ h) ih
theorem FL.append {α β : Type} {R : α → β → Prop} {xs xs' : List α} {ys ys' : List β} (h : FL R xs ys) (h' : FL R xs' ys') : FL R (xs ++ xs') (ys ++ ys') := by
  induction h with
  | nil => exact h'
  | cons h _ ih => exact .cons h ih
theorem FL.get {α β : Type} {R : α → β → Prop} {xs : List α} {ys : List β} (h : FL R xs ys) : ∀ (i : Nat) (a : α), xs[i]? = some a → ∃ b, ys[i]? = some b ∧ R a b := by
  induction h with
  | nil => intro i a h; simp at h
  | cons h _ ih =>
    intro i a hi
    cases i with
    | zero => simp at hi; subst hi; exact ⟨_, by simp, h⟩
    | succ i => simp at hi ⊢; exact ih i a hi
theorem FL.of_get {α β : Type} {R : α → β → Prop} : ∀ {xs : List α} {ys : List β}, xs.length = ys.length → (∀ (i : Nat) (a : α) (b : β), xs[i]? = some a → ys[i]? = some b → R a b) → FL R xs ys
  | [], [], _, _ => .nil
  | [], _ :: _, h, _ => by simp at h
  | _ :: _, [], h, _ => by simp at h
  | x :: xs, y :: ys, h, hr => .cons (hr 0 x y (by simp) (by simp)) (FL.of_get (by simpa using h) fun i a b ha hb => hr (i+1) a b (by simpa using ha) (by simpa using hb))
theorem FL.take {α β : Type} {R : α → β → Prop} {xs : List α} {ys : List β} (h : FL R xs ys) : ∀ n, FL R (xs.take n) (ys.take n) := by
  induction h with
  | nil => intro n; simp; exact .nil
  | cons h _ ih => intro n; cases n with
    | zero => exact .nil
    | succ n => exact .cons h (ih n)
theorem FL.drop {α β : Type} {R : α → β → Prop} {xs : List α} {ys : List β} (h : FL R xs ys) : ∀ n, FL R (xs.drop n) (ys.drop n) := by
  induction h with
  | nil => intro n; simp; exact .nil
  | cons h h' ih => intro n; cases n with
    | zero => exact .cons h h'
    | succ n => exact ih n
theorem FL.refl {α : Type} {R : α → α → Prop} : ∀ (xs : List α), (∀ a ∈ xs, R a a) → FL R xs xs
  | [], _ => .nil
  | x :: xs, h => .cons (h x (by simp)) (FL.refl xs fun a ha => h a (by simp [ha]))
theorem FL.map {α β γ δ : Type} {R : α → β → Prop} {R' : γ → δ → Prop} {f : α → γ} {g : β → δ} (hr : ∀ a b, R a b → R' (f a) (g b)) {xs : List α} {ys : List β} (h : FL R xs ys) : FL R' (xs.map f) (ys.map g) := by
  induction h with
  | nil => exact .nil
  | cons h _ ih => exact .cons (hr _ _ h) ih
/-! ### values -/
/-- where an abstract block lies: the block, the shift of its cells, how many cells the block has; cells an element -/
structure Ent where
  c : Nat
  δ : Nat
  lim : Nat
  esz : Nat
abbrev Emb := Nat → Option Ent
def Emb.le (φ ψ : Emb) : Prop := ∀ b E, φ b = some E → ψ b = some E
theorem Emb.le_refl (φ : Emb) : φ.le φ := fun _ _ h => h
theorem Emb.le_trans {φ ψ χ : Emb} (h : φ.le ψ) (h' : ψ.le χ) : φ.le χ := fun b E e => h' b E (h b E e)
inductive PRel (φ : Emb) : Value → Value → Prop
  | ptr {b o E} : φ b = some E → PRel φ (.pointer (some ⟨b, o, none⟩)) (.pointer (some ⟨E.c, o + E.δ, none⟩))
inductive CRel (φ : Emb) : Value → Value → Prop
  | bool (b) : CRel φ (.bool b) (.bool b)
  | int (k n) : CRel φ (.int k n) (.int k n)
  | string (s) : CRel φ (.string s) (.string s)
  | ptrNil : CRel φ (.pointer none) (.pointer none)
  | ptr {b o E} : φ b = some E → CRel φ (.pointer (some ⟨b, o, none⟩)) (.pointer (some ⟨E.c, o + E.δ, none⟩))
  | sliceNil : CRel φ (.slice none 0 0) (.slice none 0 0)
  | slice {b o sp n k k' E} : φ b = some E → (sp = some 0 → k' = k) → k ≤ k' → n ≤ k → o + E.δ + k' * E.esz ≤ E.lim →
      CRel φ (.slice (some ⟨b, o, sp⟩) n k) (.slice (some ⟨E.c, o + E.δ, none⟩) n k')
  | sliceEnd {b o sp a'} : CRel φ (.slice (some ⟨b, o, sp⟩) 0 0) (.slice (some a') 0 0)
  | mapNil : CRel φ (.map none) (.map none)
  | map {b E} : φ b = some E → CRel φ (.map (some b)) (.map (some E.c))
  | func {f fs fs' cs cs'} : FL (PRel φ) fs fs' → FL (PRel φ) cs cs' → CRel φ (.func (.func f) ⟨fs⟩ ⟨cs⟩) (.func (.func f) ⟨fs'⟩ ⟨cs'⟩)
  | nilFunc : CRel φ .nilFunc .nilFunc
  | nilIface : CRel φ .nilIface .nilIface
  /-- a value that is handed on and never looked at -/
  | any {v'} : v'.oneCell' = true → CRel φ (.chan none) v'
inductive ARel (φ : Emb) : Value → Value → Prop
  | cell {v v'} : CRel φ v v' → ARel φ v v'
  | agg {cs cs'} : FL (CRel φ) cs cs' → ARel φ (.agg ⟨cs⟩) (.agg ⟨cs'⟩)
inductive VRel (φ : Emb) : Value → Value → Prop
  | one {v v'} : ARel φ v v' → VRel φ v v'
  | tuple {vs vs'} : FL (ARel φ) vs vs' → VRel φ (.tuple ⟨vs⟩) (.tuple ⟨vs'⟩)
theorem PRel.mono {φ ψ : Emb} (h : φ.le ψ) {v v' : Value} : PRel φ v v' → PRel ψ v v'
  | .ptr e => .ptr (h _ _ e)
theorem CRel.mono {φ ψ : Emb} (h : φ.le ψ) {v v' : Value} : CRel φ v v' → CRel ψ v v'
  | .bool b => .bool b | .int k n => .int k n | .string s => .string s | .ptrNil => .ptrNil | .ptr e => .ptr (h _ _ e)
  | .sliceNil => .sliceNil | .slice e a b c d => .slice (h _ _ e) a b c d | .sliceEnd => .sliceEnd
  | .mapNil => .mapNil | .map e => .map (h _ _ e) | .func l l' => .func (l.mono fun _ _ => PRel.mono h) (l'.mono fun _ _ => PRel.mono h) | .nilFunc => .nilFunc | .nilIface => .nilIface | .any h => .any h
theorem ARel.mono {φ ψ : Emb} (h : φ.le ψ) {v v' : Value} : ARel φ v v' → ARel ψ v v'
  | .cell c => .cell (c.mono h)
  | .agg l => .agg (l.mono fun _ _ => CRel.mono h)
theorem VRel.mono {φ ψ : Emb} (h : φ.le ψ) {v v' : Value} : VRel φ v v' → VRel ψ v v'
  | .one c => .one (c.mono h)
  | .tuple l => .tuple (l.mono fun _ _ => ARel.mono h)
theorem CRel.oneCell {φ : Emb} {v v' : Value} (h : CRel φ v v') : v'.oneCell' = true := by cases h <;> first | rfl | assumption
theorem CRel.cells {φ : Emb} {v v' : Value} (h : CRel φ v v') : v.cells = #[v] ∧ v'.cells = #[v'] := by
  cases h <;> first | exact ⟨rfl, rfl⟩ | (rename_i h; refine ⟨rfl, ?_⟩; cases v' <;> first | rfl | cases h)
theorem PRel.cell {φ : Emb} {v v' : Value} : PRel φ v v' → CRel φ v v'
  | .ptr e => .ptr e
/-- values that hold no address -/
def flat1 : Value → Bool
  | .bool _ | .int _ _ | .string _ | .pointer none | .map none | .nilFunc | .nilIface => true
  | .slice none n k => Nat.beq n 0 && Nat.beq k 0
  | _ => false
def flatL : List Value → Bool
  | [] => true
  | v :: l => flat1 v && flatL l
def flat : Value → Bool
  | .agg cs => flatL cs.toList
  | v => flat1 v
theorem flat1_rel {φ : Emb} {v : Value} (h : flat1 v = true) : CRel φ v v := by
  unfold flat1 at h
  split at h <;> first | exact .bool _ | exact .int _ _ | exact .string _ | exact .ptrNil | exact .mapNil | exact .nilFunc | exact .nilIface | skip
  · rename_i n k
    simp only [Bool.and_eq_true] at h
    obtain rfl := Nat.eq_of_beq_eq_true h.1
    obtain rfl := Nat.eq_of_beq_eq_true h.2
    exact .sliceNil
  · cases h
theorem flatL_rel {φ : Emb} : ∀ {l : List Value}, flatL l = true → FL (CRel φ) l l
  | [], _ => .nil
  | v :: l, h => by
    simp only [flatL, Bool.and_eq_true] at h
    exact .cons (flat1_rel h.1) (flatL_rel h.2)
theorem flat_rel {φ : Emb} {v : Value} (h : flat v = true) : ARel φ v v := by
  unfold flat at h
  split at h
  · rename_i cs; cases cs; exact .agg (flatL_rel h)
  · exact .cell (flat1_rel h)
theorem flat1_eq {φ : Emb} {v v' : Value} (h : flat1 v = true) (r : CRel φ v v') : v' = v := by
  cases r <;> simp [flat1] at h <;> rfl
theorem flatL_eq {φ : Emb} : ∀ {l l' : List Value}, flatL l = true → FL (CRel φ) l l' → l' = l
  | [], _, _, .nil => rfl
  | v :: l, _, h, .cons r rs => by
    simp only [flatL, Bool.and_eq_true] at h
    rw [flat1_eq h.1 r, flatL_eq h.2 rs]
theorem flat_eq {φ : Emb} {v v' : Value} (h : flat v = true) (r : VRel φ v v') : v' = v := by
  cases r with
  | one r => cases r with
    | cell r =>
      have h1 : flat1 v = true := by cases r <;> exact h
      exact flat1_eq h1 r
    | agg l => simp only [flat] at h; rw [flatL_eq h l]
  | tuple l => simp [flat, flat1] at h
def EntRel (φ : Emb) (x y : MapEntry) : Prop := x.key = y.key ∧ flat x.key = true ∧ ARel φ x.val y.val ∧ x.born = y.born
/-! ### the relation -/
structure Rel (B : Nat) (φ : Emb) (h : Heap) (nx : Nat) (w : World) : Prop where
  base : ∀ b E, φ b = some E → b < nx ∧ B ≤ E.c ∧ E.c < w.heap.size
  cells : ∀ b E cs esz, φ b = some E → h.at b = some (.cells cs esz) → E.esz = esz ∧
    ∃ arr t, w.heap[E.c]? = some (.cells arr t (0, 0)) ∧ arr.size = E.lim ∧ ∀ (i : Nat) (v : Value), cs[i]? = some v → ∃ v', arr[i + E.δ]? = some v' ∧ CRel φ v v'
  maps : ∀ b E es ck, φ b = some E → h.at b = some (.map es ck) → ∃ es', w.heap[E.c]? = some (.map es' ck) ∧ FL (EntRel φ) es es'.toList
  inj : ∀ b₁ b₂ E₁ E₂, φ b₁ = some E₁ → φ b₂ = some E₂ → h.at b₁ ≠ none → h.at b₂ ≠ none → E₁.c = E₂.c → b₁ = b₂
  bw : B ≤ w.heap.size
/-- what a run leaves of the world below B -/
structure Fr (B : Nat) (w w' : World) : Prop where
  os : w'.os = w.os
  tape : w'.tape = w.tape
  output : w'.output = w.output
  size : w.heap.size ≤ w'.heap.size
  block : ∀ k, k < B → w'.heap[k]? = w.heap[k]?
theorem Fr.refl (B : Nat) (w : World) : Fr B w w := ⟨rfl, rfl, rfl, Nat.le_refl _, fun _ _ => rfl⟩
theorem Fr.trans {B : Nat} {a b c : World} (h : Fr B a b) (k : Fr B b c) : Fr B a c :=
  ⟨k.os.trans h.os, k.tape.trans h.tape, k.output.trans h.output, Nat.le_trans h.size k.size, fun i hi => (k.block i hi).trans (h.block i hi)⟩
def TRel (φ : Emb) (N : Nat) (t : Tmps) (tm : Array Value) : Prop :=
  tm.size = N ∧ (∀ i v, Tr.get (path i) t = some v → ∃ v', tm[i]? = some v' ∧ VRel φ v v') ∧ ∀ i v', Tr.get (path i) t = none → tm[i]? = some v' → v' = undef
theorem TRel.mono {φ ψ : Emb} (h : φ.le ψ) {N : Nat} {t : Tmps} {tm : Array Value} (r : TRel φ N t tm) : TRel ψ N t tm :=
  ⟨r.1, fun i v hi => (let ⟨v', a, b⟩ := r.2.1 i v hi; ⟨v', a, b.mono h⟩), r.2.2⟩
theorem TRel.put {φ : Emb} {N : Nat} {t : Tmps} {tm : Array Value} (r : TRel φ N t tm) {d : Nat} (hd : d < N) {v v' : Value} (hv : VRel φ v v') : TRel φ N (Tr.set (some v) (path d) t) (tm.setIfInBounds d v') := by
  refine ⟨by simpa using r.1, fun i u hi => ?_, fun i u' hi hu => ?_⟩
  · by_cases e : i = d
    · subst e
      rw [Tr.get_set_same] at hi; cases hi
      exact ⟨v', by rw [Array.getElem?_setIfInBounds]; simp [r.1, hd], hv⟩
    · rw [Tr.get_set_ne _ _ _ _ (fun h => e (path_inj h))] at hi
      rw [Array.getElem?_setIfInBounds, if_neg (fun h => e h.symm)]
      exact r.2.1 i u hi
  · by_cases e : i = d
    · subst e; rw [Tr.get_set_same] at hi; cases hi
    · rw [Tr.get_set_ne _ _ _ _ (fun h => e (path_inj h))] at hi
      rw [Array.getElem?_setIfInBounds, if_neg (fun h => e h.symm)] at hu
      exact r.2.2 i u' hi hu
end Go.AM

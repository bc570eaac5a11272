/- AM, part 2: how the relation lives through each change of the heap. -/
import Derived.Test.YtmfkidinmcmaaaaGreatAmBase
import Derived.Laws.CopyRow
import Derived.Laws.Append
import Derived.Laws.NewBlocks
namespace Go.AM
def Emb.put (φ : Emb) (b : Nat) (E : Ent) : Emb := fun x => if x = b then some E else φ x
theorem Emb.put_same (φ : Emb) (b : Nat) (E : Ent) : φ.put b E b = some E := by simp [Emb.put]
theorem Emb.put_ne (φ : Emb) {b x : Nat} (E : Ent) (h : x ≠ b) : φ.put b E x = φ x := by simp [Emb.put, h]
theorem Emb.le_put {φ : Emb} {b : Nat} (E : Ent) (h : φ b = none) : φ.le (φ.put b E) := by
  intro x F hx
  by_cases e : x = b
  · subst e; rw [h] at hx; cases hx
  · rw [Emb.put_ne _ _ e]; exact hx
/-- an embedding that has grown by blocks from nx on -/
structure Ext (φ : Emb) (nx : Nat) (ψ : Emb) : Prop where
  le : φ.le ψ
  new : ∀ b E, ψ b = some E → φ b = some E ∨ nx ≤ b
theorem Ext.refl (φ : Emb) (nx : Nat) : Ext φ nx φ := ⟨φ.le_refl, fun _ _ h => .inl h⟩
theorem Ext.put {φ : Emb} {nx : Nat} (E : Ent) (h : φ nx = none) : Ext φ nx (φ.put nx E) := by
  refine ⟨Emb.le_put E h, fun b F hb => ?_⟩
  by_cases e : b = nx
  · exact .inr (by omega)
  · rw [Emb.put_ne _ _ e] at hb; exact .inl hb
theorem Ext.trans {φ ψ χ : Emb} {nx nx' : Nat} (h : Ext φ nx ψ) (h' : Ext ψ nx' χ) (hn : nx ≤ nx') : Ext φ nx χ :=
  ⟨Emb.le_trans h.le h'.le, fun b E hb => (h'.new b E hb).elim (fun g => h.new b E g) fun g => .inr (Nat.le_trans hn g)⟩
theorem Rel.same {B : Nat} {φ : Emb} {h : Heap} {nx : Nat} {w w' : World} (r : Rel B φ h nx w) (e : w'.heap = w.heap) : Rel B φ h nx w' :=
  ⟨fun b E hb => by rw [e]; exact r.base b E hb, fun b E cs esz h1 h2 => by rw [e]; exact r.cells b E cs esz h1 h2,
   fun b E es ck h1 h2 => by rw [e]; exact r.maps b E es ck h1 h2, r.inj, by rw [e]; exact r.bw⟩
theorem Rel.fresh {B : Nat} {φ : Emb} {h : Heap} {nx : Nat} {w : World} (r : Rel B φ h nx w) : φ nx = none := by
  cases e : φ nx with
  | none => rfl
  | some E => have := (r.base nx E e).1; omega
/-- more blocks in the world -/
theorem Rel.push {B : Nat} {φ : Emb} {h : Heap} {nx : Nat} {w : World} (r : Rel B φ h nx w) (o : Obj) : Rel B φ h nx (w.alloc o) := by
  have hk : ∀ k, k < w.heap.size → (w.alloc o).heap[k]? = w.heap[k]? := fun k hk => by
    show (w.heap.push o)[k]? = _
    rw [Array.getElem?_push, if_neg (by omega)]
  have hs : (w.alloc o).heap.size = w.heap.size + 1 := by simp
  refine ⟨fun b E hb => ?_, fun b E cs esz h1 h2 => ?_, fun b E es ck h1 h2 => ?_, r.inj, ?_⟩
  · have := r.base b E hb; exact ⟨this.1, this.2.1, by omega⟩
  · rw [hk _ (r.base b E h1).2.2]; exact r.cells b E cs esz h1 h2
  · rw [hk _ (r.base b E h1).2.2]; exact r.maps b E es ck h1 h2
  · have := r.bw; omega
/-- a new abstract block that lies nowhere yet -/
theorem Rel.pend {B : Nat} {φ : Emb} {h : Heap} {nx : Nat} {w : World} (r : Rel B φ h nx w) (k : Blk) : Rel B φ (Tr.set (some k) (path nx) h) (nx + 1) w := by
  have hn := r.fresh
  have hne : ∀ b E, φ b = some E → b ≠ nx := fun b E e he => by subst he; rw [hn] at e; cases e
  refine ⟨fun b E hb => ?_, fun b E cs esz h1 h2 => ?_, fun b E es ck h1 h2 => ?_, fun b₁ b₂ E₁ E₂ h1 h2 h3 h4 h5 => ?_, r.bw⟩
  · have := r.base b E hb; exact ⟨by omega, this.2⟩
  · rw [Heap.at_set_ne _ _ _ _ (hne b E h1)] at h2; exact r.cells b E cs esz h1 h2
  · rw [Heap.at_set_ne _ _ _ _ (hne b E h1)] at h2; exact r.maps b E es ck h1 h2
  · rw [Heap.at_set_ne _ _ _ _ (hne _ _ h1)] at h3
    rw [Heap.at_set_ne _ _ _ _ (hne _ _ h2)] at h4
    exact r.inj b₁ b₂ E₁ E₂ h1 h2 h3 h4 h5
/-- a pending block of cells comes to lie in a new block of the world -/
theorem Rel.attach {B : Nat} {φ : Emb} {h : Heap} {nx : Nat} {w : World} (r : Rel B φ h nx w) {b : Nat} (hb : φ b = none) (hbn : b < nx) {cs : List Value} {esz : Nat}
    (hc : h.at b = some (.cells cs esz)) (arr : Array Value) (t : TypeId) (hv : ∀ (i : Nat) (v : Value), cs[i]? = some v → ∃ v', arr[i]? = some v' ∧ CRel φ v v') :
    Rel B (φ.put b ⟨w.heap.size, 0, arr.size, esz⟩) h nx (w.alloc (.cells arr t)) := by
  have hle := Emb.le_put (b := b) ⟨w.heap.size, 0, arr.size, esz⟩ hb
  have r' := r.push (.cells arr t)
  have hs : (w.alloc (.cells arr t)).heap.size = w.heap.size + 1 := by simp
  have hnew : (w.alloc (.cells arr t)).heap[w.heap.size]? = some (.cells arr t (0, 0)) := by
    show (w.heap.push _)[w.heap.size]? = _
    simp
  have hold : ∀ x E, x ≠ b → φ.put b ⟨w.heap.size, 0, arr.size, esz⟩ x = some E → φ x = some E := fun x E hx e => by rwa [Emb.put_ne _ _ hx] at e
  refine ⟨fun x E hx => ?_, fun x E cs' esz' h1 h2 => ?_, fun x E es ck h1 h2 => ?_, fun b₁ b₂ E₁ E₂ h1 h2 h3 h4 h5 => ?_, r'.bw⟩
  · by_cases e : x = b
    · subst e; rw [Emb.put_same] at hx; cases hx; exact ⟨hbn, r.bw, by rw [hs]; exact Nat.lt_succ_self _⟩
    · exact r'.base x E (hold x E e hx)
  · by_cases e : x = b
    · subst e; rw [Emb.put_same] at h1; cases h1
      rw [hc] at h2; cases h2
      refine ⟨rfl, arr, t, hnew, rfl, fun i v hi => ?_⟩
      obtain ⟨v', a, c⟩ := hv i v hi
      exact ⟨v', by simpa using a, c.mono hle⟩
    · obtain ⟨a1, arr', t', a3, a4, a5⟩ := r'.cells x E cs' esz' (hold x E e h1) h2
      exact ⟨a1, arr', t', a3, a4, fun i v hi => let ⟨v', p, q⟩ := a5 i v hi; ⟨v', p, q.mono hle⟩⟩
  · by_cases e : x = b
    · subst e; rw [hc] at h2; cases h2
    · obtain ⟨es', a1, a2⟩ := r'.maps x E es ck (hold x E e h1) h2
      exact ⟨es', a1, a2.mono fun p q k => ⟨k.1, k.2.1, k.2.2.1.mono hle, k.2.2.2⟩⟩
  · by_cases e1 : b₁ = b
    · by_cases e2 : b₂ = b
      · rw [e1, e2]
      · subst e1; rw [Emb.put_same] at h1; cases h1
        have := (r.base b₂ E₂ (hold _ _ e2 h2)).2.2
        simp only at h5; omega
    · by_cases e2 : b₂ = b
      · subst e2; rw [Emb.put_same] at h2; cases h2
        have := (r.base b₁ E₁ (hold _ _ e1 h1)).2.2
        simp only at h5; omega
      · exact r.inj b₁ b₂ E₁ E₂ (hold _ _ e1 h1) (hold _ _ e2 h2) h3 h4 h5
/-- a new block on both sides -/
theorem Rel.new {B : Nat} {φ : Emb} {h : Heap} {nx : Nat} {w : World} (r : Rel B φ h nx w) {cs : List Value} (esz : Nat) (arr : Array Value) (t : TypeId)
    (hv : ∀ (i : Nat) (v : Value), cs[i]? = some v → ∃ v', arr[i]? = some v' ∧ CRel φ v v') :
    Rel B (φ.put nx ⟨w.heap.size, 0, arr.size, esz⟩) (Tr.set (some (.cells cs esz)) (path nx) h) (nx + 1) (w.alloc (.cells arr t)) :=
  (r.pend _).attach r.fresh (Nat.lt_succ_self _) (Heap.at_set_same _ _ _) arr t hv
theorem Rel.newMap {B : Nat} {φ : Emb} {h : Heap} {nx : Nat} {w : World} (r : Rel B φ h nx w) :
    Rel B (φ.put nx ⟨w.heap.size, 0, 0, 0⟩) (Tr.set (some (.map [] 0)) (path nx) h) (nx + 1) (w.alloc (.map #[] 0)) := by
  have hn := r.fresh
  have hle := Emb.le_put (b := nx) ⟨w.heap.size, 0, 0, 0⟩ hn
  have r' := (r.pend (.map [] 0)).push (.map #[] 0)
  have hnew : (w.alloc (.map #[] 0)).heap[w.heap.size]? = some (.map #[] 0) := by
    show (w.heap.push _)[w.heap.size]? = _
    simp
  have hs : (w.alloc (.map #[] 0)).heap.size = w.heap.size + 1 := by simp
  have hold : ∀ x E, x ≠ nx → φ.put nx ⟨w.heap.size, 0, 0, 0⟩ x = some E → φ x = some E := fun x E hx e => by rwa [Emb.put_ne _ _ hx] at e
  refine ⟨fun x E hx => ?_, fun x E cs' esz' h1 h2 => ?_, fun x E es ck h1 h2 => ?_, fun b₁ b₂ E₁ E₂ h1 h2 h3 h4 h5 => ?_, r'.bw⟩
  · by_cases e : x = nx
    · subst e; rw [Emb.put_same] at hx; cases hx; exact ⟨by omega, r.bw, by rw [hs]; exact Nat.lt_succ_self _⟩
    · exact r'.base x E (hold x E e hx)
  · by_cases e : x = nx
    · subst e; rw [Heap.at_set_same] at h2; cases h2
    · obtain ⟨a1, arr', t', a3, a4, a5⟩ := r'.cells x E cs' esz' (hold x E e h1) h2
      exact ⟨a1, arr', t', a3, a4, fun i v hi => let ⟨v', p, q⟩ := a5 i v hi; ⟨v', p, q.mono hle⟩⟩
  · by_cases e : x = nx
    · subst e; rw [Heap.at_set_same] at h2; cases h2
      rw [Emb.put_same] at h1; cases h1
      exact ⟨#[], hnew, .nil⟩
    · obtain ⟨es', a1, a2⟩ := r'.maps x E es ck (hold x E e h1) h2
      exact ⟨es', a1, a2.mono fun p q k => ⟨k.1, k.2.1, k.2.2.1.mono hle, k.2.2.2⟩⟩
  · by_cases e1 : b₁ = nx
    · by_cases e2 : b₂ = nx
      · rw [e1, e2]
      · subst e1; rw [Emb.put_same] at h1; cases h1
        have := (r.base b₂ E₂ (hold _ _ e2 h2)).2.2
        simp only at h5; omega
    · by_cases e2 : b₂ = nx
      · subst e2; rw [Emb.put_same] at h2; cases h2
        have := (r.base b₁ E₁ (hold _ _ e1 h1)).2.2
        simp only at h5; omega
      · rw [Heap.at_set_ne _ _ _ _ e1] at h3
        rw [Heap.at_set_ne _ _ _ _ e2] at h4
        exact r.inj b₁ b₂ E₁ E₂ (hold _ _ e1 h1) (hold _ _ e2 h2) h3 h4 h5
/-- a block dies -/
theorem Rel.kill {B : Nat} {φ : Emb} {h : Heap} {nx : Nat} {w : World} (r : Rel B φ h nx w) (b : Nat) : Rel B φ (Tr.set none (path b) h) nx w := by
  refine ⟨r.base, fun x E cs esz h1 h2 => ?_, fun x E es ck h1 h2 => ?_, fun b₁ b₂ E₁ E₂ h1 h2 h3 h4 h5 => ?_, r.bw⟩
  · by_cases e : x = b
    · subst e; rw [Heap.at_set_same] at h2; cases h2
    · rw [Heap.at_set_ne _ _ _ _ e] at h2; exact r.cells x E cs esz h1 h2
  · by_cases e : x = b
    · subst e; rw [Heap.at_set_same] at h2; cases h2
    · rw [Heap.at_set_ne _ _ _ _ e] at h2; exact r.maps x E es ck h1 h2
  · by_cases e1 : b₁ = b
    · subst e1; rw [Heap.at_set_same] at h3; exact (h3 rfl).elim
    · by_cases e2 : b₂ = b
      · subst e2; rw [Heap.at_set_same] at h4; exact (h4 rfl).elim
      · rw [Heap.at_set_ne _ _ _ _ e1] at h3
        rw [Heap.at_set_ne _ _ _ _ e2] at h4
        exact r.inj b₁ b₂ E₁ E₂ h1 h2 h3 h4 h5
/-- the world's block of a dead or of no abstract block is written -/
theorem Rel.dead {B : Nat} {φ : Emb} {h : Heap} {nx : Nat} {w : World} (r : Rel B φ h nx w) (c : Nat) (arr : Array Value) (hd : ∀ b E, φ b = some E → E.c = c → h.at b = none) :
    Rel B φ h nx (w.setRow c arr) := by
  refine ⟨fun b E hb => ?_, fun x E cs esz h1 h2 => ?_, fun x E es ck h1 h2 => ?_, r.inj, ?_⟩
  · have := r.base b E hb; simpa using this
  · have : E.c ≠ c := fun e => by rw [hd x E h1 e] at h2; cases h2
    rw [setRow_other _ _ _ _ this]; exact r.cells x E cs esz h1 h2
  · have : E.c ≠ c := fun e => by rw [hd x E h1 e] at h2; cases h2
    rw [setRow_other _ _ _ _ this]; exact r.maps x E es ck h1 h2
  · simpa using r.bw
/-- a live block is written -/
theorem Rel.store {B : Nat} {φ : Emb} {h : Heap} {nx : Nat} {w : World} (r : Rel B φ h nx w) {b : Nat} {E : Ent} {cs : List Value} {esz : Nat} (hb : φ b = some E)
    (hc : h.at b = some (.cells cs esz)) (cs' : List Value) (arr' : Array Value) (hs : arr'.size = E.lim)
    (hv : ∀ (i : Nat) (v : Value), cs'[i]? = some v → ∃ v', arr'[i + E.δ]? = some v' ∧ CRel φ v v') :
    Rel B φ (Tr.set (some (.cells cs' esz)) (path b) h) nx (w.setRow E.c arr') := by
  obtain ⟨a1, arr, t, a3, a4, a5⟩ := r.cells b E cs esz hb hc
  have hne : ∀ x F, x ≠ b → φ x = some F → h.at x ≠ none → F.c ≠ E.c := fun x F hx hF hl e =>
    hx (r.inj x b F E hF hb hl (by rw [hc]; simp) e)
  refine ⟨fun x F hx => ?_, fun x F cs₂ esz₂ h1 h2 => ?_, fun x F es ck h1 h2 => ?_, fun b₁ b₂ E₁ E₂ h1 h2 h3 h4 h5 => ?_, ?_⟩
  · have := r.base x F hx; simpa using this
  · by_cases e : x = b
    · subst e; rw [Heap.at_set_same] at h2; cases h2
      rw [hb] at h1; cases h1
      exact ⟨a1, arr', t, setRow_heap _ _ _ _ _ _ a3, hs, hv⟩
    · rw [Heap.at_set_ne _ _ _ _ e] at h2
      rw [setRow_other _ _ _ _ (hne x F e h1 (by rw [h2]; simp))]
      exact r.cells x F cs₂ esz₂ h1 h2
  · by_cases e : x = b
    · subst e; rw [Heap.at_set_same] at h2; cases h2
    · rw [Heap.at_set_ne _ _ _ _ e] at h2
      rw [setRow_other _ _ _ _ (hne x F e h1 (by rw [h2]; simp))]
      exact r.maps x F es ck h1 h2
  · have live : ∀ x, Heap.at (Tr.set (some (Blk.cells cs' esz)) (path b) h) x ≠ none → h.at x ≠ none := fun x hx => by
      by_cases e : x = b
      · subst e; rw [hc]; simp
      · rwa [Heap.at_set_ne _ _ _ _ e] at hx
    exact r.inj b₁ b₂ E₁ E₂ h1 h2 (live _ h3) (live _ h4) h5
  · simpa using r.bw
theorem World.setObj_heap (w : World) (g : Nat) (o : Obj) (hg : g < w.heap.size) : ({ w with heap := w.heap.setIfInBounds g o } : World).heap[g]? = some o := by
  simp [hg]
theorem World.setObj_other (w : World) (g k : Nat) (o : Obj) (h : k ≠ g) : ({ w with heap := w.heap.setIfInBounds g o } : World).heap[k]? = w.heap[k]? := by
  simp only [Array.getElem?_setIfInBounds]
  rw [if_neg (by omega)]
theorem Rel.setMap {B : Nat} {φ : Emb} {h : Heap} {nx : Nat} {w : World} (r : Rel B φ h nx w) {b : Nat} {E : Ent} {es : List MapEntry} {ck : Nat} (hb : φ b = some E)
    (hc : h.at b = some (.map es ck)) (es₁ : List MapEntry) (ck₁ : Nat) (es₁' : Array MapEntry) (hv : FL (EntRel φ) es₁ es₁'.toList) :
    Rel B φ (Tr.set (some (.map es₁ ck₁)) (path b) h) nx { w with heap := w.heap.setIfInBounds E.c (.map es₁' ck₁) } := by
  have hlt := (r.base b E hb).2.2
  have hne : ∀ x F, x ≠ b → φ x = some F → h.at x ≠ none → F.c ≠ E.c := fun x F hx hF hl e =>
    hx (r.inj x b F E hF hb hl (by rw [hc]; simp) e)
  refine ⟨fun x F hx => ?_, fun x F cs₂ esz₂ h1 h2 => ?_, fun x F es ck h1 h2 => ?_, fun b₁ b₂ E₁ E₂ h1 h2 h3 h4 h5 => ?_, ?_⟩
  · have := r.base x F hx; simpa using this
  · by_cases e : x = b
    · subst e; rw [Heap.at_set_same] at h2; cases h2
    · rw [Heap.at_set_ne _ _ _ _ e] at h2
      rw [World.setObj_other _ _ _ _ (hne x F e h1 (by rw [h2]; simp))]
      exact r.cells x F cs₂ esz₂ h1 h2
  · by_cases e : x = b
    · subst e; rw [Heap.at_set_same] at h2; cases h2
      rw [hb] at h1; cases h1
      exact ⟨es₁', World.setObj_heap _ _ _ hlt, hv⟩
    · rw [Heap.at_set_ne _ _ _ _ e] at h2
      rw [World.setObj_other _ _ _ _ (hne x F e h1 (by rw [h2]; simp))]
      exact r.maps x F es ck h1 h2
  · have live : ∀ x, Heap.at (Tr.set (some (Blk.map es₁ ck₁)) (path b) h) x ≠ none → h.at x ≠ none := fun x hx => by
      by_cases e : x = b
      · subst e; rw [hc]; simp
      · rwa [Heap.at_set_ne _ _ _ _ e] at hx
    exact r.inj b₁ b₂ E₁ E₂ h1 h2 (live _ h3) (live _ h4) h5
  · simpa using r.bw
/-- append, where the world had room behind what is known: the elder block dies, the new one lies in its place -/
theorem Rel.inplace {B : Nat} {φ : Emb} {h : Heap} {nx : Nat} {w : World} (r : Rel B φ h nx w) {b : Nat} {E : Ent} {cs : List Value} {esz : Nat} (hb : φ b = some E)
    (hc : h.at b = some (.cells cs esz)) (o : Nat) (cs' : List Value) (arr' : Array Value) (hs : arr'.size = E.lim) (esz' : Nat)
    (hv : ∀ (i : Nat) (v : Value), cs'[i]? = some v → ∃ v', arr'[i + (o + E.δ)]? = some v' ∧ CRel φ v v') :
    Rel B (φ.put nx ⟨E.c, o + E.δ, E.lim, esz'⟩) (Tr.set (some (.cells cs' esz')) (path nx) (Tr.set none (path b) h)) (nx + 1) (w.setRow E.c arr') := by
  have hn := r.fresh
  have hle := Emb.le_put (b := nx) ⟨E.c, o + E.δ, E.lim, esz'⟩ hn
  obtain ⟨a1, arr, t, a3, a4, a5⟩ := r.cells b E cs esz hb hc
  have hbn : b ≠ nx := fun e => by subst e; rw [hn] at hb; cases hb
  have hdead : ∀ x F, φ x = some F → F.c = E.c → Heap.at (Tr.set none (path b) h) x = none := fun x F hF e => by
    by_cases e1 : x = b
    · subst e1; exact Heap.at_set_same _ _ _
    · rw [Heap.at_set_ne _ _ _ _ e1]
      cases hx : h.at x with
      | none => rfl
      | some k => exact (e1 (r.inj x b F E hF hb (by rw [hx]; simp) (by rw [hc]; simp) e)).elim
  have r' := ((r.kill b).dead E.c arr' hdead).pend (.cells cs' esz')
  have hold : ∀ x F, x ≠ nx → φ.put nx ⟨E.c, o + E.δ, E.lim, esz'⟩ x = some F → φ x = some F := fun x F hx e => by rwa [Emb.put_ne _ _ hx] at e
  refine ⟨fun x F hx => ?_, fun x F cs₂ esz₂ h1 h2 => ?_, fun x F es ck h1 h2 => ?_, fun b₁ b₂ E₁ E₂ h1 h2 h3 h4 h5 => ?_, r'.bw⟩
  · by_cases e : x = nx
    · subst e; rw [Emb.put_same] at hx; cases hx
      have := r.base b E hb
      exact ⟨by omega, this.2.1, by simpa using this.2.2⟩
    · exact r'.base x F (hold x F e hx)
  · by_cases e : x = nx
    · subst e; rw [Heap.at_set_same] at h2; cases h2
      rw [Emb.put_same] at h1; cases h1
      exact ⟨rfl, arr', t, setRow_heap _ _ _ _ _ _ a3, hs, fun i v hi => let ⟨v', p, q⟩ := hv i v hi; ⟨v', p, q.mono hle⟩⟩
    · obtain ⟨a1, arr₂, t₂, a3, a4, a5⟩ := r'.cells x F cs₂ esz₂ (hold x F e h1) h2
      exact ⟨a1, arr₂, t₂, a3, a4, fun i v hi => let ⟨v', p, q⟩ := a5 i v hi; ⟨v', p, q.mono hle⟩⟩
  · by_cases e : x = nx
    · subst e; rw [Heap.at_set_same] at h2; cases h2
    · obtain ⟨es', a1, a2⟩ := r'.maps x F es ck (hold x F e h1) h2
      exact ⟨es', a1, a2.mono fun p q k => ⟨k.1, k.2.1, k.2.2.1.mono hle, k.2.2.2⟩⟩
  · by_cases e1 : b₁ = nx
    · by_cases e2 : b₂ = nx
      · rw [e1, e2]
      · subst e1; rw [Emb.put_same] at h1; cases h1
        rw [Heap.at_set_ne _ _ _ _ e2] at h4
        exact (h4 (hdead _ _ (hold _ _ e2 h2) h5.symm)).elim
    · by_cases e2 : b₂ = nx
      · subst e2; rw [Emb.put_same] at h2; cases h2
        rw [Heap.at_set_ne _ _ _ _ e1] at h3
        exact (h3 (hdead _ _ (hold _ _ e1 h1) h5)).elim
      · rw [Heap.at_set_ne _ _ _ _ e1] at h3
        rw [Heap.at_set_ne _ _ _ _ e2] at h4
        exact (r.kill b).inj b₁ b₂ E₁ E₂ (hold _ _ e1 h1) (hold _ _ e2 h2) h3 h4 h5
theorem Fr.alloc {B : Nat} {a w : World} (h : Fr B a w) (hB : B ≤ w.heap.size) (o : Obj) : Fr B a (w.alloc o) :=
  h.trans ⟨rfl, rfl, rfl, by simp, fun k hk => by
    show (w.heap.push o)[k]? = _
    rw [Array.getElem?_push, if_neg (by omega)]⟩
theorem Fr.setRow {B : Nat} {a w : World} (h : Fr B a w) {c : Nat} (hc : B ≤ c) (arr : Array Value) : Fr B a (w.setRow c arr) :=
  h.trans ⟨rfl, rfl, rfl, by simp, fun k hk => setRow_other _ _ _ _ (by omega)⟩
theorem Fr.drew {B : Nat} {a w : World} (h : Fr B a w) : Fr B a w.drew := ⟨h.os, h.tape, h.output, h.size, h.block⟩
theorem Fr.setObj {B : Nat} {a w : World} (h : Fr B a w) {c : Nat} (hc : B ≤ c) (o : Obj) : Fr B a { w with heap := w.heap.setIfInBounds c o } :=
  h.trans ⟨rfl, rfl, rfl, by simp, fun k hk => World.setObj_other _ _ _ _ (by omega)⟩
end Go.AM

/- H, part 9: what the printed proofs say of a region that draws its order. -/
import Derived.Test.YtmfkidinmcmaaaaGreatAmF
set_option linter.unusedVariables false
set_option linter.unusedSimpArgs false
namespace Go.AM
variable {P : Program} {N : Nat} {ops : Array Oper} {T₀ : Tb} {nx : Nat}
def nthOp : List Oper → Nat → Oper
  | [], _ => default
  | o :: _, 0 => o
  | _ :: l, i + 1 => nthOp l i
def opAt (ops : Array Oper) (i : Nat) : Oper := nthOp ops.toList i
/-! ### what must come before, by masks -/
def maskOf (ms : List Nat) (j : Nat) : List Edge → Nat → Option Nat
  | [], s => some s
  | e :: l, s => match Region.binds .any e with
    | true => match Nat.blt e.on j with
      | true => maskOf ms j l (Nat.lor (Nat.lor s (Nat.pow 2 e.on)) (ms.getD e.on 0))
      | false => none
    | false => maskOf ms j l s
def masksGo (ms : List Nat) : Nat → List Oper → Bool
  | _, [] => true
  | j, o :: l => (match maskOf ms j o.after.toList 0 with
    | some m => Nat.beq m (ms.getD j 0)
    | none => false) && masksGo ms (j + 1) l
def masksB (ops : Array Oper) (ms : List Nat) : Bool := masksGo ms 0 ops.toList && Nat.beq ms.length ops.size
def bf (ms : List Nat) (i j : Nat) : Bool := Nat.testBit (ms.getD j 0) i
theorem maskOf_sound {ms : List Nat} {j : Nat} : ∀ {l : List Edge} {s m : Nat}, maskOf ms j l s = some m → ∀ i, m.testBit i = true →
    s.testBit i = true ∨ ∃ e ∈ l, Region.binds .any e = true ∧ e.on < j ∧ (e.on = i ∨ bf ms i e.on = true)
  | [], s, m, h, i, hi => by cases h; exact .inl hi
  | e :: l, s, m, h, i, hi => by
    unfold maskOf at h
    split at h
    · rename_i hb
      split at h
      · rename_i hlt
        have hlt : e.on < j := Nat.le_of_ble_eq_true hlt
        rcases maskOf_sound h i hi with h1 | ⟨e', he', r⟩
        · have h1 : ((s ||| 2 ^ e.on) ||| (ms.getD e.on 0)).testBit i = true := h1
          rw [Nat.testBit_or, Nat.testBit_or, Bool.or_eq_true, Bool.or_eq_true] at h1
          rcases h1 with (h1 | h1) | h1
          · exact .inl h1
          · rw [Nat.testBit_two_pow] at h1
            exact .inr ⟨e, by simp, hb, hlt, .inl (by simpa using h1)⟩
          · exact .inr ⟨e, by simp, hb, hlt, .inr h1⟩
        · exact .inr ⟨e', by simp [he'], r⟩
      · cases h
    · rcases maskOf_sound h i hi with h1 | ⟨e', he', r⟩
      · exact .inl h1
      · exact .inr ⟨e', by simp [he'], r⟩
theorem masksGo_at {ms : List Nat} : ∀ {l : List Oper} {j : Nat}, masksGo ms j l = true → ∀ (n : Nat) (o : Oper), l[n]? = some o → maskOf ms (j + n) o.after.toList 0 = some (ms.getD (j + n) 0)
  | [], j, _, n, o, h => by simp at h
  | o' :: l, j, hm, n, o, h => by
    unfold masksGo at hm
    rw [Bool.and_eq_true] at hm
    cases n with
    | zero =>
      simp at h; subst h
      have h1 := hm.1
      split at h1
      · rename_i m he; rw [Nat.add_zero, he, Nat.eq_of_beq_eq_true h1]
      · cases h1
    | succ n =>
      have := masksGo_at hm.2 n o (by simpa using h)
      rwa [show j + (n + 1) = j + 1 + n by omega]
theorem bf_sound {ms : List Nat} (hm : masksB ops ms = true) {i : Nat} (j : Nat) (h : bf ms i j = true) : Bef ops i j := by
  unfold masksB at hm
  rw [Bool.and_eq_true] at hm
  induction j using Nat.strongRecOn generalizing i with
  | ind j ih =>
    cases ho : ops.toList[j]? with
    | none =>
      have hl := Nat.eq_of_beq_eq_true hm.2
      have : ops.toList.length ≤ j := by
        rcases Nat.lt_or_ge j ops.toList.length with h' | h'
        · rw [List.getElem?_eq_getElem h'] at ho; cases ho
        · exact h'
      have h2 : ms.getD j 0 = 0 := by
        rw [List.getD_eq_getElem?_getD, List.getElem?_eq_none (by rw [hl]; simpa using this)]; rfl
      unfold bf at h
      rw [h2] at h
      simp at h
    | some o =>
      have := masksGo_at hm.1 j o ho
      rw [Nat.zero_add] at this
      rcases maskOf_sound this i h with h1 | ⟨e, he, hb, hlt, h2⟩
      · simp at h1
      · have edge : Bef ops e.on j := .edge (o := o) (by simpa using ho) (by simpa using he) hb
        rcases h2 with rfl | h2
        · exact edge
        · exact (ih _ hlt h2).trans edge
/-! ### the record -/
def nthV : List (Option Value) → Nat → Option Value
  | [], _ => none
  | x :: _, 0 => x
  | _ :: l, i + 1 => nthV l i
def nthG : List (Heap × Nat) → Nat → Heap × Nat
  | [], _ => (.e, 0)
  | x :: _, 0 => x
  | _ :: l, i + 1 => nthG l i
def lookF : List (Nat × Nat) → Nat → Option Nat
  | [], _ => none
  | (j, nb) :: l, i => cond (Nat.beq j i) (some nb) (lookF l i)
abbrev mkRec (outs : List (Option Value)) (es : List Nat) (Gs : List (Heap × Nat)) (fbs : List (Nat × Nat)) : Rec where
  out i := nthV outs i
  es := es
  G k := (nthG Gs k).1
  X k := (nthG Gs k).2
  fb i := lookF fbs i
def AllF (Q : Nat → Nat → Prop) : List (Nat × Nat) → Prop
  | [] => True
  | (j, nb) :: l => Q j nb ∧ AllF Q l
theorem AllF.look {Q : Nat → Nat → Prop} : ∀ {l : List (Nat × Nat)}, AllF Q l → ∀ i nb, lookF l i = some nb → Q i nb
  | [], _, i, nb, h => by cases h
  | (j, n) :: l, ha, i, nb, h => by
    unfold lookF at h
    cases e : Nat.beq j i with
    | true => rw [e] at h; cases h; have := Nat.eq_of_beq_eq_true e; subst this; exact ha.1
    | false => rw [e] at h; exact ha.2.look i nb h
def AllFrom (Q : Nat → Prop) : Nat → Nat → Prop
  | _, 0 => True
  | lo, n + 1 => Q lo ∧ AllFrom Q (lo + 1) n
theorem AllFrom.at {Q : Nat → Prop} : ∀ {n lo : Nat}, AllFrom Q lo n → ∀ k, lo ≤ k → k < lo + n → Q k
  | 0, lo, _, k, h1, h2 => by omega
  | n + 1, lo, h, k, h1, h2 => by
    by_cases e : lo = k
    · subst e; exact h.1
    · exact h.2.at k (by omega) (by omega)
/-! ### where an operation's operands come from -/
def dstIs (ops : Array Oper) (j t : Nat) : Bool := match ops[j]? with
  | some o => match o.dst with
    | some d => Nat.beq d t
    | none => false
  | none => false
theorem dstIs_iff {j t : Nat} : dstIs ops j t = true ↔ ∃ o, ops[j]? = some o ∧ o.dst = some t := by
  unfold dstIs
  constructor
  · intro h
    split at h
    · rename_i o ho
      split at h
      · rename_i d hd; exact ⟨o, ho, by rw [hd, Nat.eq_of_beq_eq_true h]⟩
      · cases h
    · cases h
  · rintro ⟨o, ho, hd⟩
    rw [ho]; simp only [hd]; simp
def srcB (ops : Array Oper) (ms : List Nat) (i : Nat) : List (Nat × Option Nat) → Bool
  | [] => true
  | (t, some j) :: l => bf ms j i && dstIs ops j t && srcB ops ms i l
  | (t, none) :: l => ((List.range ops.size).all fun j => !dstIs ops j t || bf ms i j) && srcB ops ms i l
def SrcT (R : Rec) (T₀ : Tb) : List (Nat × Option Nat) → Tb → Prop
  | [], [] => True
  | (t, some j) :: l, (t', ov) :: T => t = t' ∧ R.out j = ov ∧ SrcT R T₀ l T
  | (t, none) :: l, (t', ov) :: T => t = t' ∧ look T₀ t = some ov ∧ SrcT R T₀ l T
  | _, _ => False
variable {R : Rec} {ms : List Nat}
theorem tOk_of (hm : masksB ops ms = true) {i : Nat} : ∀ {src : List (Nat × Option Nat)} {Ti : Tb}, srcB ops ms i src = true → SrcT R T₀ src Ti → TOk ops R T₀ i Ti
  | [], [], _, _ => fun t ov h => by cases h
  | (t, some j) :: l, (t', ov') :: T, hb, hs => by
    simp only [srcB, Bool.and_eq_true] at hb
    obtain ⟨rfl, ho, hs⟩ := hs
    intro u ov h
    simp only [look] at h
    cases e : Nat.beq t u with
    | true =>
      rw [e] at h; cases h
      have := Nat.eq_of_beq_eq_true e; subst this
      obtain ⟨o, h1, h2⟩ := dstIs_iff.1 hb.1.2
      exact .inl ⟨j, o, bf_sound hm _ hb.1.1, h1, h2, ho⟩
    | false => rw [e] at h; exact tOk_of hm hb.2 hs u ov h
  | (t, none) :: l, (t', ov') :: T, hb, hs => by
    simp only [srcB, Bool.and_eq_true] at hb
    obtain ⟨rfl, ho, hs⟩ := hs
    intro u ov h
    simp only [look] at h
    cases e : Nat.beq t u with
    | true =>
      rw [e] at h; cases h
      have := Nat.eq_of_beq_eq_true e; subst this
      refine .inr ⟨ho, fun j o h1 h2 => ?_⟩
      have hall := List.all_eq_true.1 hb.1 j (by simpa using (Array.getElem?_eq_some_iff.1 h1).1)
      rw [dstIs_iff.2 ⟨o, h1, h2⟩] at hall
      exact bf_sound hm _ (by simpa using hall)
    | false => rw [e] at h; exact tOk_of hm hb.2 hs u ov h
  | [], _ :: _, _, hs => hs.elim
  | (_, some _) :: _, [], _, hs => hs.elim
  | (_, none) :: _, [], _, hs => hs.elim
def finB (ops : Array Oper) : List (Nat × Option Nat) → Bool
  | [] => true
  | (t, some j) :: l => dstIs ops j t && finB ops l
  | (t, none) :: l => ((List.range ops.size).all fun j => !dstIs ops j t) && finB ops l
theorem tFin_of : ∀ {src : List (Nat × Option Nat)} {Tf : Tb}, finB ops src = true → SrcT R T₀ src Tf → TFin ops R T₀ Tf
  | [], [], _, _ => fun t ov h => by cases h
  | (t, some j) :: l, (t', ov') :: T, hb, hs => by
    simp only [finB, Bool.and_eq_true] at hb
    obtain ⟨rfl, ho, hs⟩ := hs
    intro u ov h
    simp only [look] at h
    cases e : Nat.beq t u with
    | true =>
      rw [e] at h; cases h
      have := Nat.eq_of_beq_eq_true e; subst this
      obtain ⟨o, h1, h2⟩ := dstIs_iff.1 hb.1
      exact .inl ⟨j, o, h1, h2, ho⟩
    | false => rw [e] at h; exact tFin_of hb.2 hs u ov h
  | (t, none) :: l, (t', ov') :: T, hb, hs => by
    simp only [finB, Bool.and_eq_true] at hb
    obtain ⟨rfl, ho, hs⟩ := hs
    intro u ov h
    simp only [look] at h
    cases e : Nat.beq t u with
    | true =>
      rw [e] at h; cases h
      have := Nat.eq_of_beq_eq_true e; subst this
      refine .inr ⟨ho, fun j o h1 h2 => ?_⟩
      have hall := List.all_eq_true.1 hb.1 j (by simpa using (Array.getElem?_eq_some_iff.1 h1).1)
      rw [dstIs_iff.2 ⟨o, h1, h2⟩] at hall
      cases hall
    | false => rw [e] at h; exact tFin_of hb.2 hs u ov h
  | [], _ :: _, _, hs => hs.elim
  | (_, some _) :: _, [], _, hs => hs.elim
  | (_, none) :: _, [], _, hs => hs.elim
/-! ### the facts -/
def stB (ms : List Nat) (es : List Nat) (i lo n : Nat) : Bool :=
  (match lo with
    | 0 => true
    | l + 1 => match es[l]? with | some e => bf ms e i | none => false) &&
  (match es[lo + n - 1]? with | some e => bf ms i e | none => Nat.ble (es.length + 1) (lo + n)) && Nat.ble 1 n
theorem stage_of (hm : masksB ops ms = true) {i lo n : Nat} (h : stB ms R.es i lo n = true) {k : Nat} (hs : InStage ops R i k) : lo ≤ k ∧ k < lo + n := by
  unfold stB at h
  rw [Bool.and_eq_true, Bool.and_eq_true] at h
  obtain ⟨⟨h1, h2⟩, h3⟩ := h
  have h3 := Nat.le_of_ble_eq_true h3
  constructor
  · cases lo with
    | zero => exact Nat.zero_le _
    | succ l =>
      simp only at h1
      split at h1
      · rename_i e he; exact (hs.2 l e he).1 (bf_sound hm _ h1)
      · cases h1
  · split at h2
    · rename_i e he
      have := (hs.2 _ e he).2 (bf_sound hm _ h2)
      omega
    · have := Nat.le_of_ble_eq_true h2
      have := hs.1
      omega
theorem not_mem_of {es : List Nat} {i : Nat} (h : es.contains i = false) : i ∉ es := by
  intro hi
  rw [List.contains_iff_mem.2 hi] at h; cases h
variable {o : Oper} {i : Nat} {Ti : Tb}
theorem F_skip (hm : masksB ops ms = true) (src : List (Nat × Option Nat)) (hb : srcB ops ms i src = true) (hs : SrcT R T₀ src Ti) (hg : guardB ops Ti o false) (ho : R.out i = none) (he : R.es.contains i = false) (hf : R.fb i = none) : Fact P N ops R T₀ nx i o :=
  .skip Ti (tOk_of hm hb hs) hg ho (not_mem_of he) hf
theorem F_any (hm : masksB ops ms = true) (src : List (Nat × Option Nat)) (hb : srcB ops ms i src = true) (hs : SrcT R T₀ src Ti) (hg : guardB ops Ti o true) (he : R.es.contains i = false) (hf : R.fb i = none)
    (S : ∀ h nx, OpR P o Ti h nx (R.out i) h nx) : Fact P N ops R T₀ nx i o :=
  .read Ti (tOk_of hm hb hs) hg (not_mem_of he) hf fun k _ => S _ _
theorem F_read {outs : List (Option Value)} {es : List Nat} {Gs : List (Heap × Nat)} {fbs : List (Nat × Nat)} (hm : masksB ops ms = true) (src : List (Nat × Option Nat)) (hb : srcB ops ms i src = true) (hs : SrcT (mkRec outs es Gs fbs) T₀ src Ti) (hg : guardB ops Ti o true) (he : es.contains i = false) (hf : lookF fbs i = none)
    (lo n : Nat) (hst : stB ms es i lo n = true) (S : AllFrom (fun k => OpR P o Ti (nthG Gs k).1 (nthG Gs k).2 (nthV outs i) (nthG Gs k).1 (nthG Gs k).2) lo n) : Fact P N ops (mkRec outs es Gs fbs) T₀ nx i o :=
  .read Ti (tOk_of hm hb hs) hg (not_mem_of he) hf fun k hk => S.at k (stage_of (R := mkRec outs es Gs fbs) hm hst hk).1 (stage_of (R := mkRec outs es Gs fbs) hm hst hk).2
theorem F_fresh {outs : List (Option Value)} {es : List Nat} {Gs : List (Heap × Nat)} {fbs : List (Nat × Nat)} (hm : masksB ops ms = true) (src : List (Nat × Option Nat)) (hb : srcB ops ms i src = true) (hs : SrcT (mkRec outs es Gs fbs) T₀ src Ti) (hg : guardB ops Ti o true) (he : es.contains i = false) (nb : Nat) (hf : lookF fbs i = some nb)
    (hnb : nx ≤ nb) (hu : AllF (fun j nb' => nb' = nb → j = i) fbs) (lo n : Nat) (hst : stB ms es i lo n = true) (S : AllFrom (fun k => FreshR P o Ti (nthG Gs k).1 (nthG Gs k).2 nb (nthV outs i)) lo n) : Fact P N ops (mkRec outs es Gs fbs) T₀ nx i o :=
  .fresh Ti nb (tOk_of hm hb hs) hg (not_mem_of he) hf hnb (fun j hj => hu.look j nb hj rfl) fun k hk => S.at k (stage_of (R := mkRec outs es Gs fbs) hm hst hk).1 (stage_of (R := mkRec outs es Gs fbs) hm hst hk).2
def totB (ms : List Nat) : List Nat → Bool
  | [] => true
  | e :: l => (l.all fun e' => bf ms e e') && totB ms l
theorem tot_at {ms : List Nat} : ∀ {es : List Nat}, totB ms es = true → ∀ (a b x y : Nat), a < b → es[a]? = some x → es[b]? = some y → bf ms x y = true
  | [], _, a, b, x, y, _, h, _ => by simp at h
  | e :: l, ht, a, b, x, y, hab, hx, hy => by
    simp only [totB, Bool.and_eq_true] at ht
    cases b with
    | zero => omega
    | succ b =>
      have hy : l[b]? = some y := by simpa using hy
      cases a with
      | zero =>
        simp at hx; subst hx
        exact List.all_eq_true.1 ht.1 y (List.mem_of_getElem? hy)
      | succ a => exact tot_at ht.2 a b x y (by omega) (by simpa using hx) hy
theorem F_eff {outs : List (Option Value)} {es : List Nat} {Gs : List (Heap × Nat)} {fbs : List (Nat × Nat)} (hm : masksB ops ms = true) (src : List (Nat × Option Nat)) (hb : srcB ops ms i src = true) (hs : SrcT (mkRec outs es Gs fbs) T₀ src Ti) (hg : guardB ops Ti o true) (hf : lookF fbs i = none)
    (j : Nat) (hj : es[j]? = some i) (ht : totB ms es = true) {h₁ : Heap} {nx₁ : Nat} (S : OpR P o Ti (nthG Gs j).1 (nthG Gs j).2 (nthV outs i) h₁ nx₁) (hgrow : Grow h₁ nx₁ (nthG Gs (j+1)).1 (nthG Gs (j+1)).2) (hnx : nx ≤ (nthG Gs j).2)
    (hfb : AllF (fun _ nb => nb < (nthG Gs j).2 ∨ nx₁ ≤ nb) fbs) : Fact P N ops (mkRec outs es Gs fbs) T₀ nx i o :=
  .eff Ti j h₁ nx₁ (tOk_of hm hb hs) hg hj hf S hgrow.rel hnx (fun l nb h => hfb.look l nb h)
    (fun l hl => by
      have hlt : l < es.length := Nat.lt_trans hl (List.getElem?_eq_some_iff.1 hj).1
      exact ⟨es[l], by simp [hlt], bf_sound hm _ (tot_at ht l j _ _ hl (by simp [hlt]) hj)⟩)
    (fun l e hl he => bf_sound hm _ (tot_at ht j l _ _ hl hj he))
/-! ### the region -/
def modeL (la lt lg : List Nat) : Region.Mode → List Nat
  | .any => la
  | .text => lt
  | .gc => lg
def hasAll (n : Nat) (l : List Nat) : Bool := (List.range n).all fun i => l.contains i
def distGo : List Nat → List Oper → Bool
  | _, [] => true
  | seen, o :: l => match o.dst with
    | some d => !seen.contains d && distGo (d :: seen) l
    | none => distGo seen l
theorem distGo_ne {d : Nat} : ∀ {l : List Oper} {seen : List Nat}, distGo seen l = true → d ∈ seen → ∀ (i : Nat) (o : Oper), l[i]? = some o → o.dst ≠ some d
  | [], _, _, _, i, o, h => by simp at h
  | o' :: l, seen, hd, hs, i, o, h => by
    unfold distGo at hd
    split at hd
    · rename_i d' hd'
      rw [Bool.and_eq_true] at hd
      cases i with
      | zero =>
        simp at h; subst h
        intro e; rw [hd'] at e; cases e
        rw [List.contains_iff_mem.2 hs] at hd
        cases hd.1
      | succ i => exact distGo_ne hd.2 (by simp [hs]) i o (by simpa using h)
    · rename_i hd'
      cases i with
      | zero => simp at h; subst h; rw [hd']; intro e; cases e
      | succ i => exact distGo_ne hd hs i o (by simpa using h)
theorem distGo_inj : ∀ {l : List Oper} {seen : List Nat}, distGo seen l = true → ∀ (i j : Nat) (oi oj : Oper) (d : Nat), l[i]? = some oi → l[j]? = some oj → oi.dst = some d → oj.dst = some d → i = j
  | [], _, _, i, j, oi, oj, d, h, _, _, _ => by simp at h
  | o' :: l, seen, hd, i, j, oi, oj, d, hi, hj, di, dj => by
    unfold distGo at hd
    split at hd
    · rename_i d' hd'
      rw [Bool.and_eq_true] at hd
      cases i with
      | zero =>
        cases j with
        | zero => rfl
        | succ j =>
          simp at hi; subst hi
          rw [di] at hd'; cases hd'
          exact (distGo_ne hd.2 (by simp) j oj (by simpa using hj) dj).elim
      | succ i =>
        cases j with
        | zero =>
          simp at hj; subst hj
          rw [dj] at hd'; cases hd'
          exact (distGo_ne hd.2 (by simp) i oi (by simpa using hi) di).elim
        | succ j => rw [distGo_inj hd.2 i j oi oj d (by simpa using hi) (by simpa using hj) di dj]
    · rename_i hd'
      cases i with
      | zero => simp at hi; subst hi; rw [hd'] at di; cases di
      | succ i =>
        cases j with
        | zero => simp at hj; subst hj; rw [hd'] at dj; cases dj
        | succ j => rw [distGo_inj hd i j oi oj d (by simpa using hi) (by simpa using hj) di dj]
def regB (N : Nat) (ops : Array Oper) (es la lt lg : List Nat) : Bool :=
  distGo [] ops.toList && (ops.toList.all fun o => dstOk N o.dst) && (orderOk .any ops [] la && hasAll ops.size la) && (orderOk .text ops [] lt && hasAll ops.size lt) && (orderOk .gc ops [] lg && hasAll ops.size lg) &&
  (es.all fun e => Nat.blt e ops.size)
def AllG (Q : Nat → Prop) : List (Heap × Nat) → Prop
  | [] => True
  | g :: l => Q g.2 ∧ AllG Q l
theorem AllG.at {Q : Nat → Prop} : ∀ {l : List (Heap × Nat)}, AllG Q l → ∀ k, k < l.length → Q (nthG l k).2
  | [], _, k, h => by simp at h
  | g :: l, ha, 0, _ => ha.1
  | g :: l, ha, k + 1, h => ha.2.at k (by simpa using h)
theorem hasAll_at {n : Nat} {l : List Nat} (h : hasAll n l = true) (i : Nat) (hi : i < n) : i ∈ l := by
  have := List.all_eq_true.1 h i (by simpa using hi)
  simpa using this
/-- the rule of a region that draws its order, as the printed proofs use it -/
theorem CJ.draw1 {id : Nat} {h : Heap} {K : Ex → Tb → Heap → Nat → Prop} (outs : List (Option Value)) (es : List Nat) (Gs : List (Heap × Nat)) (fbs : List (Nat × Nat)) (la lt lg : List Nat) (hreg : regB N ops es la lt lg = true)
    (facts : FactsFrom P N ops (mkRec outs es Gs fbs) T₀ nx 0 ops.toList) (hlen : Gs.length = es.length + 1) (hX : AllG (fun x => nx ≤ x) Gs) (hfb : AllF (fun _ nb => nx ≤ nb) fbs)
    (g0 : Grow h nx (nthG Gs 0).1 (nthG Gs 0).2) (src : List (Nat × Option Nat)) (Tf : Tb) (hb : finB ops src = true) (hs : SrcT (mkRec outs es Gs fbs) T₀ src Tf) {hf : Heap} {nf : Nat} (hG : nthG Gs es.length = (hf, nf)) (H : K .nm Tf hf nf) :
    CJ P N (.region id ops true) T₀ h nx K := by
  unfold regB at hreg
  simp only [Bool.and_eq_true] at hreg
  obtain ⟨⟨⟨⟨⟨h1, h2⟩, h3, h3'⟩, h4, h4'⟩, h5, h5'⟩, h6⟩ := hreg
  refine CJ.draw (mkRec outs es Gs fbs) Tf (modeL la lt lg) (facts_of facts) (fun i j oi oj d hi hj => distGo_inj h1 i j oi oj d (by simpa using hi) (by simpa using hj)) (fun i o hi => ?_) (fun md => ?_) (fun j e he => ?_) (fun k hk => ?_) (fun i nb hi => hfb.look i nb hi) g0.rel (tFin_of hb hs) ?_
  · exact List.all_eq_true.1 h2 o (List.mem_of_getElem? (by simpa using hi))
  · cases md
    · exact ⟨h4, fun i hi => hasAll_at h4' i hi⟩
    · exact ⟨h5, fun i hi => hasAll_at h5' i hi⟩
    · exact ⟨h3, fun i hi => hasAll_at h3' i hi⟩
  · exact Nat.le_of_ble_eq_true (List.all_eq_true.1 h6 e (List.mem_of_getElem? he))
  · exact hX.at k (by rw [hlen]; exact Nat.lt_succ_of_le hk)
  · show K .nm Tf (nthG Gs es.length).1 (nthG Gs es.length).2
    rw [hG]; exact H
/-! ### reads that look at no heap -/
def Det (F : (Value → Bool) → Bool) : Prop := ∀ G, F G = true → ∃ v, G v = true ∧ ∀ G' : Value → Bool, G' v = true → F G' = true
theorem Det.no : Det fun _ => false := fun G h => by cases h
theorem Det.at (v : Value) : Det fun G => G v := fun G h => ⟨v, h, fun _ h => h⟩
theorem Det.opt {α : Type} {x : Option α} {f : α → (Value → Bool) → Bool} (h : ∀ a, Det (f a)) : Det fun G => optK x fun a => f a G := by
  cases x with
  | none => exact Det.no
  | some a => exact h a
theorem Det.nat {n : Nat} {f : Nat → (Value → Bool) → Bool} (h : ∀ a, Det (f a)) : Det fun G => natK n fun a => f a G := by
  intro G H
  replace H : natK n (fun a => f a G) = true := H
  rw [natK_eq] at H
  obtain ⟨v, h1, h2⟩ := h n G H
  refine ⟨v, h1, fun G' h' => ?_⟩
  show natK n (fun a => f a G') = true
  rw [natK_eq]; exact h2 G' h'
theorem Det.boolK {b : Bool} {f : Bool → (Value → Bool) → Bool} (h : ∀ a, Det (f a)) : Det fun G => AM.boolK b fun a => f a G := by
  cases b <;> exact h _
theorem Det.ite {c : Prop} [Decidable c] {F F' : (Value → Bool) → Bool} (h : Det F) (h' : Det F') : Det fun G => if c then F G else F' G := by
  by_cases e : c
  · simp only [if_pos e]; exact h
  · simp only [if_neg e]; exact h'
theorem Det.pure {e : Sem Value} : Det fun G => pureK P e G := by
  unfold pureK
  refine Det.opt fun v => Det.ite ?_ Det.no
  intro G H
  rw [valK_eq] at H
  exact ⟨v, H, fun G' h' => by rw [valK_eq]; exact h'⟩
theorem Det.drop {α : Type} {n : Nat} {f : List α → (Value → Bool) → Bool} (h : ∀ a, Det (f a)) : ∀ l, Det fun G => dropK n l fun a => f a G := by
  induction n with
  | zero => intro l; exact h l
  | succ n ih => intro l; cases l with
    | nil => exact Det.no
    | cons a l => exact ih l
theorem Det.take {α : Type} {n : Nat} : ∀ {f : List α → (Value → Bool) → Bool} (h : ∀ a, Det (f a)) (l : List α), Det fun G => takeK n l fun a => f a G := by
  induction n with
  | zero => intro f h l; exact h []
  | succ n ih => intro f h l; cases l with
    | nil => exact Det.no
    | cons a l => exact ih (f := fun r => f (a :: r)) (fun _ => h _) l
theorem Det.over {α : Type} {vs : List α} : ∀ {f : List α → (Value → Bool) → Bool} (h : ∀ a, Det (f a)) (l : List α), Det fun G => overK vs l fun a => f a G := by
  induction vs with
  | nil => intro f h l; exact h l
  | cons v vs ih => intro f h l; cases l with
    | nil => exact Det.no
    | cons a l => exact ih (f := fun r => f (v :: r)) (fun _ => h _) l
theorem Det.upd {α : Type} {vs : List α} {n : Nat} : ∀ {f : List α → (Value → Bool) → Bool} (h : ∀ a, Det (f a)) (l : List α), Det fun G => updK vs n l fun a => f a G := by
  induction n with
  | zero => intro f h l; exact Det.over h l
  | succ n ih => intro f h l; cases l with
    | nil => exact Det.no
    | cons a l => exact ih (f := fun r => f (a :: r)) (fun _ => h _) l
theorem Det.fill {place : Nat → Option (Nat × Nat)} {parts : List (Nat × Value)} : ∀ {f : List Value → (Value → Bool) → Bool} (h : ∀ a, Det (f a)) (l : List Value), Det fun G => hFill place parts l fun a => f a G := by
  induction parts with
  | nil => intro f h l; exact h l
  | cons p parts ih =>
    intro f h l
    obtain ⟨i, v⟩ := p
    show Det fun G => (match place i with
      | some (off, n) => match cellsOf v with
        | some vs => if Nat.beq vs.length n then updK vs off l fun cs' => hFill place parts cs' fun a => f a G else false
        | none => false
      | none => false)
    cases place i with
    | none => exact Det.no
    | some q => cases cellsOf v with
      | none => exact Det.no
      | some vs => exact Det.ite (Det.upd (f := fun cs' G => hFill place parts cs' fun a => f a G) (fun cs' => ih h cs') l) Det.no
theorem any_of {T : Tb} {F : (Value → Bool) → Bool} {G : Value → Bool} (hr : ∀ h nx (G : Value → Bool), F G = true → ∃ v, G v = true ∧ OpR P o T h nx (some v) h nx) (hd : Det F) (H : F G = true) : ∃ v, G v = true ∧ ∀ h nx, OpR P o T h nx (some v) h nx := by
  obtain ⟨v, hv, h2⟩ := hd G H
  refine ⟨v, hv, fun h nx => ?_⟩
  obtain ⟨u, hu, S⟩ := hr h nx (fun u => @decide (u = v) (Classical.propDecidable _)) (h2 _ (by simp))
  have : u = v := by simpa using hu
  subst this; exact S
variable {T : Tb}
theorem a_move {x : Operand} {v : Value} (ho : o.op = .move x) (hx : evT T x = some v) : ∀ h nx, OpR P o T h nx (some v) h nx := fun h nx => r_move ho hx
theorem a_assign {x : Operand} {v : Value} (ho : o.op = .assign x) (hx : evT T x = some v) : ∀ h nx, OpR P o T h nx (some v) h nx := fun h nx => r_assign ho hx
theorem det_nil {v : Value} : Det fun G => hNil v G := by
  intro G H
  have h2 : ∀ c : Bool, vNil v c = true → c = true := by
    intro c hc
    cases v <;> first
      | (cases hc; done)
      | (rename_i oa; cases oa <;> first | exact hc | (cases hc; done))
      | (rename_i fn _ _; cases fn <;> first | exact hc | (cases hc; done))
  have h3 : vNil v true = true := by
    replace H : vNil v (G v) = true := H
    have := h2 _ H
    rw [this] at H; exact H
  refine ⟨v, h2 _ H, fun G' h' => ?_⟩
  show vNil v (G' v) = true
  rw [h']; exact h3
theorem a_nil {x : Operand} {v : Value} {G : Value → Bool} (ho : o.op = .nilCheck x) (hx : evT T x = some v) (H : hNil v G = true) : ∃ v, G v = true ∧ ∀ h nx, OpR P o T h nx (some v) h nx :=
  any_of (fun h nx G H => r_nil ho hx H) det_nil H
theorem det_bin {op : BinOp} {ty : TypeId} {x y : Operand} {a b : Value} : Det fun G => binK P op ty x y a b G := by
  unfold binK
  refine Det.ite Det.pure ?_
  split
  · exact Det.opt fun b => Det.at _
  · exact Det.opt fun b => Det.boolK fun b => Det.at _
  · exact Det.no
theorem a_bin {op : BinOp} {ty ty2 : TypeId} {x y : Operand} {a b : Value} {G : Value → Bool} (ho : o.op = .binOp op ty x y ty2) (hx : evT T x = some a) (hy : evT T y = some b) (H : binK P op ty x y a b G = true) : ∃ v, G v = true ∧ ∀ h nx, OpR P o T h nx (some v) h nx :=
  any_of (fun h nx G H => r_bin ho hx hy H) det_bin H
theorem det_un {op : UnOp} {a : Value} : Det fun G => hUn P op a G := by unfold hUn; exact Det.ite Det.pure Det.no
theorem a_un {op : UnOp} {ty : TypeId} {x : Operand} {a : Value} {G : Value → Bool} (ho : o.op = .unOp op ty x) (hx : evT T x = some a) (H : hUn P op a G = true) : ∃ v, G v = true ∧ ∀ h nx, OpR P o T h nx (some v) h nx :=
  any_of (fun h nx G H => r_un ho hx H) det_un H
theorem det_fieldAddr {s : TypeId} {f : Nat} {p : Value} : Det fun G => hFieldAddr P s p f G := by
  unfold hFieldAddr
  refine Det.opt fun q => Det.opt fun n => ?_
  split
  · exact Det.ite Det.no (Det.nat fun _ => Det.at _)
  · exact Det.no
theorem a_fieldAddr {s : TypeId} {x : Operand} {f : Nat} {p : Value} {G : Value → Bool} (ho : o.op = .fieldAddr s x f) (hx : evT T x = some p) (H : hFieldAddr P s p f G = true) : ∃ v, G v = true ∧ ∀ h nx, OpR P o T h nx (some v) h nx :=
  any_of (fun h nx G H => r_fieldAddr ho hx H) det_fieldAddr H
theorem det_indexAddr {ty : TypeId} {x i : Value} : Det fun G => hIndexAddr P ty x i G := by
  unfold hIndexAddr
  split
  · split
    · exact Det.opt fun e => Det.opt fun size => Det.ite (Det.nat fun _ => Det.at _) Det.no
    · exact Det.opt fun q => Det.ite (Det.nat fun _ => Det.at _) Det.no
    · exact Det.no
  · exact Det.no
theorem a_indexAddr {ty : TypeId} {x y : Operand} {a i : Value} {G : Value → Bool} (ho : o.op = .indexAddr ty x y) (hx : evT T x = some a) (hy : evT T y = some i) (H : hIndexAddr P ty a i G = true) : ∃ v, G v = true ∧ ∀ h nx, OpR P o T h nx (some v) h nx :=
  any_of (fun h nx G H => r_indexAddr ho hx hy H) det_indexAddr H
theorem det_extract {a : Value} {i : Nat} : Det fun G => hExtract a i G := by
  unfold hExtract
  split
  · exact Det.opt fun v => Det.at v
  · exact Det.no
theorem a_extract {x : Operand} {i : Nat} {a : Value} {G : Value → Bool} (ho : o.op = .extract x i) (hx : evT T x = some a) (H : hExtract a i G = true) : ∃ v, G v = true ∧ ∀ h nx, OpR P o T h nx (some v) h nx :=
  any_of (fun h nx G H => r_extract ho hx H) det_extract H
theorem a_build {ty : TypeId} {xs : Array (Nat × Operand)} {vs : List (Nat × Value)} {G : Value → Bool} (ho : o.op = .build ty xs) (hx : EvP T xs.toList vs) (H : hBuild P ty vs G = true) : ∃ v, G v = true ∧ ∀ h nx, OpR P o T h nx (some v) h nx :=
  any_of (fun h nx G H => r_build ho hx H) (by unfold hBuild; exact Det.opt fun z => Det.opt fun pl => Det.fill (fun _ => Det.at _) _) H
theorem det_pick {c : Value} {a b : Option Value} : Det fun G => hPick c a b G := by
  intro G H
  rcases vBool_true H with ⟨rfl, H⟩ | ⟨rfl, H⟩
  · exact Det.opt (fun v => Det.at v) G H
  · exact Det.opt (fun v => Det.at v) G H
theorem a_pick {c a b : Operand} {vc : Value} {oa ob : Option Value} {G : Value → Bool} (ho : o.op = .pick c a b) (hc : evT T c = some vc) (ha : evT T a = oa) (hb : evT T b = ob) (H : hPick vc oa ob G = true) : ∃ v, G v = true ∧ ∀ h nx, OpR P o T h nx (some v) h nx :=
  any_of (fun h nx G H => r_pick ho hc ha hb H) det_pick H
theorem a_min {c : Call} {tys : List TypeId} {xs : List Value} {G : Value → Bool} (ho : o.op = .call c) (hc : c.callee = .builtin .min) (hx : EvL T c.args.toList xs) (ht : c.argTypes.toList = tys) (H : hMin P tys xs G = true) : ∃ v, G v = true ∧ ∀ h nx, OpR P o T h nx (some v) h nx :=
  any_of (fun h nx G H => r_min ho hc hx ht H) (by unfold hMin; exact Det.ite Det.pure Det.no) H
theorem a_max {c : Call} {tys : List TypeId} {xs : List Value} {G : Value → Bool} (ho : o.op = .call c) (hc : c.callee = .builtin .max) (hx : EvL T c.args.toList xs) (ht : c.argTypes.toList = tys) (H : hMax P tys xs G = true) : ∃ v, G v = true ∧ ∀ h nx, OpR P o T h nx (some v) h nx :=
  any_of (fun h nx G H => r_max ho hc hx ht H) (by unfold hMax; exact Det.ite Det.pure Det.no) H
/-! ### reads once more, fresh blocks -/
def hEq (u v : Value) (A : Unit → Bool) : Bool := match veqA u v with
  | true => A ()
  | false => false
theorem hEq_true {u v : Value} {A : Unit → Bool} (H : hEq u v A = true) : u = v ∧ A () = true := by
  unfold hEq at H
  split at H
  · exact ⟨veqA_sound ‹_›, H⟩
  · cases H
theorem opR_eq {h : Heap} {u v : Value} (e : u = v) (S : OpR P o T h nx (some u) h nx) : OpR P o T h nx (some v) h nx := by subst e; exact S
noncomputable def hSame (h h' : Heap) (b : Nat) (A : Unit → Bool) : Bool := match h.at b, h'.at b with
  | some (.cells cs e), some (.cells cs' e') => (match Nat.beq e e' && veqL cs cs' with
    | true => A ()
    | false => false)
  | _, _ => false
theorem hSame_true {h h' : Heap} {b : Nat} {A : Unit → Bool} (H : hSame h h' b A = true) : h'.at b = h.at b ∧ A () = true := by
  unfold hSame at H
  split at H
  · rename_i h1 h2
    split at H
    · rename_i hc
      rw [Bool.and_eq_true] at hc
      exact ⟨by rw [h1, h2, veqL_sound hc.2, Nat.eq_of_beq_eq_true hc.1], H⟩
    · cases H
  · cases H
def FreshA (P : Program) (o : Oper) (T : Tb) (h' : Heap) (nb : Nat) (v : Value) : Prop := ∀ (h'' : Heap) (nx'' : Nat), nb < nx'' → h''.at nb = h'.at nb → FreshR P o T h'' nx'' nb (some v)
theorem f_alloc {T : Tb} {h : Heap} {nx : Nat} {e : TypeId} {G : KV} (ho : o.op = .alloc e) (H : hAlloc P e h nx G = true) : ∃ v h' nx', G v h' nx' = true ∧ nx' = nx + 1 ∧ Grow h nx h' nx' ∧ FreshA P o T h' nx v := by
  obtain ⟨z, hz, H⟩ := hAlloc_true H
  exact ⟨_, _, _, H, rfl, .pend _ (.refl _ _), fun h'' nx'' hlt he => freshR_alloc ho hz hlt (by rw [he]; exact Heap.at_set_same _ _ _)⟩
theorem f_buildSlice {T : Tb} {ty : TypeId} {len : Nat} {xs : Array (Nat × Operand)} {vs : List (Nat × Value)} {h : Heap} {nx : Nat} {G : KV} (ho : o.op = .buildSlice ty len xs) (hx : EvP T xs.toList vs) (H : hBuildSlice P ty len vs h nx G = true) :
    ∃ v h' nx', G v h' nx' = true ∧ nx' = nx + 1 ∧ Grow h nx h' nx' ∧ FreshA P o T h' nx v := by
  obtain ⟨cs, size, H, S⟩ := fresh_buildSlice ho hx H
  exact ⟨_, _, _, H, rfl, .pend _ (.refl _ _), fun h'' nx'' hlt he => S _ _ _ hlt (by rw [he]; exact Heap.at_set_same _ _ _)⟩
theorem Grow.trans {h h₁ h₂ : Heap} {n n₁ n₂ : Nat} (g : Grow h n h₁ n₁) (g' : Grow h₁ n₁ h₂ n₂) : Grow h n h₂ n₂ := by
  induction g' with
  | refl => exact g
  | pend k _ ih => exact .pend k ih
/-! ### one operation after the other -/
section
variable {id : Nat} {h₀ : Heap} {nx₀ : Nat} {K : Ex → Tb → Heap → Nat → Prop}
theorem DJ.hm (ms : List Nat) (h : masksB ops ms = true) (next : masksB ops ms = true → CJ P N (.region id ops true) T₀ h₀ nx₀ K) : CJ P N (.region id ops true) T₀ h₀ nx₀ K := next h
theorem DJ.any (i : Nat) (Ti : Tb) {G : Value → Bool} (E : ∃ v, G v = true ∧ ∀ h nx, OpR P (opAt ops i) Ti h nx (some v) h nx)
    (next : ∀ v, G v = true → (∀ h nx, OpR P (opAt ops i) Ti h nx (some v) h nx) → CJ P N (.region id ops true) T₀ h₀ nx₀ K) : CJ P N (.region id ops true) T₀ h₀ nx₀ K :=
  let ⟨v, H, S⟩ := E; next v H S
theorem DJ.rd (i : Nat) (Ti : Tb) (h : Heap) (nx : Nat) {G : Value → Bool} (E : ∃ v, G v = true ∧ OpR P (opAt ops i) Ti h nx (some v) h nx)
    (next : ∀ v, G v = true → OpR P (opAt ops i) Ti h nx (some v) h nx → CJ P N (.region id ops true) T₀ h₀ nx₀ K) : CJ P N (.region id ops true) T₀ h₀ nx₀ K :=
  let ⟨v, H, S⟩ := E; next v H S
theorem DJ.wr (i : Nat) (Ti : Tb) (h : Heap) (nx : Nat) {G : Heap → Bool} (E : ∃ h', G h' = true ∧ OpR P (opAt ops i) Ti h nx none h' nx)
    (next : ∀ h', G h' = true → OpR P (opAt ops i) Ti h nx none h' nx → CJ P N (.region id ops true) T₀ h₀ nx₀ K) : CJ P N (.region id ops true) T₀ h₀ nx₀ K :=
  let ⟨h', H, S⟩ := E; next h' H S
theorem DJ.fu (i : Nat) (Ti : Tb) (h : Heap) (nx : Nat) {G : KV} (E : ∃ v h' nx', G v h' nx' = true ∧ OpR P (opAt ops i) Ti h nx (some v) h' nx')
    (next : ∀ v h' nx', G v h' nx' = true → OpR P (opAt ops i) Ti h nx (some v) h' nx' → CJ P N (.region id ops true) T₀ h₀ nx₀ K) : CJ P N (.region id ops true) T₀ h₀ nx₀ K :=
  let ⟨v, h', nx', H, S⟩ := E; next v h' nx' H S
theorem DJ.fr (i : Nat) (Ti : Tb) (h : Heap) (nx : Nat) {G : KV} (E : ∃ v h' nx', G v h' nx' = true ∧ nx' = nx + 1 ∧ Grow h nx h' nx' ∧ FreshA P (opAt ops i) Ti h' nx v)
    (next : ∀ v h' nx', G v h' nx' = true → nx' = nx + 1 → Grow h nx h' nx' → FreshA P (opAt ops i) Ti h' nx v → CJ P N (.region id ops true) T₀ h₀ nx₀ K) : CJ P N (.region id ops true) T₀ h₀ nx₀ K :=
  let ⟨v, h', nx', H, e, g, S⟩ := E; next v h' nx' H e g S
end
end Go.AM

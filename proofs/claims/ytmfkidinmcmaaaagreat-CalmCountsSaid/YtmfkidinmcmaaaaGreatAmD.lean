/- H, part 6: regions that draw their order: what is ready, what must come before what. -/
import Derived.Test.YtmfkidinmcmaaaaGreatAmM
import Derived.Orders
set_option linter.unusedVariables false
set_option linter.unusedSimpArgs false
namespace Go.AM
variable {P : Program}
/-- i must come before j, whatever the mode -/
inductive Bef (ops : Array Oper) : Nat → Nat → Prop
  | edge {j : Nat} {o : Oper} {e : Edge} : ops[j]? = some o → e ∈ o.after → Region.binds .any e = true → Bef ops e.on j
  | trans {i j k : Nat} : Bef ops i j → Bef ops j k → Bef ops i k
def Has (listed : Array Bool) (i : Nat) : Prop := listed.getD i false = true
def Closed (ops : Array Oper) (listed : Array Bool) : Prop := ∀ i j, Bef ops i j → Has listed j → Has listed i
theorem binds_any {md : Region.Mode} {e : Edge} (h : Region.binds .any e = true) : Region.binds md e = true := by
  unfold Region.binds at *
  split <;> simp_all
theorem ready_bef {md : Region.Mode} {ops : Array Oper} {listed : Array Bool} (hc : Closed ops listed) {i j : Nat} (hb : Bef ops i j) : j ∈ Region.ready md ops listed → Has listed i := by
  induction hb with
  | edge ho he hb =>
    intro hr
    obtain ⟨_, o', ho', hall⟩ := mem_ready.1 hr
    rw [ho] at ho'; cases ho'
    exact hall _ he (binds_any hb)
  | trans h1 h2 ih1 ih2 => intro hr; exact hc _ _ h1 (ih2 hr)
theorem Has.set {listed : Array Bool} {i j : Nat} (hi : i < listed.size) : Has (listed.setIfInBounds i true) j ↔ (j = i ∨ Has listed j) := by
  unfold Has
  by_cases e : j = i
  · subst e; simp [hi]
  · rw [getD_set_ne false (Ne.symm e)]; simp [e]
theorem Closed.set {md : Region.Mode} {ops : Array Oper} {listed : Array Bool} (hc : Closed ops listed) {j : Nat} (hj : j < listed.size) (hr : j ∈ Region.ready md ops listed) : Closed ops (listed.setIfInBounds j true) := by
  intro i k hb hk
  rw [Has.set hj] at hk ⊢
  rcases hk with rfl | hk
  · exact .inr (ready_bef hc hb hr)
  · exact .inr (hc i k hb hk)
/-- an order in which all operations can come, in a mode: each one's edges point to earlier ones -/
def orderOk (md : Region.Mode) (ops : Array Oper) : List Nat → List Nat → Bool
  | _, [] => true
  | seen, i :: l => (match ops[i]? with
      | some o => o.after.toList.all fun e => !Region.binds md e || seen.contains e.on
      | none => false) && orderOk md ops (i :: seen) l
theorem ready_ne {md : Region.Mode} {ops : Array Oper} {listed : Array Bool} (hs : listed.size = ops.size) : ∀ (l seen : List Nat), orderOk md ops seen l = true → (∀ i ∈ seen, Has listed i) → (∃ i ∈ l, ¬ Has listed i) → Region.ready md ops listed ≠ []
  | [], _, _, _, ⟨_, hi, _⟩ => by cases hi
  | i :: l, seen, hok, hseen, hex => by
    simp only [orderOk, Bool.and_eq_true] at hok
    by_cases hi : Has listed i
    · refine ready_ne hs l (i :: seen) hok.2 (fun x hx => ?_) ?_
      · rcases List.mem_cons.1 hx with rfl | hx
        · exact hi
        · exact hseen x hx
      · obtain ⟨x, hx, hn⟩ := hex
        rcases List.mem_cons.1 hx with rfl | hx
        · exact (hn hi).elim
        · exact ⟨x, hx, hn⟩
    · have h1 := hok.1
      split at h1
      · rename_i o ho
        have : i ∈ Region.ready md ops listed := by
          refine mem_ready.2 ⟨?_, o, ho, fun e he hb => ?_⟩
          · have hlt : i < listed.size := by rw [hs]; exact (Array.getElem?_eq_some_iff.1 ho).1
            unfold Has at hi
            simp [hlt] at hi ⊢
            exact hi
          · rw [List.all_eq_true] at h1
            have := h1 e (by simpa using he)
            simp only [hb, Bool.not_true, Bool.false_or, List.contains_iff_mem] at this
            exact hseen _ this
        intro h0; rw [h0] at this; cases this
      · cases h1
/-- the region, whatever the tape: by each of its modes -/
theorem wp_region_modes {id : Nat} {ops : Array Oper} {Q : Exit → Act → World → Prop} {a : Act} {w : World}
    (h : ∀ md, wpAny P md ops Q ops.size (Array.replicate ops.size false) a { w with drawn := w.drawn + 1 }) : (Code.region id ops true).wp P Q a w :=
  wp_region_draw fun t => by
    unfold Region.schedule
    split
    · exact wpAny_sound ops.size t _ a _ (h .any)
    · split
      · exact wpAny_sound ops.size _ _ a _ (h .text)
      · exact wpAny_sound ops.size _ _ a _ (h .gc)
end Go.AM

/- H, part 3: each kind of operation over values: a rule each. -/
import Derived.Test.YtmfkidinmcmaaaaGreatAmI
set_option linter.unusedVariables false
set_option linter.unusedSimpArgs false
namespace Go.AM
variable {P : Program}
/-! the three kinds of continuations -/
open Classical in
noncomputable def kG (G : Value → Bool) (h : Heap) (nx : Nat) : K := fun ov h' nx' => match ov with
  | some v => G v && decide (h' = h ∧ nx' = nx)
  | none => false
open Classical in
noncomputable def kS (G : Heap → Bool) (nx : Nat) : K := fun ov h' nx' => match ov with
  | none => G h' && decide (nx' = nx)
  | some _ => false
def kF (G : KV) : K := fun ov h' nx' => match ov with
  | some v => G v h' nx'
  | none => false
theorem kG_same (G : Value → Bool) (h : Heap) (nx : Nat) (v : Value) : kG G h nx (some v) h nx = G v := by simp [kG]
theorem kS_same (G : Heap → Bool) (h : Heap) (nx : Nat) : kS G nx none h nx = G h := by simp [kS]
theorem rd {o : Oper} {T : Tb} {h : Heap} {nx : Nat} {G : Value → Bool} (H : aop P o.op (tr T) h nx (kG G h nx) = true) : ∃ v, G v = true ∧ OpR P o T h nx (some v) h nx := by
  obtain ⟨ov, h', nx', hk, S⟩ := aop_sim H
  cases ov with
  | none => cases hk
  | some v =>
    simp only [kG, Bool.and_eq_true, decide_eq_true_eq] at hk
    obtain ⟨hk, rfl, rfl⟩ := hk
    exact ⟨v, hk, .of_sim S⟩
theorem wr {o : Oper} {T : Tb} {h : Heap} {nx : Nat} {G : Heap → Bool} (H : aop P o.op (tr T) h nx (kS G nx) = true) : ∃ h', G h' = true ∧ OpR P o T h nx none h' nx := by
  obtain ⟨ov, h', nx', hk, S⟩ := aop_sim H
  cases ov with
  | some v => cases hk
  | none =>
    simp only [kS, Bool.and_eq_true, decide_eq_true_eq] at hk
    obtain ⟨hk, rfl⟩ := hk
    exact ⟨h', hk, .of_sim S⟩
theorem fu {o : Oper} {T : Tb} {h : Heap} {nx : Nat} {G : KV} (H : aop P o.op (tr T) h nx (kF G) = true) : ∃ v h' nx', G v h' nx' = true ∧ OpR P o T h nx (some v) h' nx' := by
  obtain ⟨ov, h', nx', hk, S⟩ := aop_sim H
  cases ov with
  | none => cases hk
  | some v => exact ⟨v, h', nx', hk, .of_sim S⟩
theorem evK_some {T : Tb} {x : Operand} {v : Value} (h : evT T x = some v) (k : Value → Bool) : evK (tr T) x k = k v := by unfold evK; rw [ev_tr, h]
theorem evLK_some {T : Tb} : ∀ {xs : List Operand} {vs : List Value}, EvL T xs vs → ∀ k : List Value → Bool, evLK (tr T) xs k = k vs
  | [], [], _, k => rfl
  | x :: xs, v :: vs, h, k => by
    show evK (tr T) x (fun v => evLK (tr T) xs fun vs => k (v :: vs)) = _
    rw [evK_some h.1, evLK_some h.2]
  | [], _ :: _, h, _ => h.elim
  | _ :: _, [], h, _ => h.elim
variable {o : Oper} {T : Tb} {h : Heap} {nx : Nat}
theorem r_move {x : Operand} {v : Value} (ho : o.op = .move x) (hx : evT T x = some v) : OpR P o T h nx (some v) h nx := by
  obtain ⟨u, hu, S⟩ := rd (P := P) (o := o) (T := T) (h := h) (nx := nx) (G := fun u => @decide (u = v) (Classical.propDecidable _)) (by
    rw [ho]; show evK (tr T) x (fun u => kG _ h nx (some u) h nx) = true
    rw [evK_some hx, kG_same]; simp)
  have : u = v := by simpa using hu
  subst this; exact S
theorem r_assign {x : Operand} {v : Value} (ho : o.op = .assign x) (hx : evT T x = some v) : OpR P o T h nx (some v) h nx := by
  obtain ⟨u, hu, S⟩ := rd (P := P) (o := o) (T := T) (h := h) (nx := nx) (G := fun u => @decide (u = v) (Classical.propDecidable _)) (by
    rw [ho]; show evK (tr T) x (fun u => kG _ h nx (some u) h nx) = true
    rw [evK_some hx, kG_same]; simp)
  have : u = v := by simpa using hu
  subst this; exact S
theorem r_pick1 {c a b : Operand} {v : Value} (ho : o.op = .pick c a b) (hc : evT T c = some (.bool true)) (ha : evT T a = some v) : OpR P o T h nx (some v) h nx := by
  obtain ⟨u, hu, S⟩ := rd (P := P) (o := o) (T := T) (h := h) (nx := nx) (G := fun u => @decide (u = v) (Classical.propDecidable _)) (by
    rw [ho]; show evK (tr T) c (fun c => match c with
      | .bool true => evK (tr T) a fun v => kG _ h nx (some v) h nx
      | .bool false => evK (tr T) b fun v => kG _ h nx (some v) h nx
      | _ => false) = true
    rw [evK_some hc]
    show evK (tr T) a (fun v => kG _ h nx (some v) h nx) = true
    rw [evK_some ha, kG_same]; simp)
  have : u = v := by simpa using hu
  subst this; exact S
theorem r_pick2 {c a b : Operand} {v : Value} (ho : o.op = .pick c a b) (hc : evT T c = some (.bool false)) (hb : evT T b = some v) : OpR P o T h nx (some v) h nx := by
  obtain ⟨u, hu, S⟩ := rd (P := P) (o := o) (T := T) (h := h) (nx := nx) (G := fun u => @decide (u = v) (Classical.propDecidable _)) (by
    rw [ho]; show evK (tr T) c (fun c => match c with
      | .bool true => evK (tr T) a fun v => kG _ h nx (some v) h nx
      | .bool false => evK (tr T) b fun v => kG _ h nx (some v) h nx
      | _ => false) = true
    rw [evK_some hc]
    show evK (tr T) b (fun v => kG _ h nx (some v) h nx) = true
    rw [evK_some hb, kG_same]; simp)
  have : u = v := by simpa using hu
  subst this; exact S
theorem r_load {ty : TypeId} {x : Operand} {p : Value} {G : Value → Bool} (ho : o.op = .load ty x) (hx : evT T x = some p) (H : loadK P ty p h G = true) : ∃ v, G v = true ∧ OpR P o T h nx (some v) h nx :=
  rd (by
    rw [ho]; show evK (tr T) x (fun p => loadK P ty p h fun v => kG G h nx (some v) h nx) = true
    rw [evK_some hx]; simpa only [kG_same] using H)
theorem r_store {ty : TypeId} {x y : Operand} {p v : Value} {G : Heap → Bool} (ho : o.op = .store ty x y) (hx : evT T x = some p) (hy : evT T y = some v) (H : storeK P ty p v h G = true) : ∃ h', G h' = true ∧ OpR P o T h nx none h' nx :=
  wr (by
    rw [ho]; show evK (tr T) x (fun p => evK (tr T) y fun v => storeK P ty p v h fun h' => kS G nx none h' nx) = true
    rw [evK_some hx, evK_some hy]; simpa only [kS_same] using H)
/-- a pointer that is not nil, or a function -/
noncomputable def vNil : Value → Bool → Bool :=
  @Value.rec (fun _ => Bool → Bool) (fun _ => Unit) (fun _ => Unit)
    (fun _ _ => false) (fun _ _ _ => false) (fun _ _ _ => false) (fun _ _ _ _ => false) (fun _ _ => false) (fun oa c => @Option.rec Addr (fun _ => Bool) false (fun _ => c) oa) (fun _ _ _ _ => false)
    (fun _ _ => false) (fun _ _ => false) (fun fn _ _ _ _ c => match fn with | .func _ => c | _ => false) (fun _ => false) (fun _ _ _ _ => false) (fun _ => false) (fun _ _ _ => false) (fun _ _ _ => false)
    (fun _ _ => ()) () (fun _ _ _ _ => ())
noncomputable def hNil (v : Value) (G : Value → Bool) : Bool := vNil v (G v)
theorem r_nil {x : Operand} {v : Value} {G : Value → Bool} (ho : o.op = .nilCheck x) (hx : evT T x = some v) (H : hNil v G = true) : ∃ v, G v = true ∧ OpR P o T h nx (some v) h nx :=
  rd (by
    rw [ho]; show evK (tr T) x (fun v => match v with
      | .pointer (some _) => kG G h nx (some v) h nx
      | .func (.func _) _ _ => kG G h nx (some v) h nx
      | _ => false) = true
    rw [evK_some hx]; simp only [kG_same]
    unfold hNil at H
    cases v <;> first
      | (cases H; done)
      | (rename_i oa; cases oa <;> first | exact H | (cases H; done))
      | (rename_i fn _ _; cases fn <;> first | exact H | (cases H; done)))
theorem r_bin {op : BinOp} {ty ty2 : TypeId} {x y : Operand} {a b : Value} {G : Value → Bool} (ho : o.op = .binOp op ty x y ty2) (hx : evT T x = some a) (hy : evT T y = some b) (H : binK P op ty x y a b G = true) : ∃ v, G v = true ∧ OpR P o T h nx (some v) h nx :=
  rd (by
    rw [ho]; show evK (tr T) x (fun a => evK (tr T) y fun b => binK P op ty x y a b fun v => kG G h nx (some v) h nx) = true
    rw [evK_some hx, evK_some hy]; simpa only [kG_same] using H)
noncomputable def hUn (P : Program) (op : UnOp) (a : Value) (G : Value → Bool) : Bool := if flat a then pureK P (Op.unary op a) G else false
theorem r_un {op : UnOp} {ty : TypeId} {x : Operand} {a : Value} {G : Value → Bool} (ho : o.op = .unOp op ty x) (hx : evT T x = some a) (H : hUn P op a G = true) : ∃ v, G v = true ∧ OpR P o T h nx (some v) h nx :=
  rd (by
    rw [ho]; show evK (tr T) x (fun a => if flat a then pureK P (Op.unary op a) fun v => kG G h nx (some v) h nx else false) = true
    rw [evK_some hx]; simp only [kG_same]; exact H)
noncomputable def hConv (P : Program) (s d : TypeId) (a : Value) (h : Heap) (G : Value → Bool) : Bool :=
  if flat a then pureK P (convert s d a) G
  else match sliceT P s, P.underlying d, a with
    | some e, some .string, .slice (some ⟨b, o, _⟩) n _ =>
      match P.underlying e with
      | some (.int .u8) => cellsK h b o n fun l => aop.bytesK l fun bs => G (.string ⟨⟨bs⟩⟩)
      | _ => false
    | _, _, _ => false
theorem r_conv {s d : TypeId} {x : Operand} {a : Value} {G : Value → Bool} (ho : o.op = .convert s d x) (hx : evT T x = some a) (H : hConv P s d a h G = true) : ∃ v, G v = true ∧ OpR P o T h nx (some v) h nx :=
  rd (by
    rw [ho]; show evK (tr T) x (fun a => if flat a then pureK P (convert s d a) fun v => kG G h nx (some v) h nx
      else match sliceT P s, P.underlying d, a with
        | some e, some .string, .slice (some ⟨b, o, _⟩) n _ =>
          match P.underlying e with
          | some (.int .u8) => cellsK h b o n fun l => aop.bytesK l fun bs => kG G h nx (some (.string ⟨⟨bs⟩⟩)) h nx
          | _ => false
        | _, _, _ => false) = true
    rw [evK_some hx]; simp only [kG_same]; exact H)
noncomputable def hFieldAddr (P : Program) (s : TypeId) (p : Value) (f : Nat) (G : Value → Bool) : Bool :=
  optK (fieldT P s f) fun q => optK (szT P q.2) fun n =>
      match p with
      | .pointer (some ⟨b, o, none⟩) => if Nat.beq n 0 then false else natK (o + q.1) fun o' => G (.pointer (some ⟨b, o', none⟩))
      | _ => false
theorem r_fieldAddr {s : TypeId} {x : Operand} {f : Nat} {p : Value} {G : Value → Bool} (ho : o.op = .fieldAddr s x f) (hx : evT T x = some p) (H : hFieldAddr P s p f G = true) : ∃ v, G v = true ∧ OpR P o T h nx (some v) h nx :=
  rd (by
    rw [ho]; show evK (tr T) x (fun p => hFieldAddr P s p f fun v => kG G h nx (some v) h nx) = true
    rw [evK_some hx]; simpa only [kG_same] using H)
noncomputable def hField (P : Program) (s : TypeId) (a : Value) (f : Nat) (G : Value → Bool) : Bool :=
  optK (fieldT P s f) fun q =>
      match a, isAggT P q.2, szT P q.2 with
      | .agg cs, some true, some n => dropK q.1 cs.toList fun l => takeK n l fun l => G (.agg ⟨l⟩)
      | .agg cs, some false, some _ => dropK q.1 cs.toList fun l => match l with | v :: _ => G v | [] => false
      | _, _, _ => false
theorem r_field {s : TypeId} {x : Operand} {f : Nat} {p : Value} {G : Value → Bool} (ho : o.op = .field s x f) (hx : evT T x = some p) (H : hField P s p f G = true) : ∃ v, G v = true ∧ OpR P o T h nx (some v) h nx :=
  rd (by
    rw [ho]; show evK (tr T) x (fun p => hField P s p f fun v => kG G h nx (some v) h nx) = true
    rw [evK_some hx]; simpa only [kG_same] using H)
noncomputable def hIndexAddr (P : Program) (ty : TypeId) (x i : Value) (G : Value → Bool) : Bool := match i with
    | .int _ (.ofNat i) =>
      match x with
      | .slice (some ⟨b, o, _⟩) n _ => optK (sliceT P ty) fun e => optK (szT P e) fun size =>
          if Nat.blt i n then natK (o + i * size) fun o' => G (.pointer (some ⟨b, o', none⟩)) else false
      | .pointer (some ⟨b, o, none⟩) => optK (arrayT P ty) fun q =>
          if Nat.blt i q.1 then natK (o + i * q.2) fun o' => G (.pointer (some ⟨b, o', none⟩)) else false
      | _ => false
    | _ => false
theorem r_indexAddr {ty : TypeId} {x y : Operand} {a i : Value} {G : Value → Bool} (ho : o.op = .indexAddr ty x y) (hx : evT T x = some a) (hy : evT T y = some i) (H : hIndexAddr P ty a i G = true) : ∃ v, G v = true ∧ OpR P o T h nx (some v) h nx :=
  rd (by
    rw [ho]; show evK (tr T) x (fun a => evK (tr T) y fun i => hIndexAddr P ty a i fun v => kG G h nx (some v) h nx) = true
    rw [evK_some hx, evK_some hy]; simpa only [kG_same] using H)
noncomputable def hIndex (P : Program) (ty : TypeId) (a i : Value) (G : Value → Bool) : Bool := if flat a && flat i then pureK P (Instr.index ty a i) G else false
theorem r_index {ty : TypeId} {x y : Operand} {a i : Value} {G : Value → Bool} (ho : o.op = .index ty x y) (hx : evT T x = some a) (hy : evT T y = some i) (H : hIndex P ty a i G = true) : ∃ v, G v = true ∧ OpR P o T h nx (some v) h nx :=
  rd (by
    rw [ho]; show evK (tr T) x (fun a => evK (tr T) y fun i => hIndex P ty a i fun v => kG G h nx (some v) h nx) = true
    rw [evK_some hx, evK_some hy]; simpa only [kG_same] using H)
noncomputable def hExtract (a : Value) (i : Nat) (G : Value → Bool) : Bool := match a with
    | .tuple vs => optK vs.toList[i]? G
    | _ => false
theorem r_extract {x : Operand} {i : Nat} {a : Value} {G : Value → Bool} (ho : o.op = .extract x i) (hx : evT T x = some a) (H : hExtract a i G = true) : ∃ v, G v = true ∧ OpR P o T h nx (some v) h nx :=
  rd (by
    rw [ho]; show evK (tr T) x (fun a => hExtract a i fun v => kG G h nx (some v) h nx) = true
    rw [evK_some hx]; simpa only [kG_same] using H)
theorem r_alloc {e : TypeId} {G : KV} (ho : o.op = .alloc e) (H : (optK (zeroT P e) fun z => newK z 0 h nx fun h' nx' => G (.pointer (some ⟨nx, 0, none⟩)) h' nx') = true) : ∃ v h' nx', G v h' nx' = true ∧ OpR P o T h nx (some v) h' nx' :=
  fu (by rw [ho]; exact H)
noncomputable def hBox (v : Value) (h : Heap) (nx : Nat) (G : KV) : Bool := optK (cellsOf v) fun cs => newK cs 0 h nx fun h' nx' => G (.pointer (some ⟨nx, 0, none⟩)) h' nx'
theorem r_box {e : TypeId} {x : Operand} {v : Value} {G : KV} (ho : o.op = .box e x) (hx : evT T x = some v) (H : hBox v h nx G = true) : ∃ v h' nx', G v h' nx' = true ∧ OpR P o T h nx (some v) h' nx' :=
  fu (by
    rw [ho]; show evK (tr T) x (fun v => hBox v h nx G) = true
    rw [evK_some hx]; exact H)
noncomputable def hMakeMap (h : Heap) (nx : Nat) (G : KV) : Bool := Tr.setK (some (.map [] 0)) (path nx) h fun h' => natK (nx + 1) fun nx' => G (.map (some nx)) h' nx'
theorem r_makeMap {ty : TypeId} {G : KV} (ho : o.op = .makeMap ty none) (H : hMakeMap h nx G = true) : ∃ v h' nx', G v h' nx' = true ∧ OpR P o T h nx (some v) h' nx' :=
  fu (by rw [ho]; exact H)
noncomputable def hMakeFunc (f : FuncId) (fs cs : List Value) (G : Value → Bool) : Bool := if aop.ptrs fs && aop.ptrs cs then G (.func (.func f) ⟨fs⟩ ⟨cs⟩) else false
theorem r_makeFunc {f : FuncId} {xs ys : Array Operand} {fs cs : List Value} {G : Value → Bool} (ho : o.op = .makeFunc (.func f) xs ys) (hx : EvL T xs.toList fs) (hy : EvL T ys.toList cs) (H : hMakeFunc f fs cs G = true) : ∃ v, G v = true ∧ OpR P o T h nx (some v) h nx :=
  rd (by
    rw [ho]; show evLK (tr T) xs.toList (fun fs => evLK (tr T) ys.toList fun cs => hMakeFunc f fs cs fun v => kG G h nx (some v) h nx) = true
    rw [evLK_some hx, evLK_some hy]; simpa only [kG_same] using H)
noncomputable def hMakeSlice (P : Program) (ty : TypeId) (l c : Value) (h : Heap) (nx : Nat) (G : KV) : Bool :=
  optK (sliceT P ty) fun e => optK (szT P e) fun size => optK (bytesT P e) fun bytes => optK (zeroT P e) fun z =>
      match l, c with
        | .int _ (.ofNat l), .int _ (.ofNat c) =>
          if Nat.beq z.length size && Nat.ble 1 size && Nat.ble l c && Nat.ble (bytes * c) 16777216 && Nat.ble c 16777216 then
            forceK (rowOf z (c * size)) fun row => newK row size h nx fun h' nx' => G (.slice (some ⟨nx, 0, some 0⟩) l c) h' nx'
          else false
        | _, _ => false
theorem r_makeSlice {ty : TypeId} {x y : Operand} {l c : Value} {G : KV} (ho : o.op = .makeSlice ty x y) (hx : evT T x = some l) (hy : evT T y = some c) (H : hMakeSlice P ty l c h nx G = true) : ∃ v h' nx', G v h' nx' = true ∧ OpR P o T h nx (some v) h' nx' :=
  fu (by
    rw [ho]
    show (optK (sliceT P ty) fun e => optK (szT P e) fun size => optK (bytesT P e) fun bytes => optK (zeroT P e) fun z =>
      evK (tr T) x fun l => evK (tr T) y fun c => match l, c with
        | .int _ (.ofNat l), .int _ (.ofNat c) =>
          if Nat.beq z.length size && Nat.ble 1 size && Nat.ble l c && Nat.ble (bytes * c) 16777216 && Nat.ble c 16777216 then
            forceK (rowOf z (c * size)) fun row => newK row size h nx fun h' nx' => kF G (some (.slice (some ⟨nx, 0, some 0⟩) l c)) h' nx'
          else false
        | _, _ => false) = true
    simp only [evK_some hx, evK_some hy]
    exact H)
theorem r_len {c : Call} {x : Operand} {ty : TypeId} {a : Value} {G : Value → Bool} (ho : o.op = .call c) (hc : c.callee = .builtin .len) (hx : EvL T c.args.toList [a]) (ht : c.argTypes.toList = [ty]) (H : lenK P ty a h G = true) : ∃ v, G v = true ∧ OpR P o T h nx (some v) h nx :=
  rd (by
    rw [ho]; show aCall P c (tr T) h nx _ = true
    unfold aCall; rw [hc]; simp only; rw [evLK_some hx, ht]; simpa only [kG_same] using H)
theorem r_cap {c : Call} {x : Operand} {ty : TypeId} {a : Value} {G : Value → Bool} (ho : o.op = .call c) (hc : c.callee = .builtin .cap) (hx : EvL T c.args.toList [a]) (ht : c.argTypes.toList = [ty]) (H : capK P ty a G = true) : ∃ v, G v = true ∧ OpR P o T h nx (some v) h nx :=
  rd (by
    rw [ho]; show aCall P c (tr T) h nx _ = true
    unfold aCall; rw [hc]; simp only; rw [evLK_some hx, ht]; simpa only [kG_same] using H)
theorem r_append {c : Call} {sT xT : TypeId} {s x : Value} {G : KV} (ho : o.op = .call c) (hc : c.callee = .builtin .append) (hx : EvL T c.args.toList [s, x]) (ht : c.argTypes.toList = [sT, xT]) (H : appendK P sT xT s x h nx (kF G) = true) : ∃ v h' nx', G v h' nx' = true ∧ OpR P o T h nx (some v) h' nx' :=
  fu (by
    rw [ho]; show aCall P c (tr T) h nx _ = true
    unfold aCall; rw [hc]; simp only; rw [evLK_some hx, ht]; exact H)
noncomputable def hMin (P : Program) (tys : List TypeId) (xs : List Value) (G : Value → Bool) : Bool := if flatL xs then pureK P (Builtin.min_ ⟨tys⟩ 0 ⟨xs⟩) G else false
noncomputable def hMax (P : Program) (tys : List TypeId) (xs : List Value) (G : Value → Bool) : Bool := if flatL xs then pureK P (Builtin.max_ ⟨tys⟩ 0 ⟨xs⟩) G else false
theorem r_min {c : Call} {tys : List TypeId} {xs : List Value} {G : Value → Bool} (ho : o.op = .call c) (hc : c.callee = .builtin .min) (hx : EvL T c.args.toList xs) (ht : c.argTypes.toList = tys) (H : hMin P tys xs G = true) : ∃ v, G v = true ∧ OpR P o T h nx (some v) h nx :=
  rd (by
    rw [ho]; show aCall P c (tr T) h nx _ = true
    unfold aCall; rw [hc]; simp only; rw [evLK_some hx, ht]; simp only [kG_same]; exact H)
theorem r_max {c : Call} {tys : List TypeId} {xs : List Value} {G : Value → Bool} (ho : o.op = .call c) (hc : c.callee = .builtin .max) (hx : EvL T c.args.toList xs) (ht : c.argTypes.toList = tys) (H : hMax P tys xs G = true) : ∃ v, G v = true ∧ OpR P o T h nx (some v) h nx :=
  rd (by
    rw [ho]; show aCall P c (tr T) h nx _ = true
    unfold aCall; rw [hc]; simp only; rw [evLK_some hx, ht]; simp only [kG_same]; exact H)
end Go.AM

/- H, part 4: the rules of the operations with parts, bounds and maps. -/
import Derived.Test.YtmfkidinmcmaaaaGreatAmJ
set_option linter.unusedVariables false
set_option linter.unusedSimpArgs false
namespace Go.AM
variable {P : Program}
def EvP (T : Tb) : List (Nat × Operand) → List (Nat × Value) → Prop
  | [], [] => True
  | (i, x) :: xs, (j, v) :: vs => i = j ∧ evT T x = some v ∧ EvP T xs vs
  | _, _ => False
noncomputable def hFill (place : Nat → Option (Nat × Nat)) (parts : List (Nat × Value)) : List Value → (List Value → Bool) → Bool :=
  List.rec (motive := fun _ => List Value → (List Value → Bool) → Bool) (fun cs k => k cs)
    (fun p _ ih cs k =>
      match place p.1 with
      | some (off, n) => match cellsOf p.2 with
        | some vs => if Nat.beq vs.length n then updK vs off cs fun cs' => ih cs' k else false
        | none => false
      | none => false) parts
theorem fill_some {T : Tb} {place : Nat → Option (Nat × Nat)} : ∀ {xs : List (Nat × Operand)} {vs : List (Nat × Value)}, EvP T xs vs → ∀ cs k, fillK place xs (tr T) cs k = hFill place vs cs k
  | [], [], _, cs, k => rfl
  | (i, x) :: xs, (j, v) :: vs, h, cs, k => by
    obtain ⟨rfl, hv, h⟩ := h
    show (match place i with
      | some (off, n) => evK (tr T) x fun v => match cellsOf v with
        | some vs => if Nat.beq vs.length n then updK vs off cs fun cs' => fillK place xs (tr T) cs' k else false
        | none => false
      | none => false) = (match place i with
      | some (off, n) => match cellsOf v with
        | some us => if Nat.beq us.length n then updK us off cs fun cs' => hFill place vs cs' k else false
        | none => false
      | none => false)
    simp only [evK_some hv, fill_some h]
  | [], _ :: _, h, _, _ => h.elim
  | _ :: _, [], h, _, _ => h.elim
def EvO (T : Tb) : Option Operand → Option Value → Prop
  | none, none => True
  | some x, some v => evT T x = some v
  | _, _ => False
noncomputable def hBnd (x : Option Value) (d : Nat) (k : Nat → Bool) : Bool := match x with
  | none => k d
  | some (.int _ (.ofNat n)) => k n
  | _ => false
theorem bnd_some {T : Tb} {x : Option Operand} {v : Option Value} (h : EvO T x v) (d : Nat) (k : Nat → Bool) : bndK (tr T) x d k = hBnd v d k := by
  cases x with
  | none => cases v with
    | none => rfl
    | some v => exact h.elim
  | some x => cases v with
    | none => exact h.elim
    | some v =>
      show evK (tr T) x _ = _
      rw [evK_some h]
      unfold hBnd
      split <;> simp_all
theorem EvO.isSome {T : Tb} {x : Option Operand} {v : Option Value} (h : EvO T x v) : x.isSome = v.isSome ∧ x.isNone = v.isNone := by
  cases x <;> cases v <;> first | exact h.elim | exact ⟨rfl, rfl⟩
noncomputable def hFlatO (x : Option Value) (k : Option Value → Bool) : Bool := match x with
  | none => k none
  | some v => if flat v then k (some v) else false
theorem flat_some {T : Tb} {x : Option Operand} {v : Option Value} (h : EvO T x v) (k : Option Value → Bool) : optFlatK (tr T) x k = hFlatO v k := by
  cases x with
  | none => cases v with
    | none => rfl
    | some v => exact h.elim
  | some x => cases v with
    | none => exact h.elim
    | some v =>
      show evK (tr T) x _ = _
      rw [evK_some h]; rfl
noncomputable def hSlice1 (P : Program) (h : Heap) (ty : TypeId) (x : Value) (lo hi mx : Option Value) (k : Value → Bool) : Bool :=
  match x with
  | .slice (some ⟨b, o, sp⟩) n c =>
    match sliceT P ty with
    | some e => optK (szT P e) fun size =>
      hBnd mx c fun m => hBnd hi n fun hh => hBnd lo 0 fun l =>
      if Nat.ble l hh && Nat.ble hh m && Nat.ble m c && (mx.isNone || hi.isSome) then
        if Nat.beq c 0 then k (.slice (some ⟨b, o, if mx.isSome then some 0 else sp⟩) 0 0)
        else match h.at b with
        | some (.cells _ esz) => if Nat.beq esz size then
            natK (o + l * size) fun o' => natK (hh - l) fun n' => natK (m - l) fun c' =>
            k (.slice (some ⟨b, o', if mx.isSome then some 0 else sp⟩) n' c')
          else false
        | _ => false
      else false
    | none => false
  | _ => false
theorem slice_some {T : Tb} {h : Heap} {ty : TypeId} {x : Value} {lo hi mx : Option Operand} {lo' hi' mx' : Option Value} (h1 : EvO T lo lo') (h2 : EvO T hi hi') (h3 : EvO T mx mx') (k : Value → Bool) : sliceK P (tr T) h ty x lo hi mx k = hSlice1 P h ty x lo' hi' mx' k := by
  unfold sliceK hSlice1
  simp only [bnd_some h1, bnd_some h2, bnd_some h3, h3.isSome.1, h3.isSome.2, h2.isSome.1]
  rfl
noncomputable def hSlice (P : Program) (h : Heap) (ty : TypeId) (a : Value) (lo hi mx : Option Value) (G : Value → Bool) : Bool :=
  if flat a then hFlatO lo fun lo => hFlatO hi fun hi => hFlatO mx fun mx => pureK P (Instr.sliceAt ty a lo hi mx) G
  else hSlice1 P h ty a lo hi mx G
variable {o : Oper} {T : Tb} {h : Heap} {nx : Nat}
theorem r_slice {ty : TypeId} {x : Operand} {lo hi mx : Option Operand} {a : Value} {lo' hi' mx' : Option Value} {G : Value → Bool} (ho : o.op = .slice ty x lo hi mx) (hx : evT T x = some a) (h1 : EvO T lo lo') (h2 : EvO T hi hi') (h3 : EvO T mx mx') (H : hSlice P h ty a lo' hi' mx' G = true) : ∃ v, G v = true ∧ OpR P o T h nx (some v) h nx :=
  rd (by
    rw [ho]; show evK (tr T) x (fun a => if flat a then optFlatK (tr T) lo fun lo => optFlatK (tr T) hi fun hi => optFlatK (tr T) mx fun mx => pureK P (Instr.sliceAt ty a lo hi mx) fun v => kG G h nx (some v) h nx
      else sliceK P (tr T) h ty a lo hi mx fun v => kG G h nx (some v) h nx) = true
    rw [evK_some hx]
    simp only [kG_same, flat_some h1, flat_some h2, flat_some h3, slice_some h1 h2 h3]
    exact H)
noncomputable def hBuild (P : Program) (ty : TypeId) (parts : List (Nat × Value)) (G : Value → Bool) : Bool :=
  optK (zeroT P ty) fun z => optK (placeT P ty) fun place => hFill place parts z fun cs => G (.agg ⟨cs⟩)
theorem r_build {ty : TypeId} {xs : Array (Nat × Operand)} {vs : List (Nat × Value)} {G : Value → Bool} (ho : o.op = .build ty xs) (hx : EvP T xs.toList vs) (H : hBuild P ty vs G = true) : ∃ v, G v = true ∧ OpR P o T h nx (some v) h nx :=
  rd (by
    rw [ho]; show (optK (zeroT P ty) fun z => optK (placeT P ty) fun place => fillK place xs.toList (tr T) z fun cs => kG G h nx (some (.agg ⟨cs⟩)) h nx) = true
    simp only [kG_same, fill_some hx]
    exact H)
noncomputable def hBuildSlice (P : Program) (ty : TypeId) (len : Nat) (parts : List (Nat × Value)) (h : Heap) (nx : Nat) (G : KV) : Bool :=
  optK (sliceT P ty) fun e => optK (szT P e) fun size => optK (zeroT P e) fun z =>
      if Nat.beq z.length size && Nat.ble 1 size && Nat.ble (len * size) 16777216 then
        forceK (rowOf z (len * size)) fun row => hFill (fun i => some (i * size, size)) parts row fun cs =>
        newK cs size h nx fun h' nx' => G (.slice (some ⟨nx, 0, some 0⟩) len len) h' nx'
      else false
theorem r_buildSlice {ty : TypeId} {len : Nat} {xs : Array (Nat × Operand)} {vs : List (Nat × Value)} {G : KV} (ho : o.op = .buildSlice ty len xs) (hx : EvP T xs.toList vs) (H : hBuildSlice P ty len vs h nx G = true) : ∃ v h' nx', G v h' nx' = true ∧ OpR P o T h nx (some v) h' nx' :=
  fu (by
    rw [ho]; show (optK (sliceT P ty) fun e => optK (szT P e) fun size => optK (zeroT P e) fun z =>
      if Nat.beq z.length size && Nat.ble 1 size && Nat.ble (len * size) 16777216 then
        forceK (rowOf z (len * size)) fun row => fillK (fun i => some (i * size, size)) xs.toList (tr T) row fun cs =>
        newK cs size h nx fun h' nx' => kF G (some (.slice (some ⟨nx, 0, some 0⟩) len len)) h' nx'
      else false) = true
    simp only [fill_some hx]
    exact H)
noncomputable def hLookup (P : Program) (ty : TypeId) (m key : Value) (ok : Bool) (h : Heap) (G : Value → Bool) : Bool :=
  if flat key then
      match P.underlying ty with
      | some (.map kt et) => optK (zeroT P et) fun _ => match m with
        | .map (some b) => match h.at b with
          | some (.map es _) => optK (pureRun P (Instr.checkKey es.isEmpty 10000 kt key)) fun _ => optK (pureRun P (Instr.findKey kt key es)) fun r =>
            optK (pureRun P (zeroValue et)) fun z =>
            match r with
            | some (_, v) => G (cond ok (.tuple ⟨[v, .bool true]⟩) v)
            | none => if flat z then G (cond ok (.tuple ⟨[z, .bool false]⟩) z) else false
          | _ => false
        | _ => false
      | _ => false
    else false
theorem r_lookup {ty : TypeId} {x y : Operand} {ok : Bool} {a i : Value} {G : Value → Bool} (ho : o.op = .lookup ty x y ok) (hx : evT T x = some a) (hy : evT T y = some i) (H : hLookup P ty a i ok h G = true) : ∃ v, G v = true ∧ OpR P o T h nx (some v) h nx :=
  rd (by
    rw [ho]; show evK (tr T) x (fun a => evK (tr T) y fun i => hLookup P ty a i ok h fun v => kG G h nx (some v) h nx) = true
    rw [evK_some hx, evK_some hy]; simpa only [kG_same] using H)
noncomputable def hMapUpdate (P : Program) (ty : TypeId) (m key v : Value) (h : Heap) (G : Heap → Bool) : Bool :=
  if flat key then
      match P.underlying ty, cellsOf v with
      | some (.map kt _), some _ => match m with
        | .map (some b) => match h.at b with
          | some (.map es ck) => optK (pureRun P (Instr.checkKey false 10000 kt key)) fun _ => optK (pureRun P (Instr.findKey kt key es)) fun r =>
            match r with
            | some (i, _) => optK es[i]? fun e => optK (pureRun P (Instr.keyThatStays e.key key)) fun nk =>
                if flat nk then updK [⟨nk, v, e.born⟩] i es fun es' => Tr.setK (some (.map es' ck)) (path b) h G else false
            | none => appK es [⟨key, v, ck⟩] fun es' => natK (ck + 1) fun ck' => Tr.setK (some (.map es' ck')) (path b) h G
          | _ => false
        | _ => false
      | _, _ => false
    else false
theorem r_mapUpdate {ty : TypeId} {x y z : Operand} {a i v : Value} {G : Heap → Bool} (ho : o.op = .mapUpdate ty x y z) (hx : evT T x = some a) (hy : evT T y = some i) (hz : evT T z = some v) (H : hMapUpdate P ty a i v h G = true) : ∃ h', G h' = true ∧ OpR P o T h nx none h' nx :=
  wr (by
    rw [ho]; show evK (tr T) x (fun a => evK (tr T) y fun i => evK (tr T) z fun v => hMapUpdate P ty a i v h fun h' => kS G nx none h' nx) = true
    rw [evK_some hx, evK_some hy, evK_some hz]; simpa only [kS_same] using H)
noncomputable def hClear (P : Program) (ty : TypeId) (x : Value) (h : Heap) (nx : Nat) (G : KV) : Bool := match x with
  | .slice none _ _ => optK (sliceT P ty) fun _ => G (.tuple ⟨[]⟩) h nx
  | .slice (some ⟨b, o, _⟩) n _ => optK (sliceT P ty) fun e => if Nat.beq n 0 then G (.tuple ⟨[]⟩) h nx else
          optK (szT P e) fun size => optK (zeroT P e) fun z =>
          if Nat.beq z.length size then forceK (rowOf z (n * size)) fun row => writeK h b o row fun h' => G (.tuple ⟨[]⟩) h' nx else false
  | _ => false
theorem r_clear {c : Call} {ty : TypeId} {a : Value} {G : KV} (ho : o.op = .call c) (hc : c.callee = .builtin .clear) (hx : EvL T c.args.toList [a]) (ht : c.argTypes.toList = [ty]) (H : hClear P ty a h nx G = true) : ∃ v h' nx', G v h' nx' = true ∧ OpR P o T h nx (some v) h' nx' :=
  fu (by
    rw [ho]; show aCall P c (tr T) h nx _ = true
    unfold aCall; rw [hc]; simp only; rw [evLK_some hx, ht]
    unfold hClear at H
    split at H
    · exact H
    · exact H
    · cases H)
end Go.AM

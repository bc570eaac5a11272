/- AM, part 3: what the abstract machine does at each operation that calls no function. -/
import Derived.Test.YtmfkidinmcmaaaaGreatAmRel
import Derived.Laws.BytesArg
set_option linter.unusedVariables false
namespace Go.AM
noncomputable section
def natK (n : Nat) (k : Nat → Bool) : Bool := Nat.rec (motive := fun _ => Bool) (k 0) (fun m _ => k (Nat.succ m)) n
theorem natK_eq (n : Nat) (k : Nat → Bool) : natK n k = k n := by cases n <;> rfl
def intK (n : Int) (k : Int → Bool) : Bool :=
  match n with
  | .ofNat m => natK m fun m => k (.ofNat m)
  | .negSucc m => natK m fun m => k (.negSucc m)
theorem intK_eq (n : Int) (k : Int → Bool) : intK n k = k n := by
  cases n with
  | ofNat m => exact natK_eq m fun m => k (.ofNat m)
  | negSucc m => exact natK_eq m fun m => k (.negSucc m)
def boolK (b : Bool) (k : Bool → Bool) : Bool := match b with | true => k true | false => k false
theorem boolK_eq (b : Bool) (k : Bool → Bool) : boolK b k = k b := by cases b <;> rfl
def valK (v : Value) (k : Value → Bool) : Bool :=
  match v with
  | .int kk n => intK n fun n => k (.int kk n)
  | .bool b => boolK b fun b => k (.bool b)
  | v => k v
theorem valK_eq (v : Value) (k : Value → Bool) : valK v k = k v := by
  cases v with
  | int kk n => exact intK_eq n fun n => k (.int kk n)
  | bool b => exact boolK_eq b fun b => k (.bool b)
  | _ => rfl
/-! lists -/
def dropK {α : Type} (o : Nat) : List α → (List α → Bool) → Bool :=
  Nat.rec (motive := fun _ => List α → (List α → Bool) → Bool) (fun l k => k l)
    (fun _ ih l k => List.rec (motive := fun _ => Bool) false (fun _ l' _ => ih l' k) l) o
theorem dropK_true {α : Type} {o : Nat} : ∀ {l : List α} {k : List α → Bool}, dropK o l k = true → o ≤ l.length ∧ k (l.drop o) = true := by
  induction o with
  | zero => intro l k h; exact ⟨Nat.zero_le _, h⟩
  | succ o ih =>
    intro l k h
    cases l with
    | nil => cases h
    | cons a l => obtain ⟨p, q⟩ := ih (l := l) (k := k) h; exact ⟨by simp; omega, q⟩
def takeK {α : Type} (n : Nat) : List α → (List α → Bool) → Bool :=
  Nat.rec (motive := fun _ => List α → (List α → Bool) → Bool) (fun _ k => k [])
    (fun _ ih l k => List.rec (motive := fun _ => Bool) false (fun a l' _ => ih l' fun r => k (a :: r)) l) n
theorem takeK_true {α : Type} {n : Nat} : ∀ {l : List α} {k : List α → Bool}, takeK n l k = true → n ≤ l.length ∧ k (l.take n) = true := by
  induction n with
  | zero => intro l k h; exact ⟨Nat.zero_le _, by rw [List.take_zero]; exact h⟩
  | succ n ih =>
    intro l k h
    cases l with
    | nil => cases h
    | cons a l => obtain ⟨p, q⟩ := ih (l := l) (k := fun r => k (a :: r)) h; exact ⟨by simp; omega, by simpa using q⟩
def overK {α : Type} (vs : List α) : List α → (List α → Bool) → Bool :=
  List.rec (motive := fun _ => List α → (List α → Bool) → Bool) (fun cs k => k cs)
    (fun v _ ih cs k => List.rec (motive := fun _ => Bool) false (fun _ cs' _ => ih cs' fun r => k (v :: r)) cs) vs
theorem overK_true {α : Type} {vs : List α} : ∀ {cs : List α} {k : List α → Bool}, overK vs cs k = true → vs.length ≤ cs.length ∧ k (vs ++ cs.drop vs.length) = true := by
  induction vs with
  | nil => intro cs k h; exact ⟨Nat.zero_le _, h⟩
  | cons v vs ih =>
    intro cs k h
    cases cs with
    | nil => cases h
    | cons c cs => obtain ⟨p, q⟩ := ih (cs := cs) (k := fun r => k (v :: r)) h; exact ⟨by simp; omega, by simpa using q⟩
def updK {α : Type} (vs : List α) (o : Nat) : List α → (List α → Bool) → Bool :=
  Nat.rec (motive := fun _ => List α → (List α → Bool) → Bool) (fun cs k => overK vs cs k)
    (fun _ ih cs k => List.rec (motive := fun _ => Bool) false (fun c cs' _ => ih cs' fun r => k (c :: r)) cs) o
theorem updK_true {α : Type} {vs : List α} {o : Nat} : ∀ {cs : List α} {k : List α → Bool}, updK vs o cs k = true →
    o + vs.length ≤ cs.length ∧ k (cs.take o ++ vs ++ cs.drop (o + vs.length)) = true := by
  induction o with
  | zero => intro cs k h; obtain ⟨p, q⟩ := overK_true h; exact ⟨by omega, by simpa using q⟩
  | succ o ih =>
    intro cs k h
    cases cs with
    | nil => cases h
    | cons c cs =>
      obtain ⟨p, q⟩ := ih (cs := cs) (k := fun r => k (c :: r)) h
      exact ⟨by simp; omega, by simpa [show o + 1 + vs.length = (o + vs.length) + 1 by omega] using q⟩
def appK {α : Type} (xs ys : List α) (k : List α → Bool) : Bool :=
  List.rec (motive := fun _ => (List α → Bool) → Bool) (fun k => k ys) (fun x _ ih k => ih fun r => k (x :: r)) xs k
theorem appK_eq {α : Type} (xs ys : List α) : ∀ (k : List α → Bool), appK xs ys k = k (xs ++ ys) := by
  induction xs with
  | nil => intro k; rfl
  | cons x xs ih => intro k; exact ih _
/-! values -/
def ev (t : Tmps) : Operand → Option Value
  | .tmp i => Tr.get (path i) t
  | .const v => if flat v then some v else none
  | .func f => some (.func (.func f) #[] #[])
  | .global _ => none
def evK (t : Tmps) (x : Operand) (k : Value → Bool) : Bool :=
  match ev t x with
  | some v => k v
  | none => false
def evLK (t : Tmps) (xs : List Operand) : (List Value → Bool) → Bool :=
  List.rec (motive := fun _ => (List Value → Bool) → Bool) (fun k => k []) (fun x _ ih k => evK t x fun v => ih fun vs => k (v :: vs)) xs
def cellsOf : Value → Option (List Value)
  | .agg cs => some cs.toList
  | .tuple _ => none
  | v => some [v]
def pureRun (P : Program) {α : Type} : Sem α → Option α
  | .pure a => some a
  | .program k => pureRun P (k P)
  | .mark _ k => pureRun P k
  | _ => none
variable (P : Program)
def isAggT (t : TypeId) : Option Bool :=
  match P.underlying t with
  | some (.struct _) | some (.array _ _) => some true
  | some _ => some false
  | none => none
def szT (t : TypeId) : Option Nat := (P.info? t).map (·.size)
def bytesT (t : TypeId) : Option Nat := (P.info? t).map (·.bytes)
def zeroT (t : TypeId) : Option (List Value) :=
  match P.info? t with
  | some i => match i.zero with
    | some v => if flat v then cellsOf v else none
    | none => none
  | none => none
def sliceT (t : TypeId) : Option TypeId :=
  match P.underlying t with
  | some (.slice e) => some e
  | _ => none
/-- of a struct type and a field's number: its offset, its type -/
def fieldT (t : TypeId) (f : Nat) : Option (Nat × TypeId) :=
  match P.underlying t with
  | some (.struct fs) => match fs[f]? with
    | some fd => some (fd.offset, fd.type)
    | none => none
  | _ => none
def placesL : List Field → Option (List (Nat × Nat))
  | [] => some []
  | f :: fs => match szT P f.type, placesL fs with
    | some n, some l => some ((f.offset, n) :: l)
    | _, _ => none
/-- of a struct or array type: of a part's number its offset, its size -/
def placeT (t : TypeId) : Option (Nat → Option (Nat × Nat)) :=
  match P.underlying t with
  | some (.struct fs) => match placesL P fs.toList with
    | some l => some fun i => l[i]?
    | none => none
  | some (.array _ e) => match szT P e with
    | some n => some fun i => some (i * n, n)
    | none => none
  | _ => none
def arrayT (t : TypeId) : Option (Nat × Nat) :=
  match P.underlying t with
  | some (.array n e) => match szT P e with
    | some s => some (n, s)
    | none => none
  | _ => none
/-- n cells from a place on -/
def cellsK (h : Heap) (b o n : Nat) (k : List Value → Bool) : Bool :=
  match h.at b with
  | some (.cells cs _) => dropK o cs fun l => takeK n l k
  | _ => false
def loadK (t : TypeId) (v : Value) (h : Heap) (k : Value → Bool) : Bool :=
  match v with
  | .pointer (some ⟨b, o, none⟩) =>
    match isAggT P t, szT P t with
    | some true, some n => cellsK h b o n fun l => k (.agg ⟨l⟩)
    | some false, some _ => cellsK h b o 1 fun l => match l with | v :: _ => k v | [] => false
    | _, _ => false
  | _ => false
def writeK (h : Heap) (b o : Nat) (vs : List Value) (k : Heap → Bool) : Bool :=
  match h.at b, vs with
  | some (.cells cs esz), v :: vs => updK (v :: vs) o cs fun cs' => Tr.setK (some (.cells cs' esz)) (path b) h k
  | _, _ => false
def storeK (t : TypeId) (p v : Value) (h : Heap) (k : Heap → Bool) : Bool :=
  match p, cellsOf v, szT P t with
  | .pointer (some ⟨b, o, none⟩), some vs, some n => if Nat.beq n vs.length then writeK h b o vs k else false
  | _, _, _ => false
def newK (cs : List Value) (esz : Nat) (h : Heap) (nx : Nat) (k : Heap → Nat → Bool) : Bool :=
  Tr.setK (some (.cells cs esz)) (path nx) h fun h' => natK (nx + 1) fun nx' => k h' nx'
/-- parts of a literal laid over cells -/
def fillK (place : Nat → Option (Nat × Nat)) (parts : List (Nat × Operand)) (t : Tmps) : List Value → (List Value → Bool) → Bool :=
  List.rec (motive := fun _ => List Value → (List Value → Bool) → Bool) (fun cs k => k cs)
    (fun p _ ih cs k =>
      match place p.1 with
      | some (off, n) => evK t p.2 fun v => match cellsOf v with
        | some vs => if Nat.beq vs.length n then updK vs off cs fun cs' => ih cs' k else false
        | none => false
      | none => false) parts
/-- zero cells, so many -/
def rowOf (z : List Value) (n : Nat) : List Value := (List.range n).map fun i => z.getD (i % z.length) undef
def forceK (l : List Value) (k : List Value → Bool) : Bool :=
  List.rec (motive := fun _ => (List Value → Bool) → Bool) (fun k => k []) (fun v _ ih k => valK v fun v => ih fun r => k (v :: r)) l k
theorem forceK_eq (l : List Value) : ∀ k, forceK l k = k l := by
  induction l with
  | nil => intro k; rfl
  | cons v l ih =>
    intro k
    show valK v (fun v => forceK l fun r => k (v :: r)) = _
    rw [valK_eq, ih]
/-- the cells that append or copy takes out of its second argument: how many elements, the cells -/
def srcK (size : Nat) (x : Value) (h : Heap) (k : Nat → List Value → Bool) : Bool :=
  match x with
  | .slice none n _ => if Nat.beq n 0 then k 0 [] else false
  | .slice (some ⟨b, o, _⟩) n _ => if Nat.beq n 0 then k 0 [] else natK (n * size) fun m => cellsK h b o m fun l => k n l
  | .string s => if Nat.beq size 1 then natK s.size fun n => forceK (s.data.toList.map fun b => .int .u8 b.toNat) fun l => k n l else false
  | _ => false
def eqNil (t : TypeId) (x y : Value) : Option Bool :=
  match P.underlying t, x, y with
  | some (.pointer _), .pointer (some _), .pointer none => some false
  | some (.pointer _), .pointer none, .pointer (some _) => some false
  | some (.slice _), .slice (some _) _ _, .slice none _ _ => some false
  | some (.slice _), .slice none _ _, .slice (some _) _ _ => some false
  | some (.map _ _), .map (some _), .map none => some false
  | some (.map _ _), .map none, .map (some _) => some false
  | some (.func _ _ _), .func _ _ _, .nilFunc => some false
  | some (.func _ _ _), .nilFunc, .func _ _ _ => some false
  | _, _, _ => none
def optK {α : Type} (x : Option α) (k : α → Bool) : Bool := @Option.rec α (fun _ => Bool) false k x
theorem optK_true {α : Type} {x : Option α} {k : α → Bool} (h : optK x k = true) : ∃ a, x = some a ∧ k a = true := by
  cases x with
  | none => cases h
  | some a => exact ⟨a, rfl, h⟩
/-- the value of a pure operation on values without addresses -/
def pureK (e : Sem Value) (k : Value → Bool) : Bool := optK (pureRun P e) fun v => if flat v then valK v k else false
abbrev K := Option Value → Heap → Nat → Bool
def binK (op : BinOp) (ty : TypeId) (xo yo : Operand) (x y : Value) (k : Value → Bool) : Bool :=
  if flat x && flat y then pureK P (do eqGuard op ty xo yo x y; binOp op ty x y) k
  else match op with
    | .eql => optK (eqNil P ty x y) fun b => k (.bool b)
    | .neq => optK (eqNil P ty x y) fun b => boolK (!b) fun b => k (.bool b)
    | _ => false
/-- a bound of a slice expression: absent, or a number from 0 on -/
def bndK (t : Tmps) (x : Option Operand) (d : Nat) (k : Nat → Bool) : Bool :=
  match x with
  | none => k d
  | some x => evK t x fun v => match v with
    | .int _ (.ofNat n) => k n
    | _ => false
def sliceK (t : Tmps) (h : Heap) (ty : TypeId) (x : Value) (lo hi mx : Option Operand) (k : Value → Bool) : Bool :=
  match x with
  | .slice (some ⟨b, o, sp⟩) n c =>
    match sliceT P ty with
    | some e => optK (szT P e) fun size =>
      bndK t mx c fun m => bndK t hi n fun hh => bndK t lo 0 fun l =>
      if Nat.ble l hh && Nat.ble hh m && Nat.ble m c && (mx.isNone || hi.isSome) then
        if Nat.beq c 0 then k (.slice (some ⟨b, o, if mx.isSome then some 0 else sp⟩) 0 0)
        else match h.at b with
        | some (.cells _ esz) => if Nat.beq esz size then
            natK (o + l * size) fun o' => natK (hh - l) fun n' => natK (m - l) fun c' =>
            k (.slice (some ⟨b, o', if mx.isSome then some 0 else sp⟩) n' c')
          else false
        | _ => false
      else false
    | none => false
  | _ => false
def optFlatK (t : Tmps) (x : Option Operand) (k : Option Value → Bool) : Bool :=
  match x with
  | none => k none
  | some x => evK t x fun v => if flat v then k (some v) else false
/-- the second argument of append: its elements, or so many zero elements -/
def argK (e xT : TypeId) (size bytes : Nat) (z : List Value) (x : Value) (h : Heap) (k' : Nat → List Value → Bool) : Bool :=
  match P.underlying xT with
  | some (.int _) => match x with
    | .int .i64 (.ofNat n) => if Nat.beq z.length size && Nat.ble (n * bytes) 70368744177664 && Nat.ble n 70368744177664 then forceK (rowOf z (n * size)) fun l => k' n l else false
    | _ => false
  | some (.slice _) => srcK size x h k'
  | some .string => srcK size x h k'
  | _ => false
def appendK (sT xT : TypeId) (s x : Value) (h : Heap) (nx : Nat) (k : K) : Bool :=
  match sliceT P sT with
  | some e => optK (szT P e) fun size => optK (bytesT P e) fun bytes => optK (zeroT P e) fun z =>
    if Nat.ble 1 size && Nat.beq z.length size then
    argK P e xT size bytes z x h fun n new =>
    match s with
    | .slice none sl c =>
      if Nat.beq sl 0 && Nat.beq c 0 then
        if Nat.beq n 0 then k (some (.slice none 0 0)) h nx
        else if Nat.ble 1 bytes && Nat.ble (n * bytes) 70368744177664 then newK new size h nx fun h' nx' => k (some (.slice (some ⟨nx, 0, none⟩) n n)) h' nx'
        else false
      else false
    | .slice (some ⟨b, o, sp⟩) sl c =>
      natK (sl + n) fun need =>
      if Nat.ble need c then
        if Nat.beq n 0 then k (some (.slice (some ⟨b, o, sp⟩) need c)) h nx
        else natK (o + sl * size) fun at_ => writeK h b at_ new fun h' => k (some (.slice (some ⟨b, o, sp⟩) need c)) h' nx
      else if Nat.ble 1 bytes && Nat.ble (need * bytes) 70368744177664 then
        srcK size (.slice (some ⟨b, o, sp⟩) sl c) h fun _ old =>
        appK old new fun all =>
        match sp with
        | some 0 => newK all size h nx fun h' nx' => k (some (.slice (some ⟨nx, 0, none⟩) need need)) h' nx'
        | _ => match h.at b with
          | some (.cells _ esz) => if Nat.beq esz size then Tr.setK none (path b) h fun h₁ => newK all size h₁ nx fun h' nx' => k (some (.slice (some ⟨nx, 0, none⟩) need need)) h' nx' else false
          | _ => false
      else false
    | _ => false
    else false
  | none => false
def copyK (dT : TypeId) (d x : Value) (h : Heap) (nx : Nat) (k : K) : Bool :=
  match sliceT P dT with
  | some e => optK (szT P e) fun size =>
    match d with
    | .slice none dl _ => srcK size x h fun _ _ => if Nat.beq dl 0 then k (some (.int .i64 0)) h nx else false
    | .slice (some ⟨b, o, _⟩) dl _ =>
      srcK size x h fun n cs =>
        natK (cond (Nat.ble n dl) n dl) fun m => if Nat.beq m 0 then k (some (.int .i64 0)) h nx else takeK (m * size) cs fun cs' => writeK h b o cs' fun h' => k (some (.int .i64 m)) h' nx
    | _ => false
  | none => false
def lenK (t : TypeId) (x : Value) (h : Heap) (k : Value → Bool) : Bool :=
  match P.underlying t, x with
  | some .string, .string s => natK s.size fun n => k (.int .i64 (.ofNat n))
  | some (.slice _), .slice _ n _ => k (.int .i64 (.ofNat n))
  | some (.array n _), _ => k (.int .i64 (.ofNat n))
  | some (.map _ _), .map none => k (.int .i64 0)
  | some (.map _ _), .map (some b) => match h.at b with
    | some (.map es _) => natK es.length fun n => k (.int .i64 (.ofNat n))
    | _ => false
  | _, _ => false
def capK (t : TypeId) (x : Value) (k : Value → Bool) : Bool :=
  match P.underlying t, x with
  | some (.slice _), .slice none n c => if Nat.beq n 0 && Nat.beq c 0 then k (.int .i64 0) else false
  | some (.slice _), .slice (some ⟨_, _, some 0⟩) _ c => k (.int .i64 (.ofNat c))
  | _, _ => false
/-- bytes as a list -/
def aop.bytesK (l : List Value) (k : List UInt8 → Bool) : Bool :=
  List.rec (motive := fun _ => (List UInt8 → Bool) → Bool) (fun k => k []) (fun v _ ih k => match v with
    | .int .u8 (.ofNat n) => ih fun r => k (UInt8.ofNat n :: r)
    | _ => false) l k
def aop.ptrs (l : List Value) : Bool := l.all fun v => match v with | .pointer (some ⟨_, _, none⟩) => true | _ => false
def aMove (x : Operand) (t : Tmps) (h : Heap) (nx : Nat) (k : K) : Bool :=
  evK t x fun v => k (some v) h nx
def aAssign (x : Operand) (t : Tmps) (h : Heap) (nx : Nat) (k : K) : Bool :=
  evK t x fun v => k (some v) h nx
def aPick (c : Operand) (a : Operand) (b : Operand) (t : Tmps) (h : Heap) (nx : Nat) (k : K) : Bool :=
  evK t c fun c => match c with
    | .bool true => evK t a fun v => k (some v) h nx
    | .bool false => evK t b fun v => k (some v) h nx
    | _ => false
def aAlloc (e : TypeId) (t : Tmps) (h : Heap) (nx : Nat) (k : K) : Bool :=
  optK (zeroT P e) fun z => newK z 0 h nx fun h' nx' => k (some (.pointer (some ⟨nx, 0, none⟩))) h' nx'
def aBox (e_ : TypeId) (x : Operand) (t : Tmps) (h : Heap) (nx : Nat) (k : K) : Bool :=
  evK t x fun v => optK (cellsOf v) fun cs => newK cs 0 h nx fun h' nx' => k (some (.pointer (some ⟨nx, 0, none⟩))) h' nx'
def aBuild (ty : TypeId) (parts : Array (Nat × Operand)) (t : Tmps) (h : Heap) (nx : Nat) (k : K) : Bool :=
  optK (zeroT P ty) fun z => optK (placeT P ty) fun place => fillK place parts.toList t z fun cs => k (some (.agg ⟨cs⟩)) h nx
def aBuildSlice (ty : TypeId) (len : Nat) (parts : Array (Nat × Operand)) (t : Tmps) (h : Heap) (nx : Nat) (k : K) : Bool :=
  optK (sliceT P ty) fun e => optK (szT P e) fun size => optK (zeroT P e) fun z =>
      if Nat.beq z.length size && Nat.ble 1 size && Nat.ble (len * size) 16777216 then
        forceK (rowOf z (len * size)) fun row => fillK (fun i => some (i * size, size)) parts.toList t row fun cs =>
        newK cs size h nx fun h' nx' => k (some (.slice (some ⟨nx, 0, some 0⟩) len len)) h' nx'
      else false
def aLoad (ty : TypeId) (x : Operand) (t : Tmps) (h : Heap) (nx : Nat) (k : K) : Bool :=
  evK t x fun p => loadK P ty p h fun v => k (some v) h nx
def aStore (ty : TypeId) (p : Operand) (x : Operand) (t : Tmps) (h : Heap) (nx : Nat) (k : K) : Bool :=
  evK t p fun p => evK t x fun v => storeK P ty p v h fun h' => k none h' nx
def aNilCheck (x : Operand) (t : Tmps) (h : Heap) (nx : Nat) (k : K) : Bool :=
  evK t x fun v => match v with
    | .pointer (some _) => k (some v) h nx
    | .func (.func _) _ _ => k (some v) h nx
    | _ => false
def aBinOp (op : BinOp) (ty : TypeId) (x : Operand) (y : Operand) (ty2_ : TypeId) (t : Tmps) (h : Heap) (nx : Nat) (k : K) : Bool :=
  evK t x fun a => evK t y fun b => binK P op ty x y a b fun v => k (some v) h nx
def aUnOp (op : UnOp) (ty_ : TypeId) (x : Operand) (t : Tmps) (h : Heap) (nx : Nat) (k : K) : Bool :=
  evK t x fun a => if flat a then pureK P (Op.unary op a) fun v => k (some v) h nx else false
def aConvert (s : TypeId) (d : TypeId) (x : Operand) (t : Tmps) (h : Heap) (nx : Nat) (k : K) : Bool :=
  evK t x fun a =>
      if flat a then pureK P (convert s d a) fun v => k (some v) h nx
      else match sliceT P s, P.underlying d, a with
        | some e, some .string, .slice (some ⟨b, o, _⟩) n _ =>
          match P.underlying e with
          | some (.int .u8) => cellsK h b o n fun l => aop.bytesK l fun bs => k (some (.string ⟨⟨bs⟩⟩)) h nx
          | _ => false
        | _, _, _ => false
def aMakeFunc (fn : Fn) (first : Array Operand) (cap : Array Operand) (t : Tmps) (h : Heap) (nx : Nat) (k : K) : Bool :=
  match fn with
    | .func f => evLK t first.toList fun fs => evLK t cap.toList fun cs => if aop.ptrs fs && aop.ptrs cs then k (some (.func (.func f) ⟨fs⟩ ⟨cs⟩)) h nx else false
    | _ => false
def aMakeMap (ty_ : TypeId) (r : Option Operand) (t : Tmps) (h : Heap) (nx : Nat) (k : K) : Bool :=
  match r with
    | none => Tr.setK (some (.map [] 0)) (path nx) h fun h' => natK (nx + 1) fun nx' => k (some (.map (some nx))) h' nx'
    | some _ => false
def aMakeSlice (ty : TypeId) (l : Operand) (c : Operand) (t : Tmps) (h : Heap) (nx : Nat) (k : K) : Bool :=
  optK (sliceT P ty) fun e => optK (szT P e) fun size => optK (bytesT P e) fun bytes => optK (zeroT P e) fun z =>
      evK t l fun l => evK t c fun c => match l, c with
        | .int _ (.ofNat l), .int _ (.ofNat c) =>
          if Nat.beq z.length size && Nat.ble 1 size && Nat.ble l c && Nat.ble (bytes * c) 16777216 && Nat.ble c 16777216 then
            forceK (rowOf z (c * size)) fun row => newK row size h nx fun h' nx' => k (some (.slice (some ⟨nx, 0, some 0⟩) l c)) h' nx'
          else false
        | _, _ => false
def aSlice (ty : TypeId) (x : Operand) (lo : Option Operand) (hi : Option Operand) (mx : Option Operand) (t : Tmps) (h : Heap) (nx : Nat) (k : K) : Bool :=
  evK t x fun a =>
      if flat a then optFlatK t lo fun lo => optFlatK t hi fun hi => optFlatK t mx fun mx => pureK P (Instr.sliceAt ty a lo hi mx) fun v => k (some v) h nx
      else sliceK P t h ty a lo hi mx fun v => k (some v) h nx
def aFieldAddr (s : TypeId) (x : Operand) (f : Nat) (t : Tmps) (h : Heap) (nx : Nat) (k : K) : Bool :=
  evK t x fun p => optK (fieldT P s f) fun q => optK (szT P q.2) fun n =>
      match p with
      | .pointer (some ⟨b, o, none⟩) => if Nat.beq n 0 then false else natK (o + q.1) fun o' => k (some (.pointer (some ⟨b, o', none⟩))) h nx
      | _ => false
def aField (s : TypeId) (x : Operand) (f : Nat) (t : Tmps) (h : Heap) (nx : Nat) (k : K) : Bool :=
  evK t x fun a => optK (fieldT P s f) fun q =>
      match a, isAggT P q.2, szT P q.2 with
      | .agg cs, some true, some n => dropK q.1 cs.toList fun l => takeK n l fun l => k (some (.agg ⟨l⟩)) h nx
      | .agg cs, some false, some _ => dropK q.1 cs.toList fun l => match l with | v :: _ => k (some v) h nx | [] => false
      | _, _, _ => false
def aIndexAddr (ty : TypeId) (x : Operand) (i : Operand) (t : Tmps) (h : Heap) (nx : Nat) (k : K) : Bool :=
  evK t x fun x => evK t i fun i => match i with
    | .int _ (.ofNat i) =>
      match x with
      | .slice (some ⟨b, o, _⟩) n _ => optK (sliceT P ty) fun e => optK (szT P e) fun size =>
          if Nat.blt i n then natK (o + i * size) fun o' => k (some (.pointer (some ⟨b, o', none⟩))) h nx else false
      | .pointer (some ⟨b, o, none⟩) => optK (arrayT P ty) fun q =>
          if Nat.blt i q.1 then natK (o + i * q.2) fun o' => k (some (.pointer (some ⟨b, o', none⟩))) h nx else false
      | _ => false
    | _ => false
def aIndex (ty : TypeId) (x : Operand) (i : Operand) (t : Tmps) (h : Heap) (nx : Nat) (k : K) : Bool :=
  evK t x fun a => evK t i fun i => if flat a && flat i then pureK P (Instr.index ty a i) fun v => k (some v) h nx else false
def aExtract (x : Operand) (i : Nat) (t : Tmps) (h : Heap) (nx : Nat) (k : K) : Bool :=
  evK t x fun a => match a with
    | .tuple vs => optK vs.toList[i]? fun v => k (some v) h nx
    | _ => false
def aLookup (ty : TypeId) (x : Operand) (i : Operand) (ok : Bool) (t : Tmps) (h : Heap) (nx : Nat) (k : K) : Bool :=
  evK t x fun m => evK t i fun key => if flat key then
      match P.underlying ty with
      | some (.map kt et) => optK (zeroT P et) fun _ => match m with
        | .map (some b) => match h.at b with
          | some (.map es _) => optK (pureRun P (Instr.checkKey es.isEmpty 10000 kt key)) fun _ => optK (pureRun P (Instr.findKey kt key es)) fun r =>
            optK (pureRun P (zeroValue et)) fun z =>
            match r with
            | some (_, v) => k (some (cond ok (.tuple ⟨[v, .bool true]⟩) v)) h nx
            | none => if flat z then k (some (cond ok (.tuple ⟨[z, .bool false]⟩) z)) h nx else false
          | _ => false
        | _ => false
      | _ => false
    else false
def aMapUpdate (ty : TypeId) (m : Operand) (key : Operand) (v : Operand) (t : Tmps) (h : Heap) (nx : Nat) (k : K) : Bool :=
  evK t m fun m => evK t key fun key => evK t v fun v => if flat key then
      match P.underlying ty, cellsOf v with
      | some (.map kt _), some _ => match m with
        | .map (some b) => match h.at b with
          | some (.map es ck) => optK (pureRun P (Instr.checkKey false 10000 kt key)) fun _ => optK (pureRun P (Instr.findKey kt key es)) fun r =>
            match r with
            | some (i, _) => optK es[i]? fun e => optK (pureRun P (Instr.keyThatStays e.key key)) fun nk =>
                if flat nk then updK [⟨nk, v, e.born⟩] i es fun es' => Tr.setK (some (.map es' ck)) (path b) h fun h' => k none h' nx else false
            | none => appK es [⟨key, v, ck⟩] fun es' => natK (ck + 1) fun ck' => Tr.setK (some (.map es' ck')) (path b) h fun h' => k none h' nx
          | _ => false
        | _ => false
      | _, _ => false
    else false
def aCall (c : Call) (t : Tmps) (h : Heap) (nx : Nat) (k : K) : Bool :=
  match c.callee with
    | .builtin b => evLK t c.args.toList fun args => match b, args, c.argTypes.toList with
      | .len, [x], [ty] => lenK P ty x h fun v => k (some v) h nx
      | .cap, [x], [ty] => capK P ty x fun v => k (some v) h nx
      | .append, [s, x], [sT, xT] => appendK P sT xT s x h nx k
      | .copy, [d, x], [dT, _] => copyK P dT d x h nx k
      | .min, xs, tys => if flatL xs then pureK P (Builtin.min_ ⟨tys⟩ 0 ⟨xs⟩) fun v => k (some v) h nx else false
      | .max, xs, tys => if flatL xs then pureK P (Builtin.max_ ⟨tys⟩ 0 ⟨xs⟩) fun v => k (some v) h nx else false
      | .clear, [.slice none _ _], [ty] => optK (sliceT P ty) fun _ => k (some (.tuple ⟨[]⟩)) h nx
      | .clear, [.slice (some ⟨b, o, _⟩) n _], [ty] => optK (sliceT P ty) fun e => if Nat.beq n 0 then k (some (.tuple ⟨[]⟩)) h nx else
          optK (szT P e) fun size => optK (zeroT P e) fun z =>
          if Nat.beq z.length size then forceK (rowOf z (n * size)) fun row => writeK h b o row fun h' => k (some (.tuple ⟨[]⟩)) h' nx else false
      | _, _, _ => false
    | _ => false
def aop (o : Op) (t : Tmps) (h : Heap) (nx : Nat) (k : K) : Bool :=
  match o with
  | .move x0 => aMove x0 t h nx k
  | .assign x0 => aAssign x0 t h nx k
  | .pick x0 x1 x2 => aPick x0 x1 x2 t h nx k
  | .alloc x0 => aAlloc P x0 t h nx k
  | .box x0 x1 => aBox x0 x1 t h nx k
  | .build x0 x1 => aBuild P x0 x1 t h nx k
  | .buildSlice x0 x1 x2 => aBuildSlice P x0 x1 x2 t h nx k
  | .load x0 x1 => aLoad P x0 x1 t h nx k
  | .store x0 x1 x2 => aStore P x0 x1 x2 t h nx k
  | .nilCheck x0 => aNilCheck x0 t h nx k
  | .binOp x0 x1 x2 x3 x4 => aBinOp P x0 x1 x2 x3 x4 t h nx k
  | .unOp x0 x1 x2 => aUnOp P x0 x1 x2 t h nx k
  | .convert x0 x1 x2 => aConvert P x0 x1 x2 t h nx k
  | .makeFunc x0 x1 x2 => aMakeFunc x0 x1 x2 t h nx k
  | .makeMap x0 x1 => aMakeMap x0 x1 t h nx k
  | .makeSlice x0 x1 x2 => aMakeSlice P x0 x1 x2 t h nx k
  | .slice x0 x1 x2 x3 x4 => aSlice P x0 x1 x2 x3 x4 t h nx k
  | .fieldAddr x0 x1 x2 => aFieldAddr P x0 x1 x2 t h nx k
  | .field x0 x1 x2 => aField P x0 x1 x2 t h nx k
  | .indexAddr x0 x1 x2 => aIndexAddr P x0 x1 x2 t h nx k
  | .index x0 x1 x2 => aIndex P x0 x1 x2 t h nx k
  | .lookup x0 x1 x2 x3 => aLookup P x0 x1 x2 x3 t h nx k
  | .mapUpdate x0 x1 x2 x3 => aMapUpdate P x0 x1 x2 x3 t h nx k
  | .extract x0 x1 => aExtract x0 x1 t h nx k
  | .call x0 => aCall P x0 t h nx k
  | _ => false
end
end Go.AM

/- A part of an evaluator of closed runs and of its soundness. -/
import GoSem.Dispatch
import Derived.Calls
import Derived.Laws.Sem
import Derived.DeepKeys3
import Derived.StringKeys
namespace Go.Det

/-- A block that is no row of cells: a map (its keys, values and stamps, in the order in which they came; its clock), or a walk over one. -/
inductive Ob where
  | mp (es : List (Value × Value × Nat)) (ck : Nat)
  | it (m : Option Nat) (since : Nat) (seen : List Nat) (last : Nat)
  deriving Inhabited
/-- A block of the evaluator's own memory. -/
inductive Blk where
  | cells (cs : List Value) (elem : TypeId) (ro : Bool)   -- elem: twice the type; one more: the block is this variable alone
  | ob (o : Ob)
  | dead
  deriving Inhabited

/-- The n-th of a list, or d. -/
noncomputable def lgetR {α : Type} (d : α) (l : List α) : Nat → α :=
  List.rec (fun _ => d) (fun v _ ih n => Nat.rec v (fun m _ => ih m) n) l
/-- The list with v at place n (d between, where it is shorter). -/
noncomputable def lsetR {α : Type} (d v : α) (l : List α) : Nat → List α :=
  List.rec (fun n => Nat.rec [v] (fun _ ih => d :: ih) n) (fun x t ih n => Nat.rec (v :: t) (fun m _ => x :: ih m) n) l
/-- A table by number, in rows of eight. -/
abbrev Tab (α : Type) := List (List α)
noncomputable def Tab.get {α : Type} (d : α) (l : Tab α) (n : Nat) : α := lgetR d (lgetR [] l (Nat.div n 8)) (Nat.mod n 8)
noncomputable def Tab.set {α : Type} (d : α) (l : Tab α) (n : Nat) (v : α) : Tab α :=
  lsetR [] (lsetR d v (lgetR [] l (Nat.div n 8)) (Nat.mod n 8)) l (Nat.div n 8)

abbrev Heap := Tab (Option Blk)
noncomputable def Heap.get (h : Heap) (n : Nat) : Option Blk := Tab.get none h n
noncomputable def Heap.set (h : Heap) (n : Nat) (b : Blk) : Heap := Tab.set none h n (some b)

/-- h: the blocks by number; next: the next new number; hi: the greatest that next has been; rd, wr: which blocks were read, written (bits). -/
structure St where
  h : Heap
  next : Nat
  hi : Nat
  rd : Nat
  wr : Nat
  deriving Inhabited

noncomputable def capU : Nat := 1208925819614629174706176
noncomputable def und : Value := .tuple #[]
/-- what stands in the place of an operation that was left out -/
abbrev skp : Value := .float .f64 0
/-- a slice of nothing, no one knows where -/
abbrev emp : Value := .float .f64 1

noncomputable def St.read (s : St) (id : Nat) : St := { h := s.h, next := s.next, hi := s.hi, rd := Nat.lor s.rd (Nat.shiftLeft 1 id), wr := s.wr }
noncomputable def St.write (s : St) (id : Nat) (b : Blk) : St := { h := s.h.set id b, next := s.next, hi := s.hi, rd := Nat.lor s.rd (Nat.shiftLeft 1 id), wr := Nat.lor s.wr (Nat.shiftLeft 1 id) }
noncomputable def St.new (s : St) (b : Blk) : St := { h := s.h.set s.next b, next := s.next + 1, hi := Nat.max s.hi (s.next + 1), rd := s.rd, wr := Nat.lor s.wr (Nat.shiftLeft 1 s.next) }

abbrev Tmps := Tab Value
noncomputable def lget (l : Tmps) (n : Nat) : Value := Tab.get und l n
noncomputable def lset (l : Tmps) (n : Nat) (v : Value) : Tmps := Tab.set und l n v

/-- n cells from place k on; none: there are not so many. -/
noncomputable def ltake (n : Nat) : List Value → Option (List Value) :=
  Nat.rec (fun _ => some []) (fun _ ih l => match l with
    | [] => none
    | v :: t => match ih t with | some r => some (v :: r) | none => none) n
noncomputable def ldrop (n : Nat) : List Value → List Value :=
  Nat.rec (fun l => l) (fun _ ih l => match l with | [] => [] | _ :: t => ih t) n
/-- l with ws written from place k on (all of it inside). -/
noncomputable def lput0 (l ws : List Value) : Option (List Value) :=
  (List.rec (motive := fun _ => List Value → Option (List Value)) (fun l => some l) (fun w _ ih l => match l with
    | [] => none
    | _ :: t => match ih t with | some r => some (w :: r) | none => none) ws) l
noncomputable def lput (l : List Value) (n : Nat) (ws : List Value) : Option (List Value) :=
  (Nat.rec (motive := fun _ => List Value → Option (List Value)) (fun l => lput0 l ws) (fun _ ih l => match l with
    | [] => none
    | x :: t => match ih t with | some r => some (x :: r) | none => none) n) l

noncomputable def one1 : Value → Bool
  | .float .f64 1 => true
  | .agg _ | .tuple _ | .float _ _ => false
  | _ => true
/-- Each is a value of one cell. -/
noncomputable def oneL : List Value → Bool
  | [] => true
  | v :: t => one1 v && oneL t

noncomputable def isUnd : Value → Bool
  | .tuple vs => vs.toList.isEmpty
  | _ => false

/-- No address stands in the value. -/
noncomputable def flat1 : Value → Bool
  | .bool _ | .int .. | .string _ | .nilFunc | .nilIface => true
  | .pointer none | .map none => true
  | .slice none _ c => Nat.beq c 0
  | .func _ f c => f.toList.isEmpty && c.toList.isEmpty
  | _ => false
noncomputable def flatL : List Value → Bool
  | [] => true
  | v :: t => flat1 v && flatL t
noncomputable def flat2 : Value → Bool
  | .agg cs => flatL cs.toList
  | .iface _ v => flat1 v
  | v => flat1 v
noncomputable def flat2L : List Value → Bool
  | [] => true
  | v :: t => flat2 v && flat2L t
noncomputable def flat : Value → Bool
  | .tuple vs => flat2L vs.toList
  | v => flat2 v

noncomputable def pureRun (P : Program) {α : Type} : Sem α → Option α
  | .pure a => some a
  | .program k => pureRun P (k P)
  | .mark _ k => pureRun P k
  | _ => none

noncomputable def cellsOfV : Value → List Value
  | .agg cs => cs.toList
  | v => [v]

variable (P : Program)

noncomputable def typ (t : TypeId) : Option TypeDesc := P.underlying t
noncomputable def szOf (t : TypeId) : Option Nat := match P.info? t with | some i => some i.size | none => none
noncomputable def zeroOf (t : TypeId) : Option Value := match P.info? t with
  | some i => match i.zero with | some z => if flat2 z && Nat.beq (cellsOfV z).length i.size then some z else none | none => none
  | none => none
noncomputable def isAggB (t : TypeId) : Option Bool := match P.underlying t with | some (.struct _) | some (.array _ _) => some true | some _ => some false | none => none

noncomputable def evalO (l : Tmps) : Operand → Value
  | .tmp t => lget l t
  | .const v => v
  | .global g => .pointer (some ⟨g, 0, none⟩)
  | .func f => .func (.func f) #[] #[]

noncomputable def loadD (s : St) (t : TypeId) (a : Value) : Option (Value × St) :=
  match a with
  | .pointer (some ⟨id, off, none⟩) =>
    match s.h.get id with
    | some (.cells cs _ _) =>
      match isAggB P t with
      | some true => match szOf P t with
        | some n => match ltake n (ldrop off cs) with
          | some r => some (.agg r.toArray, s.read id)
          | none => none
        | none => none
      | some false => match ldrop off cs with
        | v :: _ => some (v, s.read id)
        | [] => none
      | none => none
    | _ => none
  | _ => none

noncomputable def storeD (s : St) (t : TypeId) (a v : Value) : Option St :=
  match a with
  | .pointer (some ⟨id, off, none⟩) =>
    match s.h.get id with
    | some (.cells cs e false) =>
      match szOf P t with
      | some n =>
        let ws := cellsOfV v
        if Nat.beq ws.length n && oneL ws then
          match lput cs off ws with
          | some cs' => some (s.write id (.cells cs' e false))
          | none => none
        else none
      | none => none
    | _ => none
  | _ => none

/-- the first n cells that a slice or a string has -/
noncomputable def srcCells (s : St) (size n : Nat) : Value → Option (List Value × St)
  | .slice (some ⟨id, off, none⟩) _ _ =>
    if Nat.beq (n * size) 0 then some ([], s) else
    match s.h.get id with
    | some (.cells cs _ _) => match ltake (n * size) (ldrop off cs) with
      | some r => some (r, s.read id)
      | none => none
    | _ => none
  | .slice none _ _ => if Nat.beq n 0 then some ([], s) else none
  | .float .f64 1 => if Nat.beq n 0 then some ([], s) else none
  | .string b => if Nat.beq size 1 then
      (match ltake n (b.data.toList.map fun x => Value.int .u8 x.toNat) with
       | some r => some (r, s)
       | none => none) else none
  | _ => none

noncomputable def lenD : Value → Option Nat
  | .float .f64 1 => some 0
  | .slice _ n _ => some n
  | .string b => some b.size
  | _ => none

noncomputable def repeatL (zs : List Value) : Nat → List Value
  | 0 => []
  | n + 1 => zs ++ repeatL zs n

noncomputable def appZeros (rest : List TypeId) : Option Bool :=
  match rest with
  | [] => some false
  | xT :: _ => match typ P xT with
    | some (.int _) => some true
    | some _ => some false
    | none => none
/-- what is appended: how many elements, their cells -/
noncomputable def appSrc (s : St) (elem : TypeId) (size bytes : Nat) (zeros : Bool) (x : Value) : Option (Nat × List Value × St) :=
  match zeros with
  | true => match x with
    | .int _ m => if 0 ≤ m ∧ m < 1048576 then
        (match zeroOf P elem with
         | some z => if Nat.ble (m.toNat * bytes) 1099511627776 then some (m.toNat, repeatL (cellsOfV z) m.toNat, s) else none
         | none => none) else none
    | _ => none
  | false => match lenD x with
    | some m => match srcCells s size m x with
      | some r => some (m, r.1, r.2)
      | none => none
    | none => none
noncomputable def appInPlace (s : St) (id off at_ need c : Nat) (cs : List Value) (e : TypeId) (ws : List Value) : Option (Value × St) :=
  match lput cs at_ ws with
  | some cs' => some (.slice (some ⟨id, off, none⟩) need c, s.write id (.cells cs' e false))
  | none => none
noncomputable def appMove (s : St) (id : Nat) (elem : TypeId) (size need : Nat) (old ws : List Value) : Value × St :=
  (.slice (some ⟨s.next, 0, none⟩) need (capU + size), (s.write id .dead).new (.cells (old ++ ws) (2 * elem) false))
noncomputable def appNew (s : St) (elem : TypeId) (size need : Nat) (old ws : List Value) : Value × St :=
  (.slice (some ⟨s.next, 0, none⟩) need (capU + size), s.new (.cells (old ++ ws) (2 * elem) false))
noncomputable def appTo (s : St) (elem : TypeId) (size : Nat) (base : Option Addr) (n c m : Nat) (ws : List Value) : Option (Value × St) :=
  match base with
  | none => if Nat.beq c 0 && Nat.beq n 0 then some (appNew s elem size m [] ws) else none
  | some ⟨id, off, none⟩ =>
    match s.h.get id with
    | some (.cells cs e ro) =>
      if Nat.ble capU c then
        if Nat.beq c (capU + size) && (!ro && Nat.beq e (2 * elem)) then
          if Nat.ble (off + (n + m) * size) cs.length then appInPlace s id off (off + n * size) (n + m) c cs e ws
          else match ltake (n * size) (ldrop off cs) with
            | some old => some (appMove s id elem size (n + m) old ws)
            | none => none
        else none
      else if Nat.ble (n + m) c then
        if !ro then appInPlace s id off (off + n * size) (n + m) c cs e ws else none
      else match ltake (n * size) (ldrop off cs) with
        | some old => some (appNew (s.read id) elem size (n + m) old ws)
        | none => none
    | _ => none
  | _ => none
noncomputable def appGo (s : St) (elem : TypeId) (size bytes : Nat) (base : Option Addr) (n c m : Nat) (ws : List Value) : Option (Value × St) :=
  if Nat.beq m 0 then (if Nat.ble capU c || Nat.ble n c then some (.slice base n c, s) else none)
  else if Nat.ble 1 size && (Nat.ble ((n + m) * bytes) 1099511627776 && (oneL ws && Nat.ble (n + m) 1099511627776)) then
    (match zeroOf P elem with
     | some _ => appTo s elem size base n c m ws
     | none => none)
  else none
noncomputable def appendD (s : St) (argTypes : Array TypeId) (args : List Value) : Option (Value × St) :=
  match argTypes.toList, args with
  | sT :: rest, [.slice base n c, x] =>
    match typ P sT with
    | some (.slice elem) =>
      match P.info? elem, appZeros P rest with
      | some ei, some zeros =>
        match appSrc P s elem ei.size ei.bytes zeros x with
        | some r => appGo P r.2.2 elem ei.size ei.bytes base n c r.1 r.2.1
        | none => none
      | _, _ => none
    | _ => none
  | _, _ => none

noncomputable def copyTo (s : St) (k : Nat) (base : Option Addr) (ws : List Value) : Option (Value × St) :=
  match ws with
  | [] => some (.int .i64 (k : Nat), s)
  | w1 :: ws =>
    if oneL (w1 :: ws) then
      match base with
      | some ⟨id, off, none⟩ =>
        (match s.h.get id with
         | some (.cells cs e false) =>
           match lput cs off (w1 :: ws) with
           | some cs' => some (.int .i64 (k : Nat), s.write id (.cells cs' e false))
           | none => none
         | _ => none)
      | _ => none
    else none
noncomputable def copyD (s : St) (argTypes : Array TypeId) (args : List Value) : Option (Value × St) :=
  match argTypes.toList, args with
  | dT :: _, [.slice base n _, x] =>
    match typ P dT with
    | some (.slice elem) =>
      match szOf P elem, lenD x with
      | some size, some m =>
        match srcCells s size (Nat.min m n) x with
        | some r => copyTo r.2 (Nat.min m n) base r.1
        | none => none
      | _, _ => none
    | _ => none
  | _, _ => none

noncomputable def clearTo (s : St) (base : Option Addr) (ws : List Value) : Option (Value × St) :=
  match oneL ws, base with
  | true, some ⟨id, off, none⟩ => (match s.h.get id with
    | some (.cells cs e false) => (match lput cs off ws with
      | some cs' => some (und, s.write id (.cells cs' e false))
      | none => none)
    | _ => none)
  | _, _ => none
/-- all of a slice is zero again -/
noncomputable def clearD (s : St) (argTypes : Array TypeId) (args : List Value) : Option (Value × St) :=
  match argTypes.toList, args with
  | [dT], [x] => (match typ P dT with
    | some (.slice elem) => (match x with
      | .float .f64 1 => some (und, s)
      | .slice base n _ => (match n with
        | 0 => some (und, s)
        | m + 1 => (match zeroOf P elem with
          | some z => clearTo s base (repeatL (cellsOfV z) (m + 1))
          | none => none))
      | _ => none)
    | _ => none)
  | _, _ => none

noncomputable def natOf : Value → Option Nat
  | .int _ n => if 0 ≤ n then some n.toNat else none
  | _ => none

/-- low, high, max of a slice expression as numbers -/
noncomputable def bound : Option Value → Nat → Option Nat
  | none, d => some d
  | some v, _ => natOf v
noncomputable def boundsD (lo hi mx : Option Value) (len cap : Nat) : Option (Nat × Nat × Nat) :=
  match mx with
  | none => match bound lo 0, bound hi len with
    | some l, some h => if Nat.ble l h && Nat.ble h cap then some (l, h, cap) else none
    | _, _ => none
  | some mv => match hi with
    | none => none
    | some hv => match natOf mv, natOf hv, bound lo 0 with
      | some m, some h, some l => if Nat.ble m cap && (Nat.ble h m && Nat.ble l h) then some (l, h, m) else none
      | _, _, _ => none

noncomputable def sliceStr (x : Value) (lo hi mx : Option Value) : Option Value :=
  match x with
  | .string b => match mx with
    | none => match boundsD lo hi none b.size b.size with
      | some r => some (.string (b.extract r.1 r.2.1))
      | none => none
    | some _ => none
  | _ => none
noncomputable def sliceKnown (a : Option Addr) (size : Nat) (r : Nat × Nat × Nat) : Option Value :=
  match a with
  | none => some (.slice none (r.2.1 - r.1) (r.2.2 - r.1))
  | some ⟨id, off, none⟩ => some (.slice (some ⟨id, if Nat.beq r.2.2 r.1 then off else off + r.1 * size, none⟩) (r.2.1 - r.1) (r.2.2 - r.1))
  | _ => none
noncomputable def sliceSl (elem : TypeId) (x : Value) (lo hi mx : Option Value) : Option Value :=
  match x with
  | .slice a n c =>
    match szOf P elem with
    | some size =>
      if Nat.ble capU c then
        if Nat.beq c (capU + size) && Nat.ble n 1099511627776 then
          match boundsD lo hi mx n n with
          | some r => match mx with
            | some _ => sliceKnown a size r
            | none => if Nat.beq r.1 0 || Nat.ble (r.1 + 1) n then (match a with
              | some ⟨id, off, none⟩ => some (.slice (some ⟨id, off + r.1 * size, none⟩) (r.2.1 - r.1) c)
              | _ => none) else some emp
          | none => none
        else none
      else match boundsD lo hi mx n c with
        | some r => sliceKnown a size r
        | none => none
    | none => none
  | _ => none
noncomputable def sliceArr (n : Nat) (elem : TypeId) (x : Value) (lo hi mx : Option Value) : Option Value :=
  match x with
  | .pointer a => match a with
    | none => none
    | some a => match szOf P elem with
      | some size => if Nat.ble n 1099511627776 then (match boundsD lo hi mx n n with
        | some r => sliceKnown (some a) size r
        | none => none) else none
      | none => none
  | _ => none
noncomputable def sliceD (t : TypeId) (x : Value) (lo hi mx : Option Value) : Option Value :=
  match typ P t with
  | some .string => sliceStr x lo hi mx
  | some (.slice elem) => sliceSl P elem x lo hi mx
  | some (.pointer arr) => (match typ P arr with | some (.array n elem) => sliceArr P n elem x lo hi mx | _ => none)
  | some (.array n elem) => sliceArr P n elem x lo hi mx
  | _ => none

noncomputable def fieldAddrD (st : TypeId) (x : Value) (f : Nat) : Option Value :=
  match typ P st, x with
  | some (.struct fs), .pointer (some ⟨id, off, none⟩) =>
    match fs[f]? with
    | some fd => match szOf P fd.type with
      | some n => if Nat.beq n 0 then none else some (.pointer (some ⟨id, off + fd.offset, none⟩))
      | none => none
    | none => none
  | _, _ => none

noncomputable def indexAddrD (t : TypeId) (x ix : Value) : Option Value :=
  match typ P t, x, natOf ix with
  | some (.slice elem), .slice (some ⟨id, off, none⟩) n _, some i =>
    match szOf P elem with
    | some size => if Nat.ble n i then none else some (.pointer (some ⟨id, off + i * size, none⟩))
    | none => none
  | some (.array n elem), .pointer (some ⟨id, off, none⟩), some i =>
    match szOf P elem with
    | some size => if Nat.ble n i then none else some (.pointer (some ⟨id, off + i * size, none⟩))
    | none => none
  | _, _, _ => none

noncomputable def partD (t : TypeId) (cs : List Value) (off : Nat) : Option Value :=
  match isAggB P t with
  | some true => match szOf P t with
    | some n => match ltake n (ldrop off cs) with | some r => some (.agg r.toArray) | none => none
    | none => none
  | some false => match ldrop off cs with | v :: _ => some v | [] => none
  | none => none

noncomputable def fieldD (t : TypeId) (x : Value) (f : Nat) : Option Value :=
  match typ P t, x with
  | some (.struct fs), .agg cs => match fs[f]? with | some fd => partD P fd.type cs.toList fd.offset | none => none
  | _, _ => none

noncomputable def indexD (t : TypeId) (x ix : Value) : Option Value :=
  match typ P t, x, natOf ix with
  | some (.array n elem), .agg cs, some i =>
    match szOf P elem with
    | some size => if Nat.ble n i then none else partD P elem cs.toList (i * size)
    | none => none
  | some .string, .string b, some i => match ldrop i (b.data.toList.map fun x => Value.int .u8 x.toNat) with | v :: _ => some v | [] => none
  | _, _, _ => none

noncomputable def fillL (place : Nat → Option (Nat × Nat)) (cells : List Value) : List (Nat × Value) → Option (List Value)
  | [] => some cells
  | (i, v) :: rest =>
    match place i with
    | none => none
    | some (off, size) =>
      if Nat.beq (cellsOfV v).length size && !isUnd v then
        match lput cells off (cellsOfV v) with
        | some c => fillL place c rest
        | none => none
      else none

noncomputable def placesD : List Field → Option (List (Nat × Nat))
  | [] => some []
  | f :: t => match szOf P f.type, placesD t with | some n, some r => some ((f.offset, n) :: r) | _, _ => none

noncomputable def nth {α : Type} : List α → Nat → Option α
  | [], _ => none
  | a :: _, 0 => some a
  | _ :: t, n + 1 => nth t n

noncomputable def buildD (t : TypeId) (parts : List (Nat × Value)) : Option Value :=
  match zeroOf P t with
  | some z =>
    match typ P t with
    | some (.struct fs) =>
      match placesD P fs.toList with
      | some pl => match fillL (nth pl) (cellsOfV z) parts with
        | some cs => some (.agg cs.toArray)
        | none => none
      | none => none
    | some (.array _ elem) =>
      match szOf P elem with
      | some size => match fillL (fun i => some (i * size, size)) (cellsOfV z) parts with
        | some cs => some (.agg cs.toArray)
        | none => none
      | none => none
    | _ => none
  | none => none

noncomputable def buildSliceD (s : St) (t : TypeId) (len : Nat) (parts : List (Nat × Value)) : Option (Value × St) :=
  match typ P t with
  | some (.slice elem) =>
    match szOf P elem, zeroOf P elem with
    | some size, some z =>
      if Nat.ble (len * size) 65536 && Nat.ble 1 size then
        match fillL (fun i => some (i * size, size)) (repeatL (cellsOfV z) len) parts with
        | some cs => some (.slice (some ⟨s.next, 0, none⟩) len len, s.new (.cells cs (2 * elem + 1) false))
        | none => none
      else none
    | _, _ => none
  | _ => none

noncomputable def makeSliceD (s : St) (t : TypeId) (len cap : Value) : Option (Value × St) :=
  match typ P t, natOf len, natOf cap with
  | some (.slice elem), some l, some c =>
    match P.info? elem with
    | some ei => match zeroOf P elem with
      | some z =>
        if Nat.ble l c && Nat.ble c 1048576 && Nat.ble (c * ei.bytes) 1099511627776 then
          some (.slice (some ⟨s.next, 0, none⟩) l c, s.new (.cells (repeatL (cellsOfV z) c) (2 * elem + 1) false))
        else none
      | none => none
    | none => none
  | _, _, _ => none

noncomputable def bytesL : List Value → Option (List UInt8)
  | [] => some []
  | .int .u8 n :: t => match bytesL t with | some r => some (UInt8.ofNat n.toNat :: r) | none => none
  | _ :: _ => none

noncomputable def convStr (s : St) (dst : Option TypeDesc) (b : ByteArray) : Option (Value × St) :=
  match dst with
  | some (.slice e) => (match typ P e with
    | some (.int .u8) => some (.slice (some ⟨s.next, 0, none⟩) b.size (capU + 1), s.new (.cells (b.data.toList.map fun x => Value.int .u8 x.toNat) (2 * e) false))
    | _ => none)
  | some .string => some (.string b, s)
  | _ => none
noncomputable def convSlice (s : St) (src dst : Option TypeDesc) (a : Option Addr) (n : Nat) : Option (Value × St) :=
  match src, dst with
  | some (.slice e), some .string => (match typ P e with
    | some (.int .u8) => (match a with
      | none => some (.string .empty, s)
      | some ⟨id, off, none⟩ =>
        (match s.h.get id with
         | some (.cells cs _ _) => (match ltake n (ldrop off cs) with
           | some r => (match bytesL r with | some bs => some (.string ⟨bs.toArray⟩, s.read id) | none => none)
           | none => none)
         | _ => none)
      | _ => none)
    | _ => none)
  | _, _ => none
/-- bytes of a constant text, marked as such: nobody writes them from here on -/
noncomputable def convSame (s : St) (d : Option TypeDesc) (a : Option Addr) (n c : Nat) : Option (Value × St) :=
  match d with
  | some (.slice e) => (match typ P e with
    | some (.int .u8) => (match a with
      | some ⟨id, off, none⟩ => (match s.h.get id with
        | some (.cells cs el false) => some (.slice (some ⟨id, off, none⟩) n c, s.write id (.cells cs el true))
        | _ => none)
      | _ => none)
    | _ => none)
  | _ => none
noncomputable def convPtr (s : St) (src dst : Option TypeDesc) (a : Option Addr) : Option (Value × St) :=
  match src, dst with
  | some (.pointer t), some .unsafePointer => (match a with
    | none => some (.pointer none, s)
    | some ⟨id, off, none⟩ => (match s.h.get id, szOf P t with
      | some (.cells cs _ _), some n => if Nat.ble 1 n && Nat.ble (off + 1) cs.length then some (.pointer (some ⟨id, off, none⟩), s.read id) else none
      | _, _ => none)
    | _ => none)
  | some .unsafePointer, some (.pointer u) => (match a with
    | none => some (.pointer none, s)
    | some ⟨id, 0, none⟩ => (match s.h.get id, szOf P u with
      | some (.cells cs e _), some n => if Nat.beq e (2 * u + 1) && (Nat.ble 1 n && Nat.ble n cs.length) then some (.pointer (some ⟨id, 0, none⟩), s.read id) else none
      | _, _ => none)
    | _ => none)
  | _, _ => none
noncomputable def convEmp (s : St) (src dst : Option TypeDesc) : Option (Value × St) :=
  match src, dst with
  | some (.slice e), some .string => (match typ P e with | some (.int .u8) => some (.string .empty, s) | _ => none)
  | _, _ => none
noncomputable def convertD (s : St) (src dst : TypeId) (x : Value) : Option (Value × St) :=
  match x with
  | .string b => (match typ P src with | some _ => convStr P s (typ P dst) b | none => none)
  | .slice a n c => (match Nat.beq src dst with | true => convSame P s (typ P src) a n c | false => convSlice P s (typ P src) (typ P dst) a n)
  | .pointer a => convPtr P s (typ P src) (typ P dst) a
  | .float .f64 1 => convEmp P s (typ P src) (typ P dst)
  | v => if flat2 v then (match pureRun P (convert src dst v) with | some r => if flat r then some (r, s) else none | none => none) else none

/-- '==' where one side is nil -/
noncomputable def nilEq (d : Option TypeDesc) (a b : Value) : Option Bool :=
  match d with
  | some (.pointer _) => (match a, b with
    | .pointer (some _), .pointer none | .pointer none, .pointer (some _) => some false
    | _, _ => none)
  | some (.slice _) => (match a, b with
    | .slice (some _) _ _, .slice none _ _ | .slice none _ _, .slice (some _) _ _ => some false
    | _, _ => none)
  | some (.map _ _) => (match a, b with
    | .map (some _), .map none | .map none, .map (some _) => some false
    | _, _ => none)
  | some (.func _ _ _) => (match a, b with
    | .nilFunc, .func .. | .func .., .nilFunc => some false
    | _, _ => none)
  | some (.interface _) => (match a, b with
    | .iface .., .nilIface | .nilIface, .iface .. => some false
    | _, _ => none)
  | _ => none

/-- '==' of two addresses in one block -/
noncomputable def ptrEq (t : TypeId) : Value → Value → Option Bool
  | .pointer (some ⟨i, o, none⟩), .pointer (some ⟨j, p, none⟩) =>
    if Nat.beq i j then
      match typ P t with
      | some (.pointer e) => match szOf P e with
        | some n => if Nat.beq n 0 then none else some (Nat.beq o p)
        | none => none
      | _ => none
    else none
  | a, b => nilEq (typ P t) a b

def shlI (k : IntKind) (m n : Int) : Int := k.wrap (m * 2 ^ (min n.toNat k.bits))
def shrI (k : IntKind) (m n : Int) : Int := m.fdiv (2 ^ (min n.toNat k.bits))
def andI (k : IntKind) (m n : Int) : Int := k.wrap (BitVec.ofInt k.bits m &&& BitVec.ofInt k.bits n).toNat
def orI (k : IntKind) (m n : Int) : Int := k.wrap (BitVec.ofInt k.bits m ||| BitVec.ofInt k.bits n).toNat
def xorI (k : IntKind) (m n : Int) : Int := k.wrap (BitVec.ofInt k.bits m ^^^ BitVec.ofInt k.bits n).toNat
def andNotI (k : IntKind) (m n : Int) : Int := k.wrap (BitVec.ofInt k.bits m &&& ~~~ BitVec.ofInt k.bits n).toNat
def strEq (a b : ByteArray) : Bool := a.data.toList == b.data.toList
def strLt (a b : ByteArray) : Bool := Op.bytesLess a.data.toList b.data.toList

/-- whole numbers: the commonest operators, straight -/
noncomputable def intBin (op : BinOp) (k : IntKind) (a b : Int) : Option Value :=
  match op with
  | .add => some (.int k (k.wrap (a + b)))
  | .sub => some (.int k (k.wrap (a - b)))
  | .mul => some (.int k (k.wrap (a * b)))
  | .eql => some (.bool (a == b))
  | .neq => some (.bool (a != b))
  | .lss => some (.bool (decide (a < b)))
  | .leq => some (.bool (decide (a ≤ b)))
  | .gtr => some (.bool (decide (b < a)))
  | .geq => some (.bool (decide (b ≤ a)))
  | .quo => match decide (b = 0) with | true => none | false => some (.int k (k.wrap (a.tdiv b)))
  | .rem => match decide (b = 0) with | true => none | false => some (.int k (a.tmod b))
  | .and => some (.int k (andI k a b))
  | .or => some (.int k (orI k a b))
  | .xor => some (.int k (xorI k a b))
  | .andNot => some (.int k (andNotI k a b))
  | _ => none
noncomputable def shiftBin (op : BinOp) (k : IntKind) (a b : Int) : Option Value :=
  match op with
  | .shl => match decide (b < 0) with | true => none | false => some (.int k (shlI k a b))
  | .shr => match decide (b < 0) with | true => none | false => some (.int k (shrI k a b))
  | _ => none
noncomputable def strBin (op : BinOp) (a b : ByteArray) : Option Value :=
  match op with
  | .add => match Nat.ble (a.size + b.size) 9223372036854775807 with | true => some (.string (a ++ b)) | false => none
  | .eql => some (.bool (strEq a b))
  | .neq => some (.bool (!strEq a b))
  | .lss => some (.bool (strLt a b))
  | _ => none

noncomputable def kindEq (a b : IntKind) : Bool := match a, b with
  | .i64, .i64 | .u64, .u64 | .u8, .u8 | .i32, .i32 | .u32, .u32 | .u16, .u16 | .i16, .i16 | .i8, .i8 => true
  | _, _ => false

/-- the cells of two structs held against each other, kind by kind -/
noncomputable def eqCells : List Nat → List Value → List Value → Option Bool
  | [], [], [] => some true
  | 0 :: ks, .int k a :: s, .int k' b :: t => match kindEq k k' with
    | true => (match eqCells ks s t with | some r => some ((a == b) && r) | none => none)
    | false => none
  | 1 :: ks, .bool a :: s, .bool b :: t => match eqCells ks s t with | some r => some ((a == b) && r) | none => none
  | 2 :: ks, .string a :: s, .string b :: t => match eqCells ks s t with | some r => some (strEq a b && r) | none => none
  | _, _, _ => none

/-- the kinds of a type's cells, where its '==' is that of its cells -/
noncomputable def plainFs (sh : TypeId → Option (List Nat)) : Nat → List Field → Option (List Nat)
  | _, [] => some []
  | off, f :: fs => match f.name != "_" && Nat.beq f.offset off with
    | true => (match sh f.type with
      | some ks => (match szOf P f.type with
        | some m => (match Nat.beq m ks.length with
          | true => (match plainFs sh (off + m) fs with | some r => some (ks ++ r) | none => none)
          | false => none)
        | none => none)
      | none => none)
    | false => none
noncomputable def plainSh : Nat → TypeId → Option (List Nat)
  | 0, _ => none
  | d + 1, t => match P.underlying t with
    | some .bool => some [1]
    | some (.int _) => some [0]
    | some .string => some [2]
    | some (.struct fs) => (match P.stoodInHeld t with | true => none | false => plainFs P (plainSh d) 0 fs.toList)
    | _ => none

noncomputable def aggEq (t : TypeId) (a b : List Value) : Option Bool :=
  match P.underlying t with
  | some (.struct fs) => (match P.stoodInHeld t || P.eqGuardType P.depth t with
    | true => none
    | false => (match plainFs P (plainSh P 11) 0 fs.toList with
      | some ks => eqCells ks a b
      | none => none))
  | _ => none
noncomputable def aggBin (op : BinOp) (t : TypeId) (a b : List Value) : Option Value :=
  match op with
  | .eql => (match aggEq P t a b with | some r => some (.bool r) | none => none)
  | .neq => (match aggEq P t a b with | some r => some (.bool (!r)) | none => none)
  | _ => none

noncomputable def binS (op : BinOp) (t : TypeId) (x y : Operand) (a b : Value) : Option Value :=
  if flat2 a && flat2 b then
    match pureRun P (do eqGuard op t x y a b; binOp op t a b) with
    | some r => if flat r then some r else none
    | none => none
  else
    match op, ptrEq P t a b with
    | .eql, some r => some (.bool r)
    | .neq, some r => some (.bool (!r))
    | _, _ => none

/-- a number of which only this is known: what is left of its last eight bits (c even), or of itself (c odd), behind a division: c = 131072 * rest + 2 * divisor -/
noncomputable def markBin (op : BinOp) (c : Nat) (n : Int) : Option Value :=
  match op with
  | .and => match Nat.ble 256 (c / 2 % 65536) with
    | true => match decide (n = ((Nat.sub (Nat.pow 2 (Nat.sub (c / 2 % 65536) 256)) 1 : Nat) : Int)) && (Nat.beq (c % 2) 0 && Nat.ble (c / 2 % 65536) 271) with | true => some (.int .i64 ((c / 131072 : Nat) : Int)) | false => none
    | false => match decide (n = 255) && Nat.beq (c % 2) 0 with | true => some (.float .f32 (c + 1)) | false => none
  | .rem => match decide (n = ((c / 2 % 65536 : Nat) : Int)) && (Nat.beq (c % 2) 1 && Nat.ble 1 (c / 2 % 65536)) with | true => some (.int .i64 ((c / 131072 : Nat) : Int)) | false => none
  | _ => none

noncomputable def binD (op : BinOp) (t : TypeId) (x y : Operand) (a b : Value) : Option Value :=
  match a, b with
  | .float .f32 c, .int .i64 n => markBin op c n
  | .int k m, .int k' n => (match shiftBin op k m n with
    | some v => some v
    | none => match kindEq k k' with
      | true => intBin op k m n
      | false => none)
  | .string p, .string q => (match strBin op p q with | some v => some v | none => binS P op t x y (.string p) (.string q))
  | .agg p, .agg q => (match aggBin P op t p.toList q.toList with | some v => some v | none => binS P op t x y (.agg p) (.agg q))
  | a, b => binS P op t x y a b

noncomputable def pairsO (l : Tmps) : List (Nat × Operand) → List (Nat × Value)
  | [] => []
  | (i, x) :: t => (i, evalO l x) :: pairsO l t
noncomputable def evalL (l : Tmps) : List Operand → List Value
  | [] => []
  | x :: t => evalO l x :: evalL l t
noncomputable def evalOpt (l : Tmps) : Option Operand → Option Value
  | none => none
  | some x => some (evalO l x)

noncomputable def sliceDataD (s : St) (args : List Value) : Option (Value × St) :=
  match args with
  | [.slice a n c] => (match a with
    | none => some (.pointer none, s)
    | some a => if Nat.ble capU c then (if Nat.ble 1 n then some (.pointer (some a), s) else none) else (if Nat.ble 1 c then some (.pointer (some a), s) else none))
  | _ => none
noncomputable def unsafeStringD (s : St) (pt : Option TypeDesc) (args : List Value) : Option (Value × St) :=
  match args with
  | [.pointer a, .int _ n] => (match a with
    | none => if n = 0 then some (.string .empty, s) else none
    | some ⟨id, off, none⟩ => (match pt, s.h.get id with
      | some (.pointer u), some (.cells cs e false) =>
        if 0 < n ∧ n ≤ 1048576 then
          (if Nat.beq (e / 2) u && Nat.beq (P.cellsOf u) 1 then
            (match ltake n.toNat (ldrop off cs) with
             | some r => (match bytesL r with | some bs => some (.string ⟨bs.toArray⟩, s.write id (.cells cs e true)) | none => none)
             | none => none)
           else none)
        else none
      | _, _ => none)
    | _ => none)
  | _ => none
noncomputable def lenB (t : Option TypeDesc) (x : Value) : Option Nat :=
  match t with
  | some .string => (match x with | .string b => some b.size | _ => none)
  | some (.slice _) => (match x with | .slice _ n _ => some n | .float .f64 1 => some 0 | _ => none)
  | some (.map _ _) => (match x with | .map none => some 0 | _ => none)
  | some (.array n _) => some n
  | some (.pointer arr) => (match typ P arr with | some (.array n _) => some n | _ => none)
  | _ => none
noncomputable def capB (t : Option TypeDesc) (x : Value) : Option Nat :=
  match t with
  | some (.slice _) => (match x with | .slice _ _ c => if Nat.ble capU c then none else some c | _ => none)
  | _ => none
noncomputable def ofN (r : Option Nat) (s : St) : Option (Value × St) := match r with | some n => some (.int .i64 n, s) | none => none
noncomputable def minMaxD (s : St) (b : Builtin) (argTypes : Array TypeId) (type : TypeId) (args : List Value) : Option (Value × St) :=
  match flat2L args with
  | true => (match pureRun P (builtin b argTypes type #[] args.toArray) with
    | some (.value v) => (match flat v with | true => some (v, s) | false => none)
    | _ => none)
  | false => none
noncomputable def builtinD (s : St) (b : Builtin) (argTypes : Array TypeId) (type : TypeId) (args : List Value) : Option (Value × St) :=
  match b with
  | .append => appendD P s argTypes args
  | .copy => copyD P s argTypes args
  | .clear => clearD P s argTypes args
  | .len => (match argTypes.toList, args with | t :: _, x :: _ => ofN (lenB P (typ P t) x) s | _, _ => none)
  | .cap => (match argTypes.toList, args with | t :: _, x :: _ => ofN (capB (typ P t) x) s | _, _ => none)
  | .unsafeSliceData => sliceDataD s args
  | .unsafeString => (match argTypes.toList with | pt :: _ => unsafeStringD P s (typ P pt) args | [] => none)
  | .min => minMaxD P s .min argTypes type args
  | .max => minMaxD P s .max argTypes type args
  | _ => none

/-- keys of maps: strings, arrays and structs of plain cells -/
noncomputable def keyD (k : TypeId) : Bool := match P.underlying k with
  | some .string => true
  | some (.array _ _) | some (.struct _) => P.keyTypeAt 12 k && P.tiled 12 k
  | _ => false
noncomputable def cellEq (a b : Value) : Option Bool :=
  match a, b with
  | .int k m, .int k' n => (match kindEq k k' with | true => some (m == n) | false => none)
  | .bool a, .bool b => some (a == b)
  | .string a, .string b => some (strEq a b)
  | _, _ => none
noncomputable def cellsEq : List Value → List Value → Option Bool
  | [], [] => some true
  | a :: s, b :: t => (match cellEq a b with
    | some r => (match r with | true => cellsEq s t | false => some false)
    | none => none)
  | _, _ => none
noncomputable def keyEq (a b : Value) : Option Bool :=
  match a, b with
  | .agg p, .agg q => cellsEq p.toList q.toList
  | a, b => cellEq a b
/-- where the one key stands that is this one -/
noncomputable def findD (kt : TypeId) (k : Value) : List (Value × Value × Nat) → Option (Option Nat)
  | [] => some none
  | e :: t => (match (keyOf P kt e.1).isSome with
    | true => (match findD kt k t with
      | some r => (match keyEq e.1 k with
        | some q => (match q with
          | true => (match r with | none => some (some 0) | some _ => none)
          | false => (match r with | none => some none | some j => some (some (j + 1))))
        | none => none)
      | none => none)
    | false => none)
noncomputable def mapOf (s : St) (x : Value) : Option (List (Value × Value × Nat) × St) :=
  match x with
  | .map a => (match a with
    | none => some ([], s)
    | some id => (match s.h.get id with
      | some (.ob o) => (match o with | .mp es _ => some (es, s.read id) | _ => none)
      | _ => none))
  | _ => none
noncomputable def lookRes (ok : Bool) (v : Value) (b : Bool) : Value := match ok with | true => .tuple ⟨[v, .bool b]⟩ | false => v
noncomputable def lookVal (e : TypeId) (ok : Bool) (es : List (Value × Value × Nat)) (r : Option (Option Nat)) : Option Value :=
  match r with
  | some (some j) => (match nth es j with | some en => some (lookRes ok en.2.1 true) | none => none)
  | some none => (match zeroOf P e with | some z => some (lookRes ok z false) | none => none)
  | none => none
noncomputable def lookupD (s : St) (d : Option TypeDesc) (x k : Value) (ok : Bool) : Option (Value × St) :=
  match d with
  | some (.map kt e) => (match keyD P kt && (flat2 k && (keyOf P kt k).isSome) with
    | true => (match mapOf s x with
      | some r => (match lookVal P e ok r.1 (findD P kt k r.1) with
        | some v => some (v, r.2)
        | none => none)
      | none => none)
    | false => none)
  | _ => none
noncomputable def setVal (v : Value) : List (Value × Value × Nat) → Nat → List (Value × Value × Nat)
  | [], _ => []
  | e :: t, 0 => (e.1, v, e.2.2) :: t
  | e :: t, n + 1 => e :: setVal v t n
noncomputable def updEs (k v : Value) (es : List (Value × Value × Nat)) (ck : Nat) (r : Option (Option Nat)) : Option Ob :=
  match r with
  | some (some j) => some (.mp (setVal v es j) ck)
  | some none => some (.mp (es ++ [(k, v, ck)]) (ck + 1))
  | none => none
noncomputable def updateD (s : St) (d : Option TypeDesc) (x k v : Value) : Option (Value × St) :=
  match d, x with
  | some (.map kt _), .map (some id) => (match keyD P kt && (flat2 k && (keyOf P kt k).isSome) with
    | true => (match s.h.get id with
      | some (.ob o) => (match o with
        | .mp es ck => (match updEs k v es ck (findD P kt k es) with
          | some o' => some (und, s.write id (.ob o'))
          | none => none)
        | _ => none)
      | _ => none)
    | false => none)
  | _, _ => none

/-- the walk over a map begins -/
noncomputable def rangeD (s : St) (d : Option TypeDesc) (x : Value) : Option (Value × St) :=
  match d, x with
  | some (.map _ _), .map a => (match a with
    | none => some (.pointer (some ⟨s.next, 0, none⟩), s.new (.ob (.it none 0 [] 0)))
    | some id => (match s.h.get id with
      | some (.ob o) => (match o with
        | .mp _ ck => some (.pointer (some ⟨s.next, 0, none⟩), (s.read id).new (.ob (.it (some id) ck [] ck)))
        | _ => none)
      | _ => none))
  | _, _ => none
noncomputable def hasN (n : Nat) : List Nat → Bool
  | [] => false
  | m :: t => Nat.beq n m || hasN n t
/-- the entries that were not handed out yet -/
noncomputable def leftD (seen : List Nat) : List (Value × Value × Nat) → List (Value × Value × Nat)
  | [] => []
  | e :: t => (match hasN e.2.2 seen with | true => leftD seen t | false => e :: leftD seen t)
noncomputable def elderD (since : Nat) : List (Value × Value × Nat) → Bool
  | [] => true
  | e :: t => Nat.ble (e.2.2 + 1) since && elderD since t
noncomputable def nextGo (s : St) (r id since last : Nat) (seen : List Nat) (ck : Nat) (es : List (Value × Value × Nat)) : Option (Value × St) :=
  match Nat.ble since last && elderD since es with
  | true => (match leftD seen es with
    | [] => some (.tuple ⟨[.bool false]⟩, (s.read r).read id)
    | e :: t => (match t with
      | [] => some (.tuple ⟨[.bool true, e.1, e.2.1]⟩, (s.read id).write r (.ob (.it (some id) since (seen ++ [e.2.2]) ck)))
      | _ :: _ => none))
  | false => none
noncomputable def nextIt (s : St) (r : Nat) (m : Option Nat) (since last : Nat) (seen : List Nat) : Option (Value × St) :=
  match m with
  | none => some (.tuple ⟨[.bool false]⟩, s.read r)
  | some id => (match s.h.get id with
    | some (.ob o) => (match o with
      | .mp es ck => nextGo s r id since last seen ck es
      | _ => none)
    | _ => none)
/-- the next entry, where at most one is left -/
noncomputable def nextD (s : St) (x : Value) (str : Bool) : Option (Value × St) :=
  match x, str with
  | .pointer (some ⟨r, 0, none⟩), false => (match s.h.get r with
    | some (.ob o) => (match o with
      | .it m since seen last => nextIt s r m since last seen
      | _ => none)
    | _ => none)
  | _, _ => none
noncomputable def lastN : List Nat → Option Nat
  | [] => none
  | n :: t => (match t with | [] => some n | _ :: _ => lastN t)
noncomputable def stampD (n : Nat) : List (Value × Value × Nat) → Option (Value × Value × Nat)
  | [] => none
  | e :: t => (match Nat.beq e.2.2 n with | true => some e | false => stampD n t)
noncomputable def entryGo (s : St) (r id last ck : Nat) (seen : List Nat) (es : List (Value × Value × Nat)) : Option (Value × St) :=
  match Nat.beq ck last, lastN seen with
  | true, some n => (match stampD n es with
    | some e => some (.tuple ⟨[e.1, e.2.1]⟩, (s.read r).read id)
    | none => none)
  | _, _ => none
noncomputable def entryIt (s : St) (r : Nat) (m : Option Nat) (last : Nat) (seen : List Nat) : Option (Value × St) :=
  match m with
  | none => none
  | some id => (match s.h.get id with
    | some (.ob o) => (match o with
      | .mp es ck => entryGo s r id last ck seen es
      | _ => none)
    | _ => none)
/-- the entry that was handed out last -/
noncomputable def entryD (s : St) (x : Value) : Option (Value × St) :=
  match x with
  | .pointer (some ⟨r, 0, none⟩) => (match s.h.get r with
    | some (.ob o) => (match o with
      | .it m _ seen last => entryIt s r m last seen
      | _ => none)
    | _ => none)
  | _ => none
abbrev Call := FuncId → List Value → St → Option (Value × St)
abbrev OpF := Tmps → St → Option (Value × St)

noncomputable def ofV (v : Option Value) (s : St) : Option (Value × St) := match v with | some v => some (v, s) | none => none

noncomputable def opMove (x : Operand) : OpF := fun l s => some (evalO l x, s)
noncomputable def opPick (c a b : Operand) : OpF := fun l s => match evalO l c with
  | .bool t => match t with | true => some (evalO l a, s) | false => some (evalO l b, s)
  | _ => none
noncomputable def opAlloc (e : TypeId) : OpF := fun _ s => match zeroOf P e with
  | some z => some (.pointer (some ⟨s.next, 0, none⟩), s.new (.cells (cellsOfV z) (2 * e + 1) false))
  | none => none
noncomputable def opBox (e : TypeId) (x : Operand) : OpF := fun l s =>
  if !isUnd (evalO l x) then some (.pointer (some ⟨s.next, 0, none⟩), s.new (.cells (cellsOfV (evalO l x)) (2 * e + 1) false)) else none
noncomputable def opBuild (t : TypeId) (parts : Array (Nat × Operand)) : OpF := fun l s => ofV (buildD P t (pairsO l parts.toList)) s
noncomputable def opBuildSlice (t : TypeId) (n : Nat) (parts : Array (Nat × Operand)) : OpF := fun l s => buildSliceD P s t n (pairsO l parts.toList)
noncomputable def opLoad (t : TypeId) (a : Operand) : OpF := fun l s => loadD P s t (evalO l a)
noncomputable def opStore (t : TypeId) (a x : Operand) : OpF := fun l s => match storeD P s t (evalO l a) (evalO l x) with | some s => some (und, s) | none => none
noncomputable def opNilCheck (x : Operand) : OpF := fun l s => match evalO l x with
  | .pointer a => match a with | some a => some (.pointer (some a), s) | none => none
  | .func f a b => match f with | .func f => some (.func (.func f) a b, s) | _ => none
  | _ => none
noncomputable def opBin (op : BinOp) (t : TypeId) (x y : Operand) : OpF := fun l s => ofV (binD P op t x y (evalO l x) (evalO l y)) s
noncomputable def opUn (op : UnOp) (x : Operand) : OpF := fun l s =>
  match flat2 (evalO l x) with
  | true => match pureRun P (Op.unary op (evalO l x)) with
    | some v => match flat v with | true => some (v, s) | false => none
    | none => none
  | false => none
noncomputable def opConvert (src dst : TypeId) (x : Operand) : OpF := fun l s => convertD P s src dst (evalO l x)
noncomputable def opMakeInterface (t : TypeId) (x : Operand) : OpF := fun l s => match typ P t with
  | some d => match d with | .interface _ => none | _ => some (.iface t (evalO l x), s)
  | none => none
noncomputable def opMakeFunc (fn : Fn) (a b : Array Operand) : OpF := fun l s => some (.func fn (evalL l a.toList).toArray (evalL l b.toList).toArray, s)
noncomputable def opMakeSlice (t : TypeId) (n c : Operand) : OpF := fun l s => makeSliceD P s t (evalO l n) (evalO l c)
noncomputable def opSlice (t : TypeId) (x : Operand) (lo hi mx : Option Operand) : OpF := fun l s => ofV (sliceD P t (evalO l x) (evalOpt l lo) (evalOpt l hi) (evalOpt l mx)) s
noncomputable def opFieldAddr (t : TypeId) (x : Operand) (f : Nat) : OpF := fun l s => ofV (fieldAddrD P t (evalO l x) f) s
noncomputable def opField (t : TypeId) (x : Operand) (f : Nat) : OpF := fun l s => ofV (fieldD P t (evalO l x) f) s
noncomputable def opIndexAddr (t : TypeId) (x i : Operand) : OpF := fun l s => ofV (indexAddrD P t (evalO l x) (evalO l i)) s
noncomputable def opIndex (t : TypeId) (x i : Operand) : OpF := fun l s => ofV (indexD P t (evalO l x) (evalO l i)) s
noncomputable def opExtract (t : Operand) (i : Nat) : OpF := fun l s => match evalO l t with
  | .tuple vs => match vs.toList with | [] => none | w :: ws => ofV (nth (w :: ws) i) s
  | _ => none
noncomputable def opCallV (call : Call) (f : Operand) (xs : Array Operand) : OpF := fun l s => match evalO l f with
  | .func g first cap => match g with
    | .func g => call g (first.toList ++ (evalL l xs.toList ++ cap.toList)) s
    | _ => none
  | _ => none
noncomputable def opBuiltin (b : Builtin) (ts : Array TypeId) (type : TypeId) (xs : Array Operand) : OpF := fun l s => builtinD P s b ts type (evalL l xs.toList)
noncomputable def opMakeMap (r : Option Operand) : OpF := fun _ s => match r with
  | none => some (.map (some s.next), s.new (.ob (.mp [] 0)))
  | some _ => none
noncomputable def opLookup (t : TypeId) (x k : Operand) (ok : Bool) : OpF := fun l s => lookupD P s (typ P t) (evalO l x) (evalO l k) ok
noncomputable def opMapUpdate (t : TypeId) (x k v : Operand) : OpF := fun l s => updateD P s (typ P t) (evalO l x) (evalO l k) (evalO l v)
noncomputable def opRange (t : TypeId) (x : Operand) : OpF := fun l s => rangeD s (typ P t) (evalO l x)
noncomputable def opNext (x : Operand) (str : Bool) : OpF := fun l s => nextD s (evalO l x) str
noncomputable def opEntry (x : Operand) : OpF := fun l s => entryD s (evalO l x)
noncomputable def opNone : OpF := fun _ _ => none
noncomputable def opCall (call : Call) (c : Go.Call) (type : TypeId) : OpF := match c.callee with
  | .builtin b => opBuiltin P b c.argTypes type c.args
  | .value f => opCallV call f c.args
  | .invoke _ _ => opNone

/-- What one operation comes to: its value (und where it has none) and the memory behind it. -/
noncomputable def opD (call : Call) (o : Oper) : OpF :=
  match o.op with
  | .move x => opMove x
  | .assign x => opMove x
  | .pick c a b => opPick c a b
  | .alloc e => opAlloc P e
  | .box e x => opBox e x
  | .build t parts => opBuild P t parts
  | .buildSlice t n parts => opBuildSlice P t n parts
  | .load t a => opLoad P t a
  | .store t a x => opStore P t a x
  | .nilCheck x => opNilCheck x
  | .binOp op t x y _ => opBin P op t x y
  | .unOp op _ x => opUn P op x
  | .convert src dst x => opConvert P src dst x
  | .makeInterface t x => opMakeInterface P t x
  | .makeFunc fn a b => opMakeFunc fn a b
  | .makeSlice t n c => opMakeSlice P t n c
  | .slice t x lo hi mx => opSlice P t x lo hi mx
  | .fieldAddr t x f => opFieldAddr P t x f
  | .field t x f => opField P t x f
  | .indexAddr t x i => opIndexAddr P t x i
  | .index t x i => opIndex P t x i
  | .extract t i => opExtract t i
  | .makeMap _ r => opMakeMap r
  | .lookup t x k ok => opLookup P t x k ok
  | .range t x => opRange P t x
  | .next x str => opNext x str
  | .entry x => opEntry x
  | .mapUpdate t x k v => opMapUpdate P t x k v
  | .call c => opCall P call c o.type
  | _ => opNone

noncomputable def readsO : Operand → Nat
  | .tmp t => Nat.shiftLeft 1 t
  | _ => 0
noncomputable def readsL : List Operand → Nat
  | [] => 0
  | x :: t => Nat.lor (readsO x) (readsL t)

/-- which temporaries an operation reads -/
noncomputable def readsT (ops : List Oper) (o : Oper) : Nat :=
  Nat.lor (readsL o.op.operands.toList)
    (match o.guard with
     | none => 0
     | some (j, _) => match nth ops j with | some g => (match g.dst with | some d => Nat.shiftLeft 1 d | none => 0) | none => 0)
noncomputable def writesT (o : Oper) : Nat := match o.dst with | some d => Nat.shiftLeft 1 d | none => 0

noncomputable def putD (l : Tmps) (d : Option Tmp) (v : Value) : Tmps := match d with | some t => lset l t v | none => l

/-- is the operation to be carried out? none: it isn't known -/
noncomputable def wantedD (ops : List Oper) (l : Tmps) (o : Oper) : Option Bool :=
  match o.guard with
  | none => some true
  | some g =>
    match nth ops g.1 with
    | some q => (match q.dst with
      | some d => (match lget l d with
        | .bool b => some (b == g.2)
        | .tuple _ => none
        | _ => some false)
      | none => none)
    | none => none

noncomputable def nextOp (l : Tmps) (d : Option Tmp) (ih : Tmps → St → Option (Tmps × St)) (r : Option (Value × St)) : Option (Tmps × St) := match r with
  | some x => ih (putD l d x.1) x.2
  | none => none
noncomputable def opsStep (f : OpF) (d : Option Tmp) (w : Tmps → Option Bool) (ih : Tmps → St → Option (Tmps × St)) : Tmps → St → Option (Tmps × St) := fun l s =>
  match w l with
  | some t => (match t with
    | true => nextOp l d ih (f l s)
    | false => ih (putD l d skp) s)
  | none => none
/-- The operations one behind the other. -/
noncomputable def opsD (call : Call) (all : List Oper) (ops : List Oper) : Tmps → St → Option (Tmps × St) :=
  List.rec (fun l s => some (l, s)) (fun o _ ih => opsStep (opD P call o) o.dst (fun l => wantedD all l o) ih) ops

/-- what an operation of a region that draws its order has touched: temporaries read, written; blocks read, written; which stand ahead of it -/
structure Foot where
  rt : Nat
  wt : Nat
  rd : Nat
  wr : Nat
  before : Nat

noncomputable def beforeOf (done : List Foot) (es : List Edge) : Nat :=
  match es with
  | [] => 0
  | e :: t => Nat.lor (match e.ground with | .textOnly _ | .gcOnly _ => 0 | _ => Nat.lor (Nat.shiftLeft 1 e.on) (match nth done e.on with | some f => f.before | none => 0)) (beforeOf done t)

noncomputable def edgesOk (i : Nat) : List Edge → Bool
  | [] => true
  | e :: t => (match e.ground with | .textOnly _ | .gcOnly _ => true | _ => Nat.ble (e.on + 1) i) && edgesOk i t

noncomputable def apart (a b : Foot) : Bool :=
  Nat.beq (Nat.land a.wt (Nat.lor b.rt b.wt)) 0 && Nat.beq (Nat.land b.wt a.rt) 0 &&
  Nat.beq (Nat.land a.wr (Nat.lor b.rd b.wr)) 0 && Nat.beq (Nat.land b.wr a.rd) 0

/-- the new one's foot against those of the done ones that do not stand ahead of it -/
noncomputable def apartAll (f : Foot) : Nat → List Foot → Bool
  | _, [] => true
  | i, g :: t => (Nat.testBit f.before i || apart g f) && apartAll f (i + 1) t

/-- what a load has loaded: type, address, value -/
abbrev Soft := Option (TypeId × Value × Value)
noncomputable def sameA : Option Addr → Option Addr → Bool
  | none, none => true
  | some ⟨i, o, none⟩, some ⟨j, p, none⟩ => Nat.beq i j && Nat.beq o p
  | _, _ => false
/-- the same, for sure -/
noncomputable def sameV (a b : Value) : Bool :=
  match a, b with
  | .pointer a, .pointer b => sameA a b
  | .slice a n c, .slice b m d => sameA a b && (Nat.beq n m && Nat.beq c d)
  | a, b => (match cellEq a b with | some r => r | none => false)
/-- apart, but for what the new one (b) writes where the old one (a) has read -/
noncomputable def apartS (a b : Foot) : Bool :=
  Nat.beq (Nat.land a.wt (Nat.lor b.rt b.wt)) 0 && Nat.beq (Nat.land b.wt a.rt) 0 &&
  Nat.beq (Nat.land a.wr (Nat.lor b.rd b.wr)) 0
/-- a load comes to the same behind the new one -/
noncomputable def softOne (x : Option Soft) (s : St) : Option St :=
  match x with
  | some y => (match y with
    | some z => (match loadD P s z.1 z.2.1 with
      | some r => (match sameV z.2.2 r.1 with | true => some r.2 | false => none)
      | none => none)
    | none => none)
  | none => none
noncomputable def softGo (f : Foot) : Nat → List Foot → List Soft → St → Option St
  | _, [], _, s => some s
  | i, g :: t, sl, s => (match Nat.testBit f.before i || apart g f with
    | true => softGo f (i + 1) t sl.tail s
    | false => (match apartS g f with
      | true => (match softOne P sl.head? s with
        | some s' => softGo f (i + 1) t sl.tail s'
        | none => none)
      | false => none))
noncomputable def softOf (all : List Oper) (o : Oper) (l : Tmps) (v : Value) : Soft :=
  match o.op with
  | .load t a => (match wantedD all l o with
    | some b => (match b with | true => some (t, evalO l a, v) | false => none)
    | none => none)
  | _ => none

noncomputable def drawGo (f : Foot) (done : List Foot) (sl : List Soft) (next : Tmps → St → Option (Tmps × St)) (l : Tmps) (s : St) : Option (Tmps × St) :=
  match softGo P f 0 done sl s with
  | some s' => next l s'
  | none => none
noncomputable def drawStep (all : List Oper) (o : Oper) (done : List Foot) (sl : List Soft) (next : List Foot → List Soft → Tmps → St → Option (Tmps × St)) (l : Tmps) (s : St) (r : Option (Value × St)) : Option (Tmps × St) :=
  match r with
  | some x => (fun f : Foot => drawGo P f done sl (next (done ++ [f]) (sl ++ [softOf all o l x.1])) (putD l o.dst x.1) { h := x.2.h, next := x.2.hi, hi := Nat.max s.hi x.2.hi, rd := Nat.lor s.rd x.2.rd, wr := Nat.lor s.wr x.2.wr })
      { rt := readsT all o, wt := writesT o, rd := x.2.rd, wr := x.2.wr, before := beforeOf done o.after.toList }
  | none => none
noncomputable def wantRun (f : OpF) (w : Tmps → Option Bool) : OpF := fun l s => match w l with
  | some t => (match t with | true => f l s | false => some (skp, s))
  | none => none
/-- A region that draws its order: in the order of the text; none where another order might come to something else. 'done': the feet so far, in order. -/
noncomputable def drawD (call : Call) (all : List Oper) (ops : List Oper) : List Foot → List Soft → Tmps → St → Option (Tmps × St) :=
  List.rec (fun _ _ l s => some (l, s)) (fun o _ ih done sl l s =>
    match edgesOk done.length o.after.toList with
    | true => drawStep P all o done sl ih l s (wantRun (opD P call o) (fun l => wantedD all l o) l { h := s.h, next := s.next, hi := s.next, rd := 0, wr := 0 })
    | false => none) ops

inductive Ex where
  | normal
  | exit (id : Nat)
  | ret

abbrev CodeF := Tmps → St → Option (Ex × Tmps × St)
noncomputable def cDone (e : Ex) : CodeF := fun l s => some (e, l, s)
noncomputable def cNone : CodeF := fun _ _ => none
noncomputable def ofTS (r : Option (Tmps × St)) : Option (Ex × Tmps × St) := match r with | some x => some (.normal, x.1, x.2) | none => none
noncomputable def cDraw (call : Call) (ops : List Oper) : CodeF := fun l s => ofTS (drawD P call ops ops [] [] l s)
noncomputable def cOps (call : Call) (ops : List Oper) : CodeF := fun l s => ofTS (opsD P call ops ops l s)
noncomputable def andThen (f : CodeF) (r : Option (Ex × Tmps × St)) : Option (Ex × Tmps × St) := match r with
  | some x => match x.1 with | .normal => f x.2.1 x.2.2 | e => some (e, x.2.1, x.2.2)
  | none => none
noncomputable def cSeq (f g : CodeF) : CodeF := fun l s => andThen g (f l s)
noncomputable def cCond (c : Operand) (f g : CodeF) : CodeF := fun l s => match evalO l c with
  | .bool t => match t with | true => f l s | false => g l s
  | _ => none
noncomputable def unblock (id : Nat) (r : Option (Ex × Tmps × St)) : Option (Ex × Tmps × St) := match r with
  | some x => match x.1 with
    | .exit i => match Nat.beq i id with | true => some (.normal, x.2.1, x.2.2) | false => some (.exit i, x.2.1, x.2.2)
    | e => some (e, x.2.1, x.2.2)
  | none => none
noncomputable def cBlock (id : Nat) (f : CodeF) : CodeF := fun l s => unblock id (f l s)

noncomputable def cLoop (k : Nat) (f : CodeF) : CodeF := Nat.rec (fun _ _ => none) (fun _ ih => cSeq f ih) k
/-- A piece of code; a loop has at most k rounds. -/
noncomputable def codeD (call : Call) (k : Nat) (c : Code) : CodeF :=
  Code.rec (motive := fun _ => CodeF)
    (cDone .normal)                                                                                                -- skip
    (fun _ ops draw => match draw with | true => cDraw P call ops.toList | false => cOps P call ops.toList)       -- region
    (fun _ _ fa fb => cSeq fa fb)                                                                                  -- seq
    (fun c _ _ fa fb => cCond c fa fb)                                                                             -- cond
    (fun id _ fa => cBlock id fa)                                                                                  -- block
    (fun _ fa => cLoop k fa)                                                                                       -- loop
    (fun _ _ _ _ _ _ => cNone)                                                                                     -- rangeFunc
    (fun id => cDone (.exit id))                                                                                   -- exit
    (fun _ _ => cNone)                                                                                             -- scope
    (fun _ => cNone) (fun _ => cNone)                                                                              -- label, goto
    (cDone .ret) (fun _ => cNone) c

noncomputable def resD (l : Tmps) (s : St) : List ResultVar → Option (List Value × St)
  | [] => some ([], s)
  | .tmp t :: rest => match resD l s rest with | some (vs, s) => some (lget l t :: vs, s) | none => none
  | .cell a t :: rest => match loadD P s t (lget l a) with
    | some (v, s) => (match resD l s rest with | some (vs, s) => some (v :: vs, s) | none => none)
    | none => none

noncomputable def inTab (args : List Value) : Nat → Tmps
  | 0 => []
  | k + 1 => match args with
    | a :: b :: c :: d :: e :: f :: g :: h :: t => [a, b, c, d, e, f, g, h] :: inTab t k
    | [] => []
    | l => [l]

noncomputable def valOf : List Value → Value
  | [v] => v
  | vs => .tuple vs.toArray
noncomputable def gcD (s : St) (v : Value) (s' : St) : Option (Value × St) :=
  match flat v && (Nat.beq (Nat.mod s'.wr (Nat.shiftLeft 1 s.next)) 0 && Nat.ble (Nat.lor s'.rd s'.wr + 1) (Nat.shiftLeft 1 s'.next)) with
  | true => some (v, { h := s.h, next := s.next, hi := s'.hi, rd := Nat.lor s.rd (Nat.mod s'.rd (Nat.shiftLeft 1 s.next)), wr := s.wr })
  | false => some (v, { h := s'.h, next := s'.next, hi := s'.hi, rd := s'.rd, wr := Nat.lor s.wr s'.wr })
noncomputable def endRes (s : St) (r : Option (List Value × St)) : Option (Value × St) := match r with
  | some x => gcD s (valOf x.1) x.2
  | none => none
noncomputable def endD (fn : Func) (s : St) (r : Option (Ex × Tmps × St)) : Option (Value × St) := match r with
  | some x => match x.1 with
    | .exit _ => none
    | _ => endRes s (resD P x.2.1 x.2.2 fn.results.toList)
  | none => none
noncomputable def enterD (run : Code → CodeF) (fn : Func) (c : Code) (args : List Value) (s : St) : Option (Value × St) :=
  match Nat.ble args.length fn.ntmps with
  | true => endD P fn s (run c (inTab args 8) { h := s.h, next := s.next, hi := s.hi, rd := s.rd, wr := 0 })
  | false => none
noncomputable def bodyD (run : Code → CodeF) (fn : Option Func) (args : List Value) (s : St) : Option (Value × St) := match fn with
  | some fn => match fn.body with
    | some c => enterD P run fn c args s
    | none => none
  | none => none
/-- A call: at most k deep; loops of at most n rounds; 'intr': what is answered by itself. -/
noncomputable def callD (intr : FuncId → Option (List Value → St → Option (Value × St))) (n k : Nat) : Call :=
  Nat.rec (fun _ _ _ => none) (fun _ ih f =>
    match intr f with
    | some g => g
    | none => bodyD P (codeD P ih n) (nth P.funcs.toList f)) k

end Go.Det

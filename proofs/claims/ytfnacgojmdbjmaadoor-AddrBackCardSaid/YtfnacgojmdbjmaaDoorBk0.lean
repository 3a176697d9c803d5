/- Texts of a proof, joined: words of the print (those that are named here) and printed functions. -/
import GoSem.Dispatch
import Derived.Calls
import Derived.Laws.Sem
import Derived.DeepKeys3
import Derived.StringKeys
import Derived.Laws.Cells
import Derived.Laws.IdiomCopy
import Derived.Laws.BitsLemmas
import Derived.Laws.StructEq
set_option linter.unusedSimpArgs false
set_option linter.unusedVariables false

section
/- A part of an evaluator of closed runs and of its soundness. -/
namespace Go.Det
inductive Ob where
  | mp (es : List (Value × Value × Nat)) (ck : Nat)
  | it (m : Option Nat) (since : Nat) (seen : List Nat) (last : Nat)
  deriving Inhabited
inductive Blk where
  | cells (cs : List Value) (elem : TypeId) (ro : Bool)
  | ob (o : Ob)
  | dead
  deriving Inhabited
noncomputable def lgetR {α : Type} (d : α) (l : List α) : Nat → α :=
  List.rec (fun _ => d) (fun v _ ih n => Nat.rec v (fun m _ => ih m) n) l
noncomputable def lsetR {α : Type} (d v : α) (l : List α) : Nat → List α :=
  List.rec (fun n => Nat.rec [v] (fun _ ih => d :: ih) n) (fun x t ih n => Nat.rec (v :: t) (fun m _ => x :: ih m) n) l
abbrev Tab (α : Type) := List (List α)
noncomputable def Tab.get {α : Type} (d : α) (l : Tab α) (n : Nat) : α := lgetR d (lgetR [] l (Nat.div n 8)) (Nat.mod n 8)
noncomputable def Tab.set {α : Type} (d : α) (l : Tab α) (n : Nat) (v : α) : Tab α :=
  lsetR [] (lsetR d v (lgetR [] l (Nat.div n 8)) (Nat.mod n 8)) l (Nat.div n 8)
abbrev Heap := Tab (Option Blk)
noncomputable def Heap.get (h : Heap) (n : Nat) : Option Blk := Tab.get none h n
noncomputable def Heap.set (h : Heap) (n : Nat) (b : Blk) : Heap := Tab.set none h n (some b)
structure St where
  h : Heap
  next : Nat
  hi : Nat
  rd : Nat
  wr : Nat
  deriving Inhabited
noncomputable def capU : Nat := 1208925819614629174706176
noncomputable def und : Value := .tuple #[]
abbrev skp : Value := .float .f64 0
abbrev emp : Value := .float .f64 1
noncomputable def St.read (s : St) (id : Nat) : St := { h := s.h, next := s.next, hi := s.hi, rd := Nat.lor s.rd (Nat.shiftLeft 1 id), wr := s.wr }
noncomputable def St.write (s : St) (id : Nat) (b : Blk) : St := { h := s.h.set id b, next := s.next, hi := s.hi, rd := Nat.lor s.rd (Nat.shiftLeft 1 id), wr := Nat.lor s.wr (Nat.shiftLeft 1 id) }
noncomputable def St.new (s : St) (b : Blk) : St := { h := s.h.set s.next b, next := s.next + 1, hi := Nat.max s.hi (s.next + 1), rd := s.rd, wr := Nat.lor s.wr (Nat.shiftLeft 1 s.next) }
abbrev Tmps := Tab Value
noncomputable def lget (l : Tmps) (n : Nat) : Value := Tab.get und l n
noncomputable def lset (l : Tmps) (n : Nat) (v : Value) : Tmps := Tab.set und l n v
noncomputable def ltake (n : Nat) : List Value → Option (List Value) :=
  Nat.rec (fun _ => some []) (fun _ ih l => match l with
    | [] => none
    | v :: t => match ih t with | some r => some (v :: r) | none => none) n
noncomputable def ldrop (n : Nat) : List Value → List Value :=
  Nat.rec (fun l => l) (fun _ ih l => match l with | [] => [] | _ :: t => ih t) n
noncomputable def lput0 (l ws : List Value) : Option (List Value) :=
  (List.rec (motive := fun _ => List Value → Option (List Value)) (fun l => some l) (fun w _ ih l => match l with
    | [] => none
    | _ :: t => match ih t with | some r => some (w :: r) | none => none) ws) l
noncomputable def lput (l : List Value) (n : Nat) (ws : List Value) : Option (List Value) :=
  (Nat.rec (motive := fun _ => List Value → Option (List Value)) (fun l => lput0 l ws) (fun _ ih l => match l with
    | [] => none
    | x :: t => match ih t with | some r => some (x :: r) | none => none) n) l
noncomputable def one1 : Value → Bool
  | .float .f64 1 => true
  | .agg _ | .tuple _ | .float _ _ => false
  | _ => true
noncomputable def oneL : List Value → Bool
  | [] => true
  | v :: t => one1 v && oneL t
noncomputable def isUnd : Value → Bool
  | .tuple vs => vs.toList.isEmpty
  | _ => false
noncomputable def flat1 : Value → Bool
  | .bool _ | .int .. | .string _ | .nilFunc | .nilIface => true
  | .pointer none | .map none => true
  | .slice none _ c => Nat.beq c 0
  | .func _ f c => f.toList.isEmpty && c.toList.isEmpty
  | _ => false
noncomputable def flatL : List Value → Bool
  | [] => true
  | v :: t => flat1 v && flatL t
noncomputable def flat2 : Value → Bool
  | .agg cs => flatL cs.toList
  | .iface _ v => flat1 v
  | v => flat1 v
noncomputable def flat2L : List Value → Bool
  | [] => true
  | v :: t => flat2 v && flat2L t
noncomputable def flat : Value → Bool
  | .tuple vs => flat2L vs.toList
  | v => flat2 v
noncomputable def pureRun (P : Program) {α : Type} : Sem α → Option α
  | .pure a => some a
  | .program k => pureRun P (k P)
  | .mark _ k => pureRun P k
  | _ => none
noncomputable def cellsOfV : Value → List Value
  | .agg cs => cs.toList
  | v => [v]
variable (P : Program)
noncomputable def typ (t : TypeId) : Option TypeDesc := P.underlying t
noncomputable def szOf (t : TypeId) : Option Nat := match P.info? t with | some i => some i.size | none => none
noncomputable def zeroOf (t : TypeId) : Option Value := match P.info? t with
  | some i => match i.zero with | some z => if flat2 z && Nat.beq (cellsOfV z).length i.size then some z else none | none => none
  | none => none
noncomputable def isAggB (t : TypeId) : Option Bool := match P.underlying t with | some (.struct _) | some (.array _ _) => some true | some _ => some false | none => none
noncomputable def evalO (l : Tmps) : Operand → Value
  | .tmp t => lget l t
  | .const v => v
  | .global g => .pointer (some ⟨g, 0, none⟩)
  | .func f => .func (.func f) #[] #[]
noncomputable def loadD (s : St) (t : TypeId) (a : Value) : Option (Value × St) :=
  match a with
  | .pointer (some ⟨id, off, none⟩) =>
    match s.h.get id with
    | some (.cells cs _ _) =>
      match isAggB P t with
      | some true => match szOf P t with
        | some n => match ltake n (ldrop off cs) with
          | some r => some (.agg r.toArray, s.read id)
          | none => none
        | none => none
      | some false => match ldrop off cs with
        | v :: _ => some (v, s.read id)
        | [] => none
      | none => none
    | _ => none
  | _ => none
noncomputable def storeD (s : St) (t : TypeId) (a v : Value) : Option St :=
  match a with
  | .pointer (some ⟨id, off, none⟩) =>
    match s.h.get id with
    | some (.cells cs e false) =>
      match szOf P t with
      | some n =>
        let ws := cellsOfV v
        if Nat.beq ws.length n && oneL ws then
          match lput cs off ws with
          | some cs' => some (s.write id (.cells cs' e false))
          | none => none
        else none
      | none => none
    | _ => none
  | _ => none
noncomputable def srcCells (s : St) (size n : Nat) : Value → Option (List Value × St)
  | .slice (some ⟨id, off, none⟩) _ _ =>
    if Nat.beq (n * size) 0 then some ([], s) else
    match s.h.get id with
    | some (.cells cs _ _) => match ltake (n * size) (ldrop off cs) with
      | some r => some (r, s.read id)
      | none => none
    | _ => none
  | .slice none _ _ => if Nat.beq n 0 then some ([], s) else none
  | .float .f64 1 => if Nat.beq n 0 then some ([], s) else none
  | .string b => if Nat.beq size 1 then
      (match ltake n (b.data.toList.map fun x => Value.int .u8 x.toNat) with
       | some r => some (r, s)
       | none => none) else none
  | _ => none
noncomputable def lenD : Value → Option Nat
  | .float .f64 1 => some 0
  | .slice _ n _ => some n
  | .string b => some b.size
  | _ => none
noncomputable def repeatL (zs : List Value) : Nat → List Value
  | 0 => []
  | n + 1 => zs ++ repeatL zs n
noncomputable def appZeros (rest : List TypeId) : Option Bool :=
  match rest with
  | [] => some false
  | xT :: _ => match typ P xT with
    | some (.int _) => some true
    | some _ => some false
    | none => none
noncomputable def appSrc (s : St) (elem : TypeId) (size bytes : Nat) (zeros : Bool) (x : Value) : Option (Nat × List Value × St) :=
  match zeros with
  | true => match x with
    | .int _ m => if 0 ≤ m ∧ m < 1048576 then
        (match zeroOf P elem with
         | some z => if Nat.ble (m.toNat * bytes) 1099511627776 then some (m.toNat, repeatL (cellsOfV z) m.toNat, s) else none
         | none => none) else none
    | _ => none
  | false => match lenD x with
    | some m => match srcCells s size m x with
      | some r => some (m, r.1, r.2)
      | none => none
    | none => none
noncomputable def appInPlace (s : St) (id off at_ need c : Nat) (cs : List Value) (e : TypeId) (ws : List Value) : Option (Value × St) :=
  match lput cs at_ ws with
  | some cs' => some (.slice (some ⟨id, off, none⟩) need c, s.write id (.cells cs' e false))
  | none => none
noncomputable def appMove (s : St) (id : Nat) (elem : TypeId) (size need : Nat) (old ws : List Value) : Value × St :=
  (.slice (some ⟨s.next, 0, none⟩) need (capU + size), (s.write id .dead).new (.cells (old ++ ws) (2 * elem) false))
noncomputable def appNew (s : St) (elem : TypeId) (size need : Nat) (old ws : List Value) : Value × St :=
  (.slice (some ⟨s.next, 0, none⟩) need (capU + size), s.new (.cells (old ++ ws) (2 * elem) false))
noncomputable def appTo (s : St) (elem : TypeId) (size : Nat) (base : Option Addr) (n c m : Nat) (ws : List Value) : Option (Value × St) :=
  match base with
  | none => if Nat.beq c 0 && Nat.beq n 0 then some (appNew s elem size m [] ws) else none
  | some ⟨id, off, none⟩ =>
    match s.h.get id with
    | some (.cells cs e ro) =>
      if Nat.ble capU c then
        if Nat.beq c (capU + size) && (!ro && Nat.beq e (2 * elem)) then
          if Nat.ble (off + (n + m) * size) cs.length then appInPlace s id off (off + n * size) (n + m) c cs e ws
          else match ltake (n * size) (ldrop off cs) with
            | some old => some (appMove s id elem size (n + m) old ws)
            | none => none
        else none
      else if Nat.ble (n + m) c then
        if !ro then appInPlace s id off (off + n * size) (n + m) c cs e ws else none
      else match ltake (n * size) (ldrop off cs) with
        | some old => some (appNew (s.read id) elem size (n + m) old ws)
        | none => none
    | _ => none
  | _ => none
noncomputable def appGo (s : St) (elem : TypeId) (size bytes : Nat) (base : Option Addr) (n c m : Nat) (ws : List Value) : Option (Value × St) :=
  if Nat.beq m 0 then (if Nat.ble capU c || Nat.ble n c then some (.slice base n c, s) else none)
  else if Nat.ble 1 size && (Nat.ble ((n + m) * bytes) 1099511627776 && (oneL ws && Nat.ble (n + m) 1099511627776)) then
    (match zeroOf P elem with
     | some _ => appTo s elem size base n c m ws
     | none => none)
  else none
noncomputable def appendD (s : St) (argTypes : Array TypeId) (args : List Value) : Option (Value × St) :=
  match argTypes.toList, args with
  | sT :: rest, [.slice base n c, x] =>
    match typ P sT with
    | some (.slice elem) =>
      match P.info? elem, appZeros P rest with
      | some ei, some zeros =>
        match appSrc P s elem ei.size ei.bytes zeros x with
        | some r => appGo P r.2.2 elem ei.size ei.bytes base n c r.1 r.2.1
        | none => none
      | _, _ => none
    | _ => none
  | _, _ => none
noncomputable def copyTo (s : St) (k : Nat) (base : Option Addr) (ws : List Value) : Option (Value × St) :=
  match ws with
  | [] => some (.int .i64 (k : Nat), s)
  | w1 :: ws =>
    if oneL (w1 :: ws) then
      match base with
      | some ⟨id, off, none⟩ =>
        (match s.h.get id with
         | some (.cells cs e false) =>
           match lput cs off (w1 :: ws) with
           | some cs' => some (.int .i64 (k : Nat), s.write id (.cells cs' e false))
           | none => none
         | _ => none)
      | _ => none
    else none
noncomputable def copyD (s : St) (argTypes : Array TypeId) (args : List Value) : Option (Value × St) :=
  match argTypes.toList, args with
  | dT :: _, [.slice base n _, x] =>
    match typ P dT with
    | some (.slice elem) =>
      match szOf P elem, lenD x with
      | some size, some m =>
        match srcCells s size (Nat.min m n) x with
        | some r => copyTo r.2 (Nat.min m n) base r.1
        | none => none
      | _, _ => none
    | _ => none
  | _, _ => none
noncomputable def clearTo (s : St) (base : Option Addr) (ws : List Value) : Option (Value × St) :=
  match oneL ws, base with
  | true, some ⟨id, off, none⟩ => (match s.h.get id with
    | some (.cells cs e false) => (match lput cs off ws with
      | some cs' => some (und, s.write id (.cells cs' e false))
      | none => none)
    | _ => none)
  | _, _ => none
noncomputable def clearD (s : St) (argTypes : Array TypeId) (args : List Value) : Option (Value × St) :=
  match argTypes.toList, args with
  | [dT], [x] => (match typ P dT with
    | some (.slice elem) => (match x with
      | .float .f64 1 => some (und, s)
      | .slice base n _ => (match n with
        | 0 => some (und, s)
        | m + 1 => (match zeroOf P elem with
          | some z => clearTo s base (repeatL (cellsOfV z) (m + 1))
          | none => none))
      | _ => none)
    | _ => none)
  | _, _ => none
noncomputable def natOf : Value → Option Nat
  | .int _ n => if 0 ≤ n then some n.toNat else none
  | _ => none
noncomputable def bound : Option Value → Nat → Option Nat
  | none, d => some d
  | some v, _ => natOf v
noncomputable def boundsD (lo hi mx : Option Value) (len cap : Nat) : Option (Nat × Nat × Nat) :=
  match mx with
  | none => match bound lo 0, bound hi len with
    | some l, some h => if Nat.ble l h && Nat.ble h cap then some (l, h, cap) else none
    | _, _ => none
  | some mv => match hi with
    | none => none
    | some hv => match natOf mv, natOf hv, bound lo 0 with
      | some m, some h, some l => if Nat.ble m cap && (Nat.ble h m && Nat.ble l h) then some (l, h, m) else none
      | _, _, _ => none
noncomputable def sliceStr (x : Value) (lo hi mx : Option Value) : Option Value :=
  match x with
  | .string b => match mx with
    | none => match boundsD lo hi none b.size b.size with
      | some r => some (.string (b.extract r.1 r.2.1))
      | none => none
    | some _ => none
  | _ => none
noncomputable def sliceKnown (a : Option Addr) (size : Nat) (r : Nat × Nat × Nat) : Option Value :=
  match a with
  | none => some (.slice none (r.2.1 - r.1) (r.2.2 - r.1))
  | some ⟨id, off, none⟩ => some (.slice (some ⟨id, if Nat.beq r.2.2 r.1 then off else off + r.1 * size, none⟩) (r.2.1 - r.1) (r.2.2 - r.1))
  | _ => none
noncomputable def sliceSl (elem : TypeId) (x : Value) (lo hi mx : Option Value) : Option Value :=
  match x with
  | .slice a n c =>
    match szOf P elem with
    | some size =>
      if Nat.ble capU c then
        if Nat.beq c (capU + size) && Nat.ble n 1099511627776 then
          match boundsD lo hi mx n n with
          | some r => match mx with
            | some _ => sliceKnown a size r
            | none => if Nat.beq r.1 0 || Nat.ble (r.1 + 1) n then (match a with
              | some ⟨id, off, none⟩ => some (.slice (some ⟨id, off + r.1 * size, none⟩) (r.2.1 - r.1) c)
              | _ => none) else some emp
          | none => none
        else none
      else match boundsD lo hi mx n c with
        | some r => sliceKnown a size r
        | none => none
    | none => none
  | _ => none
noncomputable def sliceArr (n : Nat) (elem : TypeId) (x : Value) (lo hi mx : Option Value) : Option Value :=
  match x with
  | .pointer a => match a with
    | none => none
    | some a => match szOf P elem with
      | some size => if Nat.ble n 1099511627776 then (match boundsD lo hi mx n n with
        | some r => sliceKnown (some a) size r
        | none => none) else none
      | none => none
  | _ => none
noncomputable def sliceD (t : TypeId) (x : Value) (lo hi mx : Option Value) : Option Value :=
  match typ P t with
  | some .string => sliceStr x lo hi mx
  | some (.slice elem) => sliceSl P elem x lo hi mx
  | some (.pointer arr) => (match typ P arr with | some (.array n elem) => sliceArr P n elem x lo hi mx | _ => none)
  | some (.array n elem) => sliceArr P n elem x lo hi mx
  | _ => none
noncomputable def fieldAddrD (st : TypeId) (x : Value) (f : Nat) : Option Value :=
  match typ P st, x with
  | some (.struct fs), .pointer (some ⟨id, off, none⟩) =>
    match fs[f]? with
    | some fd => match szOf P fd.type with
      | some n => if Nat.beq n 0 then none else some (.pointer (some ⟨id, off + fd.offset, none⟩))
      | none => none
    | none => none
  | _, _ => none
noncomputable def indexAddrD (t : TypeId) (x ix : Value) : Option Value :=
  match typ P t, x, natOf ix with
  | some (.slice elem), .slice (some ⟨id, off, none⟩) n _, some i =>
    match szOf P elem with
    | some size => if Nat.ble n i then none else some (.pointer (some ⟨id, off + i * size, none⟩))
    | none => none
  | some (.array n elem), .pointer (some ⟨id, off, none⟩), some i =>
    match szOf P elem with
    | some size => if Nat.ble n i then none else some (.pointer (some ⟨id, off + i * size, none⟩))
    | none => none
  | _, _, _ => none
noncomputable def partD (t : TypeId) (cs : List Value) (off : Nat) : Option Value :=
  match isAggB P t with
  | some true => match szOf P t with
    | some n => match ltake n (ldrop off cs) with | some r => some (.agg r.toArray) | none => none
    | none => none
  | some false => match ldrop off cs with | v :: _ => some v | [] => none
  | none => none
noncomputable def fieldD (t : TypeId) (x : Value) (f : Nat) : Option Value :=
  match typ P t, x with
  | some (.struct fs), .agg cs => match fs[f]? with | some fd => partD P fd.type cs.toList fd.offset | none => none
  | _, _ => none
noncomputable def indexD (t : TypeId) (x ix : Value) : Option Value :=
  match typ P t, x, natOf ix with
  | some (.array n elem), .agg cs, some i =>
    match szOf P elem with
    | some size => if Nat.ble n i then none else partD P elem cs.toList (i * size)
    | none => none
  | some .string, .string b, some i => match ldrop i (b.data.toList.map fun x => Value.int .u8 x.toNat) with | v :: _ => some v | [] => none
  | _, _, _ => none
noncomputable def fillL (place : Nat → Option (Nat × Nat)) (cells : List Value) : List (Nat × Value) → Option (List Value)
  | [] => some cells
  | (i, v) :: rest =>
    match place i with
    | none => none
    | some (off, size) =>
      if Nat.beq (cellsOfV v).length size && !isUnd v then
        match lput cells off (cellsOfV v) with
        | some c => fillL place c rest
        | none => none
      else none
noncomputable def placesD : List Field → Option (List (Nat × Nat))
  | [] => some []
  | f :: t => match szOf P f.type, placesD t with | some n, some r => some ((f.offset, n) :: r) | _, _ => none
noncomputable def nth {α : Type} : List α → Nat → Option α
  | [], _ => none
  | a :: _, 0 => some a
  | _ :: t, n + 1 => nth t n
noncomputable def buildD (t : TypeId) (parts : List (Nat × Value)) : Option Value :=
  match zeroOf P t with
  | some z =>
    match typ P t with
    | some (.struct fs) =>
      match placesD P fs.toList with
      | some pl => match fillL (nth pl) (cellsOfV z) parts with
        | some cs => some (.agg cs.toArray)
        | none => none
      | none => none
    | some (.array _ elem) =>
      match szOf P elem with
      | some size => match fillL (fun i => some (i * size, size)) (cellsOfV z) parts with
        | some cs => some (.agg cs.toArray)
        | none => none
      | none => none
    | _ => none
  | none => none
noncomputable def buildSliceD (s : St) (t : TypeId) (len : Nat) (parts : List (Nat × Value)) : Option (Value × St) :=
  match typ P t with
  | some (.slice elem) =>
    match szOf P elem, zeroOf P elem with
    | some size, some z =>
      if Nat.ble (len * size) 65536 && Nat.ble 1 size then
        match fillL (fun i => some (i * size, size)) (repeatL (cellsOfV z) len) parts with
        | some cs => some (.slice (some ⟨s.next, 0, none⟩) len len, s.new (.cells cs (2 * elem + 1) false))
        | none => none
      else none
    | _, _ => none
  | _ => none
noncomputable def makeSliceD (s : St) (t : TypeId) (len cap : Value) : Option (Value × St) :=
  match typ P t, natOf len, natOf cap with
  | some (.slice elem), some l, some c =>
    match P.info? elem with
    | some ei => match zeroOf P elem with
      | some z =>
        if Nat.ble l c && Nat.ble c 1048576 && Nat.ble (c * ei.bytes) 1099511627776 then
          some (.slice (some ⟨s.next, 0, none⟩) l c, s.new (.cells (repeatL (cellsOfV z) c) (2 * elem + 1) false))
        else none
      | none => none
    | none => none
  | _, _, _ => none
noncomputable def bytesL : List Value → Option (List UInt8)
  | [] => some []
  | .int .u8 n :: t => match bytesL t with | some r => some (UInt8.ofNat n.toNat :: r) | none => none
  | _ :: _ => none
noncomputable def convStr (s : St) (dst : Option TypeDesc) (b : ByteArray) : Option (Value × St) :=
  match dst with
  | some (.slice e) => (match typ P e with
    | some (.int .u8) => some (.slice (some ⟨s.next, 0, none⟩) b.size (capU + 1), s.new (.cells (b.data.toList.map fun x => Value.int .u8 x.toNat) (2 * e) false))
    | _ => none)
  | some .string => some (.string b, s)
  | _ => none
noncomputable def convSlice (s : St) (src dst : Option TypeDesc) (a : Option Addr) (n : Nat) : Option (Value × St) :=
  match src, dst with
  | some (.slice e), some .string => (match typ P e with
    | some (.int .u8) => (match a with
      | none => some (.string .empty, s)
      | some ⟨id, off, none⟩ =>
        (match s.h.get id with
         | some (.cells cs _ _) => (match ltake n (ldrop off cs) with
           | some r => (match bytesL r with | some bs => some (.string ⟨bs.toArray⟩, s.read id) | none => none)
           | none => none)
         | _ => none)
      | _ => none)
    | _ => none)
  | _, _ => none
noncomputable def convSame (s : St) (d : Option TypeDesc) (a : Option Addr) (n c : Nat) : Option (Value × St) :=
  match d with
  | some (.slice e) => (match typ P e with
    | some (.int .u8) => (match a with
      | some ⟨id, off, none⟩ => (match s.h.get id with
        | some (.cells cs el false) => some (.slice (some ⟨id, off, none⟩) n c, s.write id (.cells cs el true))
        | _ => none)
      | _ => none)
    | _ => none)
  | _ => none
noncomputable def convPtr (s : St) (src dst : Option TypeDesc) (a : Option Addr) : Option (Value × St) :=
  match src, dst with
  | some (.pointer t), some .unsafePointer => (match a with
    | none => some (.pointer none, s)
    | some ⟨id, off, none⟩ => (match s.h.get id, szOf P t with
      | some (.cells cs _ _), some n => if Nat.ble 1 n && Nat.ble (off + 1) cs.length then some (.pointer (some ⟨id, off, none⟩), s.read id) else none
      | _, _ => none)
    | _ => none)
  | some .unsafePointer, some (.pointer u) => (match a with
    | none => some (.pointer none, s)
    | some ⟨id, 0, none⟩ => (match s.h.get id, szOf P u with
      | some (.cells cs e _), some n => if Nat.beq e (2 * u + 1) && (Nat.ble 1 n && Nat.ble n cs.length) then some (.pointer (some ⟨id, 0, none⟩), s.read id) else none
      | _, _ => none)
    | _ => none)
  | _, _ => none
noncomputable def convEmp (s : St) (src dst : Option TypeDesc) : Option (Value × St) :=
  match src, dst with
  | some (.slice e), some .string => (match typ P e with | some (.int .u8) => some (.string .empty, s) | _ => none)
  | _, _ => none
noncomputable def convertD (s : St) (src dst : TypeId) (x : Value) : Option (Value × St) :=
  match x with
  | .string b => (match typ P src with | some _ => convStr P s (typ P dst) b | none => none)
  | .slice a n c => (match Nat.beq src dst with | true => convSame P s (typ P src) a n c | false => convSlice P s (typ P src) (typ P dst) a n)
  | .pointer a => convPtr P s (typ P src) (typ P dst) a
  | .float .f64 1 => convEmp P s (typ P src) (typ P dst)
  | v => if flat2 v then (match pureRun P (convert src dst v) with | some r => if flat r then some (r, s) else none | none => none) else none
noncomputable def nilEq (d : Option TypeDesc) (a b : Value) : Option Bool :=
  match d with
  | some (.pointer _) => (match a, b with
    | .pointer (some _), .pointer none | .pointer none, .pointer (some _) => some false
    | _, _ => none)
  | some (.slice _) => (match a, b with
    | .slice (some _) _ _, .slice none _ _ | .slice none _ _, .slice (some _) _ _ => some false
    | _, _ => none)
  | some (.map _ _) => (match a, b with
    | .map (some _), .map none | .map none, .map (some _) => some false
    | _, _ => none)
  | some (.func _ _ _) => (match a, b with
    | .nilFunc, .func .. | .func .., .nilFunc => some false
    | _, _ => none)
  | some (.interface _) => (match a, b with
    | .iface .., .nilIface | .nilIface, .iface .. => some false
    | _, _ => none)
  | _ => none
noncomputable def ptrEq (t : TypeId) : Value → Value → Option Bool
  | .pointer (some ⟨i, o, none⟩), .pointer (some ⟨j, p, none⟩) =>
    if Nat.beq i j then
      match typ P t with
      | some (.pointer e) => match szOf P e with
        | some n => if Nat.beq n 0 then none else some (Nat.beq o p)
        | none => none
      | _ => none
    else none
  | a, b => nilEq (typ P t) a b
def shlI (k : IntKind) (m n : Int) : Int := k.wrap (m * 2 ^ (min n.toNat k.bits))
def shrI (k : IntKind) (m n : Int) : Int := m.fdiv (2 ^ (min n.toNat k.bits))
def andI (k : IntKind) (m n : Int) : Int := k.wrap (BitVec.ofInt k.bits m &&& BitVec.ofInt k.bits n).toNat
def orI (k : IntKind) (m n : Int) : Int := k.wrap (BitVec.ofInt k.bits m ||| BitVec.ofInt k.bits n).toNat
def xorI (k : IntKind) (m n : Int) : Int := k.wrap (BitVec.ofInt k.bits m ^^^ BitVec.ofInt k.bits n).toNat
def andNotI (k : IntKind) (m n : Int) : Int := k.wrap (BitVec.ofInt k.bits m &&& ~~~ BitVec.ofInt k.bits n).toNat
def strEq (a b : ByteArray) : Bool := a.data.toList == b.data.toList
def strLt (a b : ByteArray) : Bool := Op.bytesLess a.data.toList b.data.toList
noncomputable def intBin (op : BinOp) (k : IntKind) (a b : Int) : Option Value :=
  match op with
  | .add => some (.int k (k.wrap (a + b)))
  | .sub => some (.int k (k.wrap (a - b)))
  | .mul => some (.int k (k.wrap (a * b)))
  | .eql => some (.bool (a == b))
  | .neq => some (.bool (a != b))
  | .lss => some (.bool (decide (a < b)))
  | .leq => some (.bool (decide (a ≤ b)))
  | .gtr => some (.bool (decide (b < a)))
  | .geq => some (.bool (decide (b ≤ a)))
  | .quo => match decide (b = 0) with | true => none | false => some (.int k (k.wrap (a.tdiv b)))
  | .rem => match decide (b = 0) with | true => none | false => some (.int k (a.tmod b))
  | .and => some (.int k (andI k a b))
  | .or => some (.int k (orI k a b))
  | .xor => some (.int k (xorI k a b))
  | .andNot => some (.int k (andNotI k a b))
  | _ => none
noncomputable def shiftBin (op : BinOp) (k : IntKind) (a b : Int) : Option Value :=
  match op with
  | .shl => match decide (b < 0) with | true => none | false => some (.int k (shlI k a b))
  | .shr => match decide (b < 0) with | true => none | false => some (.int k (shrI k a b))
  | _ => none
noncomputable def strBin (op : BinOp) (a b : ByteArray) : Option Value :=
  match op with
  | .add => match Nat.ble (a.size + b.size) 9223372036854775807 with | true => some (.string (a ++ b)) | false => none
  | .eql => some (.bool (strEq a b))
  | .neq => some (.bool (!strEq a b))
  | .lss => some (.bool (strLt a b))
  | _ => none
noncomputable def kindEq (a b : IntKind) : Bool := match a, b with
  | .i64, .i64 | .u64, .u64 | .u8, .u8 | .i32, .i32 | .u32, .u32 | .u16, .u16 | .i16, .i16 | .i8, .i8 => true
  | _, _ => false
noncomputable def eqCells : List Nat → List Value → List Value → Option Bool
  | [], [], [] => some true
  | 0 :: ks, .int k a :: s, .int k' b :: t => match kindEq k k' with
    | true => (match eqCells ks s t with | some r => some ((a == b) && r) | none => none)
    | false => none
  | 1 :: ks, .bool a :: s, .bool b :: t => match eqCells ks s t with | some r => some ((a == b) && r) | none => none
  | 2 :: ks, .string a :: s, .string b :: t => match eqCells ks s t with | some r => some (strEq a b && r) | none => none
  | _, _, _ => none
noncomputable def plainFs (sh : TypeId → Option (List Nat)) : Nat → List Field → Option (List Nat)
  | _, [] => some []
  | off, f :: fs => match f.name != "_" && Nat.beq f.offset off with
    | true => (match sh f.type with
      | some ks => (match szOf P f.type with
        | some m => (match Nat.beq m ks.length with
          | true => (match plainFs sh (off + m) fs with | some r => some (ks ++ r) | none => none)
          | false => none)
        | none => none)
      | none => none)
    | false => none
noncomputable def plainSh : Nat → TypeId → Option (List Nat)
  | 0, _ => none
  | d + 1, t => match P.underlying t with
    | some .bool => some [1]
    | some (.int _) => some [0]
    | some .string => some [2]
    | some (.struct fs) => (match P.stoodInHeld t with | true => none | false => plainFs P (plainSh d) 0 fs.toList)
    | _ => none
noncomputable def aggEq (t : TypeId) (a b : List Value) : Option Bool :=
  match P.underlying t with
  | some (.struct fs) => (match P.stoodInHeld t || P.eqGuardType P.depth t with
    | true => none
    | false => (match plainFs P (plainSh P 11) 0 fs.toList with
      | some ks => eqCells ks a b
      | none => none))
  | _ => none
noncomputable def aggBin (op : BinOp) (t : TypeId) (a b : List Value) : Option Value :=
  match op with
  | .eql => (match aggEq P t a b with | some r => some (.bool r) | none => none)
  | .neq => (match aggEq P t a b with | some r => some (.bool (!r)) | none => none)
  | _ => none
noncomputable def binS (op : BinOp) (t : TypeId) (x y : Operand) (a b : Value) : Option Value :=
  if flat2 a && flat2 b then
    match pureRun P (do eqGuard op t x y a b; binOp op t a b) with
    | some r => if flat r then some r else none
    | none => none
  else
    match op, ptrEq P t a b with
    | .eql, some r => some (.bool r)
    | .neq, some r => some (.bool (!r))
    | _, _ => none
noncomputable def markBin (op : BinOp) (c : Nat) (n : Int) : Option Value :=
  match op with
  | .and => match Nat.ble 256 (c / 2 % 65536) with
    | true => match decide (n = ((Nat.sub (Nat.pow 2 (Nat.sub (c / 2 % 65536) 256)) 1 : Nat) : Int)) && (Nat.beq (c % 2) 0 && Nat.ble (c / 2 % 65536) 271) with | true => some (.int .i64 ((c / 131072 : Nat) : Int)) | false => none
    | false => match decide (n = 255) && Nat.beq (c % 2) 0 with | true => some (.float .f32 (c + 1)) | false => none
  | .rem => match decide (n = ((c / 2 % 65536 : Nat) : Int)) && (Nat.beq (c % 2) 1 && Nat.ble 1 (c / 2 % 65536)) with | true => some (.int .i64 ((c / 131072 : Nat) : Int)) | false => none
  | _ => none
noncomputable def binD (op : BinOp) (t : TypeId) (x y : Operand) (a b : Value) : Option Value :=
  match a, b with
  | .float .f32 c, .int .i64 n => markBin op c n
  | .int k m, .int k' n => (match shiftBin op k m n with
    | some v => some v
    | none => match kindEq k k' with
      | true => intBin op k m n
      | false => none)
  | .string p, .string q => (match strBin op p q with | some v => some v | none => binS P op t x y (.string p) (.string q))
  | .agg p, .agg q => (match aggBin P op t p.toList q.toList with | some v => some v | none => binS P op t x y (.agg p) (.agg q))
  | a, b => binS P op t x y a b
noncomputable def pairsO (l : Tmps) : List (Nat × Operand) → List (Nat × Value)
  | [] => []
  | (i, x) :: t => (i, evalO l x) :: pairsO l t
noncomputable def evalL (l : Tmps) : List Operand → List Value
  | [] => []
  | x :: t => evalO l x :: evalL l t
noncomputable def evalOpt (l : Tmps) : Option Operand → Option Value
  | none => none
  | some x => some (evalO l x)
noncomputable def sliceDataD (s : St) (args : List Value) : Option (Value × St) :=
  match args with
  | [.slice a n c] => (match a with
    | none => some (.pointer none, s)
    | some a => if Nat.ble capU c then (if Nat.ble 1 n then some (.pointer (some a), s) else none) else (if Nat.ble 1 c then some (.pointer (some a), s) else none))
  | _ => none
noncomputable def unsafeStringD (s : St) (pt : Option TypeDesc) (args : List Value) : Option (Value × St) :=
  match args with
  | [.pointer a, .int _ n] => (match a with
    | none => if n = 0 then some (.string .empty, s) else none
    | some ⟨id, off, none⟩ => (match pt, s.h.get id with
      | some (.pointer u), some (.cells cs e false) =>
        if 0 < n ∧ n ≤ 1048576 then
          (if Nat.beq (e / 2) u && Nat.beq (P.cellsOf u) 1 then
            (match ltake n.toNat (ldrop off cs) with
             | some r => (match bytesL r with | some bs => some (.string ⟨bs.toArray⟩, s.write id (.cells cs e true)) | none => none)
             | none => none)
           else none)
        else none
      | _, _ => none)
    | _ => none)
  | _ => none
noncomputable def lenB (t : Option TypeDesc) (x : Value) : Option Nat :=
  match t with
  | some .string => (match x with | .string b => some b.size | _ => none)
  | some (.slice _) => (match x with | .slice _ n _ => some n | .float .f64 1 => some 0 | _ => none)
  | some (.map _ _) => (match x with | .map none => some 0 | _ => none)
  | some (.array n _) => some n
  | some (.pointer arr) => (match typ P arr with | some (.array n _) => some n | _ => none)
  | _ => none
noncomputable def capB (t : Option TypeDesc) (x : Value) : Option Nat :=
  match t with
  | some (.slice _) => (match x with | .slice _ _ c => if Nat.ble capU c then none else some c | _ => none)
  | _ => none
noncomputable def ofN (r : Option Nat) (s : St) : Option (Value × St) := match r with | some n => some (.int .i64 n, s) | none => none
noncomputable def minMaxD (s : St) (b : Builtin) (argTypes : Array TypeId) (type : TypeId) (args : List Value) : Option (Value × St) :=
  match flat2L args with
  | true => (match pureRun P (builtin b argTypes type #[] args.toArray) with
    | some (.value v) => (match flat v with | true => some (v, s) | false => none)
    | _ => none)
  | false => none
noncomputable def builtinD (s : St) (b : Builtin) (argTypes : Array TypeId) (type : TypeId) (args : List Value) : Option (Value × St) :=
  match b with
  | .append => appendD P s argTypes args
  | .copy => copyD P s argTypes args
  | .clear => clearD P s argTypes args
  | .len => (match argTypes.toList, args with | t :: _, x :: _ => ofN (lenB P (typ P t) x) s | _, _ => none)
  | .cap => (match argTypes.toList, args with | t :: _, x :: _ => ofN (capB (typ P t) x) s | _, _ => none)
  | .unsafeSliceData => sliceDataD s args
  | .unsafeString => (match argTypes.toList with | pt :: _ => unsafeStringD P s (typ P pt) args | [] => none)
  | .min => minMaxD P s .min argTypes type args
  | .max => minMaxD P s .max argTypes type args
  | _ => none
noncomputable def keyD (k : TypeId) : Bool := match P.underlying k with
  | some .string => true
  | some (.array _ _) | some (.struct _) => P.keyTypeAt 12 k && P.tiled 12 k
  | _ => false
noncomputable def cellEq (a b : Value) : Option Bool :=
  match a, b with
  | .int k m, .int k' n => (match kindEq k k' with | true => some (m == n) | false => none)
  | .bool a, .bool b => some (a == b)
  | .string a, .string b => some (strEq a b)
  | _, _ => none
noncomputable def cellsEq : List Value → List Value → Option Bool
  | [], [] => some true
  | a :: s, b :: t => (match cellEq a b with
    | some r => (match r with | true => cellsEq s t | false => some false)
    | none => none)
  | _, _ => none
noncomputable def keyEq (a b : Value) : Option Bool :=
  match a, b with
  | .agg p, .agg q => cellsEq p.toList q.toList
  | a, b => cellEq a b
noncomputable def findD (kt : TypeId) (k : Value) : List (Value × Value × Nat) → Option (Option Nat)
  | [] => some none
  | e :: t => (match (keyOf P kt e.1).isSome with
    | true => (match findD kt k t with
      | some r => (match keyEq e.1 k with
        | some q => (match q with
          | true => (match r with | none => some (some 0) | some _ => none)
          | false => (match r with | none => some none | some j => some (some (j + 1))))
        | none => none)
      | none => none)
    | false => none)
noncomputable def mapOf (s : St) (x : Value) : Option (List (Value × Value × Nat) × St) :=
  match x with
  | .map a => (match a with
    | none => some ([], s)
    | some id => (match s.h.get id with
      | some (.ob o) => (match o with | .mp es _ => some (es, s.read id) | _ => none)
      | _ => none))
  | _ => none
noncomputable def lookRes (ok : Bool) (v : Value) (b : Bool) : Value := match ok with | true => .tuple ⟨[v, .bool b]⟩ | false => v
noncomputable def lookVal (e : TypeId) (ok : Bool) (es : List (Value × Value × Nat)) (r : Option (Option Nat)) : Option Value :=
  match r with
  | some (some j) => (match nth es j with | some en => some (lookRes ok en.2.1 true) | none => none)
  | some none => (match zeroOf P e with | some z => some (lookRes ok z false) | none => none)
  | none => none
noncomputable def lookupD (s : St) (d : Option TypeDesc) (x k : Value) (ok : Bool) : Option (Value × St) :=
  match d with
  | some (.map kt e) => (match keyD P kt && (flat2 k && (keyOf P kt k).isSome) with
    | true => (match mapOf s x with
      | some r => (match lookVal P e ok r.1 (findD P kt k r.1) with
        | some v => some (v, r.2)
        | none => none)
      | none => none)
    | false => none)
  | _ => none
noncomputable def setVal (v : Value) : List (Value × Value × Nat) → Nat → List (Value × Value × Nat)
  | [], _ => []
  | e :: t, 0 => (e.1, v, e.2.2) :: t
  | e :: t, n + 1 => e :: setVal v t n
noncomputable def updEs (k v : Value) (es : List (Value × Value × Nat)) (ck : Nat) (r : Option (Option Nat)) : Option Ob :=
  match r with
  | some (some j) => some (.mp (setVal v es j) ck)
  | some none => some (.mp (es ++ [(k, v, ck)]) (ck + 1))
  | none => none
noncomputable def updateD (s : St) (d : Option TypeDesc) (x k v : Value) : Option (Value × St) :=
  match d, x with
  | some (.map kt _), .map (some id) => (match keyD P kt && (flat2 k && (keyOf P kt k).isSome) with
    | true => (match s.h.get id with
      | some (.ob o) => (match o with
        | .mp es ck => (match updEs k v es ck (findD P kt k es) with
          | some o' => some (und, s.write id (.ob o'))
          | none => none)
        | _ => none)
      | _ => none)
    | false => none)
  | _, _ => none
noncomputable def rangeD (s : St) (d : Option TypeDesc) (x : Value) : Option (Value × St) :=
  match d, x with
  | some (.map _ _), .map a => (match a with
    | none => some (.pointer (some ⟨s.next, 0, none⟩), s.new (.ob (.it none 0 [] 0)))
    | some id => (match s.h.get id with
      | some (.ob o) => (match o with
        | .mp _ ck => some (.pointer (some ⟨s.next, 0, none⟩), (s.read id).new (.ob (.it (some id) ck [] ck)))
        | _ => none)
      | _ => none))
  | _, _ => none
noncomputable def hasN (n : Nat) : List Nat → Bool
  | [] => false
  | m :: t => Nat.beq n m || hasN n t
noncomputable def leftD (seen : List Nat) : List (Value × Value × Nat) → List (Value × Value × Nat)
  | [] => []
  | e :: t => (match hasN e.2.2 seen with | true => leftD seen t | false => e :: leftD seen t)
noncomputable def elderD (since : Nat) : List (Value × Value × Nat) → Bool
  | [] => true
  | e :: t => Nat.ble (e.2.2 + 1) since && elderD since t
noncomputable def nextGo (s : St) (r id since last : Nat) (seen : List Nat) (ck : Nat) (es : List (Value × Value × Nat)) : Option (Value × St) :=
  match Nat.ble since last && elderD since es with
  | true => (match leftD seen es with
    | [] => some (.tuple ⟨[.bool false]⟩, (s.read r).read id)
    | e :: t => (match t with
      | [] => some (.tuple ⟨[.bool true, e.1, e.2.1]⟩, (s.read id).write r (.ob (.it (some id) since (seen ++ [e.2.2]) ck)))
      | _ :: _ => none))
  | false => none
noncomputable def nextIt (s : St) (r : Nat) (m : Option Nat) (since last : Nat) (seen : List Nat) : Option (Value × St) :=
  match m with
  | none => some (.tuple ⟨[.bool false]⟩, s.read r)
  | some id => (match s.h.get id with
    | some (.ob o) => (match o with
      | .mp es ck => nextGo s r id since last seen ck es
      | _ => none)
    | _ => none)
noncomputable def nextD (s : St) (x : Value) (str : Bool) : Option (Value × St) :=
  match x, str with
  | .pointer (some ⟨r, 0, none⟩), false => (match s.h.get r with
    | some (.ob o) => (match o with
      | .it m since seen last => nextIt s r m since last seen
      | _ => none)
    | _ => none)
  | _, _ => none
noncomputable def lastN : List Nat → Option Nat
  | [] => none
  | n :: t => (match t with | [] => some n | _ :: _ => lastN t)
noncomputable def stampD (n : Nat) : List (Value × Value × Nat) → Option (Value × Value × Nat)
  | [] => none
  | e :: t => (match Nat.beq e.2.2 n with | true => some e | false => stampD n t)
noncomputable def entryGo (s : St) (r id last ck : Nat) (seen : List Nat) (es : List (Value × Value × Nat)) : Option (Value × St) :=
  match Nat.beq ck last, lastN seen with
  | true, some n => (match stampD n es with
    | some e => some (.tuple ⟨[e.1, e.2.1]⟩, (s.read r).read id)
    | none => none)
  | _, _ => none
noncomputable def entryIt (s : St) (r : Nat) (m : Option Nat) (last : Nat) (seen : List Nat) : Option (Value × St) :=
  match m with
  | none => none
  | some id => (match s.h.get id with
    | some (.ob o) => (match o with
      | .mp es ck => entryGo s r id last ck seen es
      | _ => none)
    | _ => none)
noncomputable def entryD (s : St) (x : Value) : Option (Value × St) :=
  match x with
  | .pointer (some ⟨r, 0, none⟩) => (match s.h.get r with
    | some (.ob o) => (match o with
      | .it m _ seen last => entryIt s r m last seen
      | _ => none)
    | _ => none)
  | _ => none
abbrev Call := FuncId → List Value → St → Option (Value × St)
abbrev OpF := Tmps → St → Option (Value × St)
noncomputable def ofV (v : Option Value) (s : St) : Option (Value × St) := match v with | some v => some (v, s) | none => none
noncomputable def opMove (x : Operand) : OpF := fun l s => some (evalO l x, s)
noncomputable def opPick (c a b : Operand) : OpF := fun l s => match evalO l c with
  | .bool t => match t with | true => some (evalO l a, s) | false => some (evalO l b, s)
  | _ => none
noncomputable def opAlloc (e : TypeId) : OpF := fun _ s => match zeroOf P e with
  | some z => some (.pointer (some ⟨s.next, 0, none⟩), s.new (.cells (cellsOfV z) (2 * e + 1) false))
  | none => none
noncomputable def opBox (e : TypeId) (x : Operand) : OpF := fun l s =>
  if !isUnd (evalO l x) then some (.pointer (some ⟨s.next, 0, none⟩), s.new (.cells (cellsOfV (evalO l x)) (2 * e + 1) false)) else none
noncomputable def opBuild (t : TypeId) (parts : Array (Nat × Operand)) : OpF := fun l s => ofV (buildD P t (pairsO l parts.toList)) s
noncomputable def opBuildSlice (t : TypeId) (n : Nat) (parts : Array (Nat × Operand)) : OpF := fun l s => buildSliceD P s t n (pairsO l parts.toList)
noncomputable def opLoad (t : TypeId) (a : Operand) : OpF := fun l s => loadD P s t (evalO l a)
noncomputable def opStore (t : TypeId) (a x : Operand) : OpF := fun l s => match storeD P s t (evalO l a) (evalO l x) with | some s => some (und, s) | none => none
noncomputable def opNilCheck (x : Operand) : OpF := fun l s => match evalO l x with
  | .pointer a => match a with | some a => some (.pointer (some a), s) | none => none
  | .func f a b => match f with | .func f => some (.func (.func f) a b, s) | _ => none
  | _ => none
noncomputable def opBin (op : BinOp) (t : TypeId) (x y : Operand) : OpF := fun l s => ofV (binD P op t x y (evalO l x) (evalO l y)) s
noncomputable def opUn (op : UnOp) (x : Operand) : OpF := fun l s =>
  match flat2 (evalO l x) with
  | true => match pureRun P (Op.unary op (evalO l x)) with
    | some v => match flat v with | true => some (v, s) | false => none
    | none => none
  | false => none
noncomputable def opConvert (src dst : TypeId) (x : Operand) : OpF := fun l s => convertD P s src dst (evalO l x)
noncomputable def opMakeInterface (t : TypeId) (x : Operand) : OpF := fun l s => match typ P t with
  | some d => match d with | .interface _ => none | _ => some (.iface t (evalO l x), s)
  | none => none
noncomputable def opMakeFunc (fn : Fn) (a b : Array Operand) : OpF := fun l s => some (.func fn (evalL l a.toList).toArray (evalL l b.toList).toArray, s)
noncomputable def opMakeSlice (t : TypeId) (n c : Operand) : OpF := fun l s => makeSliceD P s t (evalO l n) (evalO l c)
noncomputable def opSlice (t : TypeId) (x : Operand) (lo hi mx : Option Operand) : OpF := fun l s => ofV (sliceD P t (evalO l x) (evalOpt l lo) (evalOpt l hi) (evalOpt l mx)) s
noncomputable def opFieldAddr (t : TypeId) (x : Operand) (f : Nat) : OpF := fun l s => ofV (fieldAddrD P t (evalO l x) f) s
noncomputable def opField (t : TypeId) (x : Operand) (f : Nat) : OpF := fun l s => ofV (fieldD P t (evalO l x) f) s
noncomputable def opIndexAddr (t : TypeId) (x i : Operand) : OpF := fun l s => ofV (indexAddrD P t (evalO l x) (evalO l i)) s
noncomputable def opIndex (t : TypeId) (x i : Operand) : OpF := fun l s => ofV (indexD P t (evalO l x) (evalO l i)) s
noncomputable def opExtract (t : Operand) (i : Nat) : OpF := fun l s => match evalO l t with
  | .tuple vs => match vs.toList with | [] => none | w :: ws => ofV (nth (w :: ws) i) s
  | _ => none
noncomputable def opCallV (call : Call) (f : Operand) (xs : Array Operand) : OpF := fun l s => match evalO l f with
  | .func g first cap => match g with
    | .func g => call g (first.toList ++ (evalL l xs.toList ++ cap.toList)) s
    | _ => none
  | _ => none
noncomputable def opBuiltin (b : Builtin) (ts : Array TypeId) (type : TypeId) (xs : Array Operand) : OpF := fun l s => builtinD P s b ts type (evalL l xs.toList)
noncomputable def opMakeMap (r : Option Operand) : OpF := fun _ s => match r with
  | none => some (.map (some s.next), s.new (.ob (.mp [] 0)))
  | some _ => none
noncomputable def opLookup (t : TypeId) (x k : Operand) (ok : Bool) : OpF := fun l s => lookupD P s (typ P t) (evalO l x) (evalO l k) ok
noncomputable def opMapUpdate (t : TypeId) (x k v : Operand) : OpF := fun l s => updateD P s (typ P t) (evalO l x) (evalO l k) (evalO l v)
noncomputable def opRange (t : TypeId) (x : Operand) : OpF := fun l s => rangeD s (typ P t) (evalO l x)
noncomputable def opNext (x : Operand) (str : Bool) : OpF := fun l s => nextD s (evalO l x) str
noncomputable def opEntry (x : Operand) : OpF := fun l s => entryD s (evalO l x)
noncomputable def opNone : OpF := fun _ _ => none
noncomputable def opCall (call : Call) (c : Go.Call) (type : TypeId) : OpF := match c.callee with
  | .builtin b => opBuiltin P b c.argTypes type c.args
  | .value f => opCallV call f c.args
  | .invoke _ _ => opNone
noncomputable def opD (call : Call) (o : Oper) : OpF :=
  match o.op with
  | .move x => opMove x
  | .assign x => opMove x
  | .pick c a b => opPick c a b
  | .alloc e => opAlloc P e
  | .box e x => opBox e x
  | .build t parts => opBuild P t parts
  | .buildSlice t n parts => opBuildSlice P t n parts
  | .load t a => opLoad P t a
  | .store t a x => opStore P t a x
  | .nilCheck x => opNilCheck x
  | .binOp op t x y _ => opBin P op t x y
  | .unOp op _ x => opUn P op x
  | .convert src dst x => opConvert P src dst x
  | .makeInterface t x => opMakeInterface P t x
  | .makeFunc fn a b => opMakeFunc fn a b
  | .makeSlice t n c => opMakeSlice P t n c
  | .slice t x lo hi mx => opSlice P t x lo hi mx
  | .fieldAddr t x f => opFieldAddr P t x f
  | .field t x f => opField P t x f
  | .indexAddr t x i => opIndexAddr P t x i
  | .index t x i => opIndex P t x i
  | .extract t i => opExtract t i
  | .makeMap _ r => opMakeMap r
  | .lookup t x k ok => opLookup P t x k ok
  | .range t x => opRange P t x
  | .next x str => opNext x str
  | .entry x => opEntry x
  | .mapUpdate t x k v => opMapUpdate P t x k v
  | .call c => opCall P call c o.type
  | _ => opNone
noncomputable def readsO : Operand → Nat
  | .tmp t => Nat.shiftLeft 1 t
  | _ => 0
noncomputable def readsL : List Operand → Nat
  | [] => 0
  | x :: t => Nat.lor (readsO x) (readsL t)
noncomputable def readsT (ops : List Oper) (o : Oper) : Nat :=
  Nat.lor (readsL o.op.operands.toList)
    (match o.guard with
     | none => 0
     | some (j, _) => match nth ops j with | some g => (match g.dst with | some d => Nat.shiftLeft 1 d | none => 0) | none => 0)
noncomputable def writesT (o : Oper) : Nat := match o.dst with | some d => Nat.shiftLeft 1 d | none => 0
noncomputable def putD (l : Tmps) (d : Option Tmp) (v : Value) : Tmps := match d with | some t => lset l t v | none => l
noncomputable def wantedD (ops : List Oper) (l : Tmps) (o : Oper) : Option Bool :=
  match o.guard with
  | none => some true
  | some g =>
    match nth ops g.1 with
    | some q => (match q.dst with
      | some d => (match lget l d with
        | .bool b => some (b == g.2)
        | .tuple _ => none
        | _ => some false)
      | none => none)
    | none => none
noncomputable def nextOp (l : Tmps) (d : Option Tmp) (ih : Tmps → St → Option (Tmps × St)) (r : Option (Value × St)) : Option (Tmps × St) := match r with
  | some x => ih (putD l d x.1) x.2
  | none => none
noncomputable def opsStep (f : OpF) (d : Option Tmp) (w : Tmps → Option Bool) (ih : Tmps → St → Option (Tmps × St)) : Tmps → St → Option (Tmps × St) := fun l s =>
  match w l with
  | some t => (match t with
    | true => nextOp l d ih (f l s)
    | false => ih (putD l d skp) s)
  | none => none
noncomputable def opsD (call : Call) (all : List Oper) (ops : List Oper) : Tmps → St → Option (Tmps × St) :=
  List.rec (fun l s => some (l, s)) (fun o _ ih => opsStep (opD P call o) o.dst (fun l => wantedD all l o) ih) ops
structure Foot where
  rt : Nat
  wt : Nat
  rd : Nat
  wr : Nat
  before : Nat
noncomputable def beforeOf (done : List Foot) (es : List Edge) : Nat :=
  match es with
  | [] => 0
  | e :: t => Nat.lor (match e.ground with | .textOnly _ | .gcOnly _ => 0 | _ => Nat.lor (Nat.shiftLeft 1 e.on) (match nth done e.on with | some f => f.before | none => 0)) (beforeOf done t)
noncomputable def edgesOk (i : Nat) : List Edge → Bool
  | [] => true
  | e :: t => (match e.ground with | .textOnly _ | .gcOnly _ => true | _ => Nat.ble (e.on + 1) i) && edgesOk i t
noncomputable def apart (a b : Foot) : Bool :=
  Nat.beq (Nat.land a.wt (Nat.lor b.rt b.wt)) 0 && Nat.beq (Nat.land b.wt a.rt) 0 &&
  Nat.beq (Nat.land a.wr (Nat.lor b.rd b.wr)) 0 && Nat.beq (Nat.land b.wr a.rd) 0
noncomputable def apartAll (f : Foot) : Nat → List Foot → Bool
  | _, [] => true
  | i, g :: t => (Nat.testBit f.before i || apart g f) && apartAll f (i + 1) t
abbrev Soft := Option (TypeId × Value × Value)
noncomputable def sameA : Option Addr → Option Addr → Bool
  | none, none => true
  | some ⟨i, o, none⟩, some ⟨j, p, none⟩ => Nat.beq i j && Nat.beq o p
  | _, _ => false
noncomputable def sameV (a b : Value) : Bool :=
  match a, b with
  | .pointer a, .pointer b => sameA a b
  | .slice a n c, .slice b m d => sameA a b && (Nat.beq n m && Nat.beq c d)
  | a, b => (match cellEq a b with | some r => r | none => false)
noncomputable def apartS (a b : Foot) : Bool :=
  Nat.beq (Nat.land a.wt (Nat.lor b.rt b.wt)) 0 && Nat.beq (Nat.land b.wt a.rt) 0 &&
  Nat.beq (Nat.land a.wr (Nat.lor b.rd b.wr)) 0
noncomputable def softOne (x : Option Soft) (s : St) : Option St :=
  match x with
  | some y => (match y with
    | some z => (match loadD P s z.1 z.2.1 with
      | some r => (match sameV z.2.2 r.1 with | true => some r.2 | false => none)
      | none => none)
    | none => none)
  | none => none
noncomputable def softGo (f : Foot) : Nat → List Foot → List Soft → St → Option St
  | _, [], _, s => some s
  | i, g :: t, sl, s => (match Nat.testBit f.before i || apart g f with
    | true => softGo f (i + 1) t sl.tail s
    | false => (match apartS g f with
      | true => (match softOne P sl.head? s with
        | some s' => softGo f (i + 1) t sl.tail s'
        | none => none)
      | false => none))
noncomputable def softOf (all : List Oper) (o : Oper) (l : Tmps) (v : Value) : Soft :=
  match o.op with
  | .load t a => (match wantedD all l o with
    | some b => (match b with | true => some (t, evalO l a, v) | false => none)
    | none => none)
  | _ => none
noncomputable def drawGo (f : Foot) (done : List Foot) (sl : List Soft) (next : Tmps → St → Option (Tmps × St)) (l : Tmps) (s : St) : Option (Tmps × St) :=
  match softGo P f 0 done sl s with
  | some s' => next l s'
  | none => none
noncomputable def drawStep (all : List Oper) (o : Oper) (done : List Foot) (sl : List Soft) (next : List Foot → List Soft → Tmps → St → Option (Tmps × St)) (l : Tmps) (s : St) (r : Option (Value × St)) : Option (Tmps × St) :=
  match r with
  | some x => (fun f : Foot => drawGo P f done sl (next (done ++ [f]) (sl ++ [softOf all o l x.1])) (putD l o.dst x.1) { h := x.2.h, next := x.2.hi, hi := Nat.max s.hi x.2.hi, rd := Nat.lor s.rd x.2.rd, wr := Nat.lor s.wr x.2.wr })
      { rt := readsT all o, wt := writesT o, rd := x.2.rd, wr := x.2.wr, before := beforeOf done o.after.toList }
  | none => none
noncomputable def wantRun (f : OpF) (w : Tmps → Option Bool) : OpF := fun l s => match w l with
  | some t => (match t with | true => f l s | false => some (skp, s))
  | none => none
noncomputable def drawD (call : Call) (all : List Oper) (ops : List Oper) : List Foot → List Soft → Tmps → St → Option (Tmps × St) :=
  List.rec (fun _ _ l s => some (l, s)) (fun o _ ih done sl l s =>
    match edgesOk done.length o.after.toList with
    | true => drawStep P all o done sl ih l s (wantRun (opD P call o) (fun l => wantedD all l o) l { h := s.h, next := s.next, hi := s.next, rd := 0, wr := 0 })
    | false => none) ops
inductive Ex where
  | normal
  | exit (id : Nat)
  | ret
abbrev CodeF := Tmps → St → Option (Ex × Tmps × St)
noncomputable def cDone (e : Ex) : CodeF := fun l s => some (e, l, s)
noncomputable def cNone : CodeF := fun _ _ => none
noncomputable def ofTS (r : Option (Tmps × St)) : Option (Ex × Tmps × St) := match r with | some x => some (.normal, x.1, x.2) | none => none
noncomputable def cDraw (call : Call) (ops : List Oper) : CodeF := fun l s => ofTS (drawD P call ops ops [] [] l s)
noncomputable def cOps (call : Call) (ops : List Oper) : CodeF := fun l s => ofTS (opsD P call ops ops l s)
noncomputable def andThen (f : CodeF) (r : Option (Ex × Tmps × St)) : Option (Ex × Tmps × St) := match r with
  | some x => match x.1 with | .normal => f x.2.1 x.2.2 | e => some (e, x.2.1, x.2.2)
  | none => none
noncomputable def cSeq (f g : CodeF) : CodeF := fun l s => andThen g (f l s)
noncomputable def cCond (c : Operand) (f g : CodeF) : CodeF := fun l s => match evalO l c with
  | .bool t => match t with | true => f l s | false => g l s
  | _ => none
noncomputable def unblock (id : Nat) (r : Option (Ex × Tmps × St)) : Option (Ex × Tmps × St) := match r with
  | some x => match x.1 with
    | .exit i => match Nat.beq i id with | true => some (.normal, x.2.1, x.2.2) | false => some (.exit i, x.2.1, x.2.2)
    | e => some (e, x.2.1, x.2.2)
  | none => none
noncomputable def cBlock (id : Nat) (f : CodeF) : CodeF := fun l s => unblock id (f l s)
noncomputable def cLoop (k : Nat) (f : CodeF) : CodeF := Nat.rec (fun _ _ => none) (fun _ ih => cSeq f ih) k
noncomputable def codeD (call : Call) (k : Nat) (c : Code) : CodeF :=
  Code.rec (motive := fun _ => CodeF)
    (cDone .normal)
    (fun _ ops draw => match draw with | true => cDraw P call ops.toList | false => cOps P call ops.toList)
    (fun _ _ fa fb => cSeq fa fb)
    (fun c _ _ fa fb => cCond c fa fb)
    (fun id _ fa => cBlock id fa)
    (fun _ fa => cLoop k fa)
    (fun _ _ _ _ _ _ => cNone)
    (fun id => cDone (.exit id))
    (fun _ _ => cNone)
    (fun _ => cNone) (fun _ => cNone)
    (cDone .ret) (fun _ => cNone) c
noncomputable def resD (l : Tmps) (s : St) : List ResultVar → Option (List Value × St)
  | [] => some ([], s)
  | .tmp t :: rest => match resD l s rest with | some (vs, s) => some (lget l t :: vs, s) | none => none
  | .cell a t :: rest => match loadD P s t (lget l a) with
    | some (v, s) => (match resD l s rest with | some (vs, s) => some (v :: vs, s) | none => none)
    | none => none
noncomputable def inTab (args : List Value) : Nat → Tmps
  | 0 => []
  | k + 1 => match args with
    | a :: b :: c :: d :: e :: f :: g :: h :: t => [a, b, c, d, e, f, g, h] :: inTab t k
    | [] => []
    | l => [l]
noncomputable def valOf : List Value → Value
  | [v] => v
  | vs => .tuple vs.toArray
noncomputable def gcD (s : St) (v : Value) (s' : St) : Option (Value × St) :=
  match flat v && (Nat.beq (Nat.mod s'.wr (Nat.shiftLeft 1 s.next)) 0 && Nat.ble (Nat.lor s'.rd s'.wr + 1) (Nat.shiftLeft 1 s'.next)) with
  | true => some (v, { h := s.h, next := s.next, hi := s'.hi, rd := Nat.lor s.rd (Nat.mod s'.rd (Nat.shiftLeft 1 s.next)), wr := s.wr })
  | false => some (v, { h := s'.h, next := s'.next, hi := s'.hi, rd := s'.rd, wr := Nat.lor s.wr s'.wr })
noncomputable def endRes (s : St) (r : Option (List Value × St)) : Option (Value × St) := match r with
  | some x => gcD s (valOf x.1) x.2
  | none => none
noncomputable def endD (fn : Func) (s : St) (r : Option (Ex × Tmps × St)) : Option (Value × St) := match r with
  | some x => match x.1 with
    | .exit _ => none
    | _ => endRes s (resD P x.2.1 x.2.2 fn.results.toList)
  | none => none
noncomputable def enterD (run : Code → CodeF) (fn : Func) (c : Code) (args : List Value) (s : St) : Option (Value × St) :=
  match Nat.ble args.length fn.ntmps with
  | true => endD P fn s (run c (inTab args 8) { h := s.h, next := s.next, hi := s.hi, rd := s.rd, wr := 0 })
  | false => none
noncomputable def bodyD (run : Code → CodeF) (fn : Option Func) (args : List Value) (s : St) : Option (Value × St) := match fn with
  | some fn => match fn.body with
    | some c => enterD P run fn c args s
    | none => none
  | none => none
noncomputable def callD (intr : FuncId → Option (List Value → St → Option (Value × St))) (n k : Nat) : Call :=
  Nat.rec (fun _ _ _ => none) (fun _ ih f =>
    match intr f with
    | some g => g
    | none => bodyD P (codeD P ih n) (nth P.funcs.toList f)) k
end Go.Det
end

section
/- A part of an evaluator of closed runs and of its soundness. -/
namespace Go.Det
theorem lgetR_nil {α : Type} (d : α) (n : Nat) : lgetR d [] n = d := rfl
theorem lgetR_zero {α : Type} (d v : α) (t : List α) : lgetR d (v :: t) 0 = v := rfl
theorem lgetR_succ {α : Type} (d v : α) (t : List α) (n : Nat) : lgetR d (v :: t) (n + 1) = lgetR d t n := rfl
theorem lsetR_nil_zero {α : Type} (d v : α) : lsetR d v [] 0 = [v] := rfl
theorem lsetR_nil_succ {α : Type} (d v : α) (n : Nat) : lsetR d v [] (n + 1) = d :: lsetR d v [] n := rfl
theorem lsetR_zero {α : Type} (d v x : α) (t : List α) : lsetR d v (x :: t) 0 = v :: t := rfl
theorem lsetR_succ {α : Type} (d v x : α) (t : List α) (n : Nat) : lsetR d v (x :: t) (n + 1) = x :: lsetR d v t n := rfl
theorem lget_lset {α : Type} (d v : α) : ∀ (l : List α) (n m : Nat), lgetR d (lsetR d v l n) m = if m = n then v else lgetR d l m
  | [], 0, 0 => rfl
  | [], 0, m + 1 => by simp [lsetR_nil_zero, lgetR_succ, lgetR_nil]
  | [], n + 1, 0 => by simp [lsetR_nil_succ, lgetR_zero, lgetR_nil]
  | [], n + 1, m + 1 => by rw [lsetR_nil_succ, lgetR_succ, lget_lset d v [] n m]; simp [lgetR_nil]
  | x :: t, 0, 0 => rfl
  | x :: t, 0, m + 1 => by simp [lsetR_zero, lgetR_succ]
  | x :: t, n + 1, 0 => by simp [lsetR_succ, lgetR_zero]
  | x :: t, n + 1, m + 1 => by rw [lsetR_succ, lgetR_succ, lget_lset d v t n m]; simp [lgetR_succ]
theorem Tab.get_set {α : Type} (d v : α) (l : Tab α) (n m : Nat) : Tab.get d (Tab.set d l n v) m = if m = n then v else Tab.get d l m := by
  show lgetR d (lgetR [] (lsetR [] (lsetR d v (lgetR [] l (n / 8)) (n % 8)) l (n / 8)) (m / 8)) (m % 8) = if m = n then v else lgetR d (lgetR [] l (m / 8)) (m % 8)
  rw [lget_lset]
  by_cases h : m / 8 = n / 8
  · rw [if_pos h, lget_lset]
    by_cases h2 : m % 8 = n % 8
    · rw [if_pos h2, if_pos (by omega)]
    · rw [if_neg h2, if_neg (by intro e; exact h2 (by rw [e])), h]
  · rw [if_neg h, if_neg (by intro e; exact h (by rw [e]))]
theorem Heap.get_set (h : Heap) (n m : Nat) (b : Blk) : (h.set n b).get m = if m = n then some b else h.get m := Tab.get_set none (some b) h n m
theorem lget_set (l : Tmps) (n m : Nat) (v : Value) : lget (lset l n v) m = if m = n then v else lget l m := Tab.get_set und v l n m
abbrev Ren := Nat → Option (Nat × Nat × Nat)
def markOk (c : Nat) (n : Int) : Prop := (c % 2 = 0 ∧ c / 2 % 65536 < 256 ∧ (n % 256) % ((c / 2 % 65536 : Nat) : Int) = ((c / 131072 : Nat) : Int)) ∨ (c % 2 = 1 ∧ 0 ≤ n ∧ n % ((c / 2 % 65536 : Nat) : Int) = ((c / 131072 : Nat) : Int)) ∨
  (c % 2 = 0 ∧ 256 ≤ c / 2 % 65536 ∧ n % ((2 ^ (c / 2 % 65536 - 256) : Nat) : Int) = ((c / 131072 : Nat) : Int))
inductive VR (φ : Ren) : Value → Value → Prop
  | any (v : Value) : VR φ und v
  | skip : VR φ (.float .f64 0) (.tuple #[])
  | emp (a : Option Addr) (c : Nat) : (∀ x, a = some x → x.spot = none) → VR φ (.float .f64 1) (.slice a 0 c)
  | mark (c : Nat) (n : Int) : markOk c n → VR φ (.float .f32 c) (.int .i64 n)
  | bool (b : Bool) : VR φ (.bool b) (.bool b)
  | int (k : IntKind) (n : Int) : VR φ (.int k n) (.int k n)
  | string (s : ByteArray) : VR φ (.string s) (.string s)
  | pnil : VR φ (.pointer none) (.pointer none)
  | ptr (id off b sh sz : Nat) : φ id = some (b, sh, sz) → VR φ (.pointer (some ⟨id, off, none⟩)) (.pointer (some ⟨b, sh + off, none⟩))
  | snil (n c : Nat) : c < capU → VR φ (.slice none n c) (.slice none n c)
  | slice (id off b sh sz n c : Nat) : φ id = some (b, sh, sz) → c < capU → VR φ (.slice (some ⟨id, off, none⟩) n c) (.slice (some ⟨b, sh + off, none⟩) n c)
  | sliceU (id off b sh sz n c es : Nat) : φ id = some (b, sh, sz) → 0 < es → sh + off + c * es = sz → n ≤ c →
      VR φ (.slice (some ⟨id, off, none⟩) n (capU + es)) (.slice (some ⟨b, sh + off, none⟩) n c)
  | mnil : VR φ (.map none) (.map none)
  | map (id b sh sz : Nat) : φ id = some (b, sh, sz) → VR φ (.map (some id)) (.map (some b))
  | func (fn : Fn) (a a' c c' : List Value) : a.length = a'.length → (∀ i, VR φ (a.getD i und) (a'.getD i und)) → c.length = c'.length → (∀ i, VR φ (c.getD i und) (c'.getD i und)) →
      VR φ (.func fn ⟨a⟩ ⟨c⟩) (.func fn ⟨a'⟩ ⟨c'⟩)
  | nilFunc : VR φ .nilFunc .nilFunc
  | iface (t : TypeId) (v v' : Value) : VR φ v v' → VR φ (.iface t v) (.iface t v')
  | nilIface : VR φ .nilIface .nilIface
  | agg (a a' : List Value) : a.length = a'.length → (∀ i, VR φ (a.getD i und) (a'.getD i und)) → VR φ (.agg ⟨a⟩) (.agg ⟨a'⟩)
  | tuple (a a' : List Value) : a.length = a'.length → (∀ i, VR φ (a.getD i und) (a'.getD i und)) → VR φ (.tuple ⟨a⟩) (.tuple ⟨a'⟩)
def VRL (φ : Ren) (l l' : List Value) : Prop := l.length = l'.length ∧ ∀ i, VR φ (l.getD i und) (l'.getD i und)
def Le (φ φ' : Ren) : Prop := ∀ id x, φ id = some x → φ' id = some x
theorem Le.refl (φ : Ren) : Le φ φ := fun _ _ h => h
theorem Le.trans {φ φ' φ'' : Ren} (h : Le φ φ') (h' : Le φ' φ'') : Le φ φ'' := fun _ _ e => h' _ _ (h _ _ e)
theorem VR.mono {φ φ' : Ren} (h : Le φ φ') {v v' : Value} (hv : VR φ v v') : VR φ' v v' := by
  induction hv with
  | any v => exact .any v
  | skip => exact .skip
  | emp a c h => exact .emp a c h
  | mark c n h => exact .mark c n h
  | bool b => exact .bool b
  | int k n => exact .int k n
  | string s => exact .string s
  | pnil => exact .pnil
  | ptr id off b sh sz e => exact .ptr _ _ _ _ _ (h _ _ e)
  | snil n c e => exact .snil n c e
  | slice id off b sh sz n c e k => exact .slice _ _ _ _ _ _ _ (h _ _ e) k
  | sliceU id off b sh sz n c es e k q r => exact .sliceU _ _ _ _ _ _ _ _ (h _ _ e) k q r
  | mnil => exact .mnil
  | map id b sh sz e => exact .map _ _ _ _ (h _ _ e)
  | func fn a a' c c' e _ e2 _ ih ih2 => exact .func _ _ _ _ _ e ih e2 ih2
  | nilFunc => exact .nilFunc
  | iface t v v' _ ih => exact .iface t _ _ ih
  | nilIface => exact .nilIface
  | agg a a' e _ ih => exact .agg _ _ e ih
  | tuple a a' e _ ih => exact .tuple _ _ e ih
theorem VRL.nil (φ : Ren) : VRL φ [] [] := ⟨rfl, fun _ => .any _⟩
theorem VRL.cons {φ : Ren} {v v' : Value} {l l' : List Value} (h : VR φ v v') (hl : VRL φ l l') : VRL φ (v :: l) (v' :: l') :=
  ⟨by simp [hl.1], fun i => by cases i with | zero => exact h | succ i => exact hl.2 i⟩
theorem VRL.head {φ : Ren} {v : Value} {l l' : List Value} (h : VRL φ (v :: l) l') : ∃ v' t', l' = v' :: t' ∧ VR φ v v' ∧ VRL φ l t' := by
  cases l' with
  | nil => exact absurd h.1 (by simp)
  | cons v' t' => exact ⟨v', t', rfl, h.2 0, by simpa using h.1, fun i => h.2 (i + 1)⟩
theorem VRL.of_nil {φ : Ren} {l' : List Value} (h : VRL φ [] l') : l' = [] := by
  cases l' with
  | nil => rfl
  | cons v t => exact absurd h.1 (by simp)
theorem VRL.append {φ : Ren} {a a' b b' : List Value} (h : VRL φ a a') (k : VRL φ b b') : VRL φ (a ++ b) (a' ++ b') := by
  induction a generalizing a' with
  | nil => rw [h.of_nil]; exact k
  | cons v t ih => obtain ⟨v', t', rfl, hv, ht⟩ := h.head; exact VRL.cons hv (ih ht)
theorem VRL.drop {φ : Ren} {l l' : List Value} (h : VRL φ l l') (n : Nat) : VRL φ (l.drop n) (l'.drop n) := by
  refine ⟨by simp [h.1], fun i => ?_⟩
  have := h.2 (n + i)
  simpa [List.getD_eq_getElem?_getD, List.getElem?_drop] using this
theorem VRL.take {φ : Ren} {l l' : List Value} (h : VRL φ l l') (n : Nat) : VRL φ (l.take n) (l'.take n) := by
  induction n generalizing l l' with
  | zero => simp only [List.take_zero]; exact VRL.nil φ
  | succ n ih =>
    cases l with
    | nil => rw [h.of_nil]; exact VRL.nil φ
    | cons v t => obtain ⟨v', t', rfl, hv, ht⟩ := h.head; exact VRL.cons hv (ih ht)
theorem VR.agg_of {φ : Ren} {l l' : List Value} (h : VRL φ l l') : VR φ (.agg ⟨l⟩) (.agg ⟨l'⟩) := .agg _ _ h.1 h.2
theorem VR.tuple_of {φ : Ren} {l l' : List Value} (h : VRL φ l l') : VR φ (.tuple ⟨l⟩) (.tuple ⟨l'⟩) := .tuple _ _ h.1 h.2
theorem flat1_self {v : Value} (h : flat1 v = true) (φ : Ren) : VR φ v v := by
  unfold flat1 at h
  split at h <;> first
    | exact .bool _ | exact .int _ _ | exact .string _ | exact .nilFunc | exact .nilIface | exact .pnil | exact .mnil
    | (rename_i n c; exact .snil _ _ (by simp at h; subst h; unfold capU; omega))
    | (rename_i fn f c
       obtain ⟨f⟩ := f; obtain ⟨c⟩ := c
       simp only [Bool.and_eq_true, List.isEmpty_iff] at h
       obtain ⟨rfl, rfl⟩ := h
       exact .func _ [] [] [] [] rfl (fun _ => .any _) rfl (fun _ => .any _))
    | (exact absurd h (by simp))
theorem flatL_self {l : List Value} (h : flatL l = true) (φ : Ren) : VRL φ l l := by
  induction l with
  | nil => exact VRL.nil φ
  | cons v t ih => simp only [flatL, Bool.and_eq_true] at h; exact VRL.cons (flat1_self h.1 φ) (ih h.2)
theorem flat2_self {v : Value} (h : flat2 v = true) (φ : Ren) : VR φ v v := by
  unfold flat2 at h
  split at h
  · rename_i cs; obtain ⟨cs⟩ := cs; exact VR.agg_of (flatL_self h φ)
  · exact .iface _ _ _ (flat1_self h φ)
  · exact flat1_self h φ
theorem flat2L_self {l : List Value} (h : flat2L l = true) (φ : Ren) : VRL φ l l := by
  induction l with
  | nil => exact VRL.nil φ
  | cons v t ih => simp only [flat2L, Bool.and_eq_true] at h; exact VRL.cons (flat2_self h.1 φ) (ih h.2)
theorem flat_self {v : Value} (h : flat v = true) (φ : Ren) : VR φ v v := by
  unfold flat at h
  split at h
  · rename_i vs; obtain ⟨vs⟩ := vs; exact VR.tuple_of (flat2L_self h φ)
  · exact flat2_self h φ
theorem flat1_inv {φ : Ren} {v v' : Value} (h : flat1 v = true) (k : VR φ v v') : v' = v := by
  cases k <;> first
    | rfl
    | (simp [flat1, und] at h; done)
    | (rename_i e1 _ e2 _
       simp only [flat1, Bool.and_eq_true, List.isEmpty_iff] at h
       obtain ⟨rfl, rfl⟩ := h
       rw [List.eq_nil_of_length_eq_zero e1.symm, List.eq_nil_of_length_eq_zero e2.symm])
theorem flatL_inv {φ : Ren} {l l' : List Value} (h : flatL l = true) (k : VRL φ l l') : l' = l := by
  induction l generalizing l' with
  | nil => exact k.of_nil
  | cons v t ih =>
    obtain ⟨v', t', rfl, hv, ht⟩ := k.head
    simp only [flatL, Bool.and_eq_true] at h
    rw [flat1_inv h.1 hv, ih h.2 ht]
theorem flat2_inv {φ : Ren} {v v' : Value} (h : flat2 v = true) (k : VR φ v v') : v' = v := by
  unfold flat2 at h
  split at h
  · cases k with
    | agg a a' e q => rw [flatL_inv h ⟨e, q⟩]
  · cases k with
    | iface t v v' q => rw [flat1_inv h q]
  · exact flat1_inv h k
theorem flat2L_inv {φ : Ren} {l l' : List Value} (h : flat2L l = true) (k : VRL φ l l') : l' = l := by
  induction l generalizing l' with
  | nil => exact k.of_nil
  | cons v t ih =>
    obtain ⟨v', t', rfl, hv, ht⟩ := k.head
    simp only [flat2L, Bool.and_eq_true] at h
    rw [flat2_inv h.1 hv, ih h.2 ht]
theorem VR.back {φ φ' : Ren} (hle : Le φ φ') {v x y : Value} (h : VR φ v x) (k : VR φ' v y) : VR φ v y := by
  induction h generalizing y with
  | any v => exact .any _
  | skip => cases k; exact .skip
  | emp a c h => cases k with | emp a' c' h' => exact .emp a' c' h'
  | mark c n h => cases k with | mark _ _ h' => exact .mark _ _ h'
  | bool b => cases k; exact .bool b
  | int n k' => cases k; exact .int _ _
  | string s => cases k; exact .string s
  | pnil => cases k; exact .pnil
  | ptr id off b sh sz e =>
    cases k with
    | ptr _ _ b' sh' sz' e' => have := hle _ _ e; rw [this] at e'; cases e'; exact .ptr _ _ _ _ _ e
  | snil n c e => cases k; exact .snil _ _ e
  | slice id off b sh sz n c e q =>
    cases k with
    | slice _ _ b' sh' sz' _ _ e' _ => have := hle _ _ e; rw [this] at e'; cases e'; exact .slice _ _ _ _ _ _ _ e q
    | sliceU _ _ _ _ _ _ _ _ _ _ _ _ => omega
  | sliceU id off b sh sz n c es e p q r =>
    generalize hC : capU + es = C at k
    cases k with
    | slice _ _ b' sh' sz' _ _ e' q' => omega
    | sliceU _ _ b' sh' sz' _ c' es' e' p' q' r' =>
      have := hle _ _ e; rw [this] at e'; cases e'
      obtain rfl : es = es' := by omega
      exact .sliceU _ _ _ _ _ _ _ _ e p q' r'
  | mnil => cases k; exact .mnil
  | map id b sh sz e => cases k with | map _ b' sh' sz' e' => have := hle _ _ e; rw [this] at e'; cases e'; exact .map _ _ _ _ e
  | func fn a a' c c' e _ e2 _ ih ih2 => cases k with | func _ _ a2 _ c2 q1 q2 q3 q4 => exact .func _ _ _ _ _ q1 (fun i => ih i (q2 i)) q3 (fun i => ih2 i (q4 i))
  | nilFunc => cases k; exact .nilFunc
  | iface t v v' _ ih => cases k with | iface _ _ _ q => exact .iface _ _ _ (ih q)
  | nilIface => cases k; exact .nilIface
  | agg a a' e _ ih => cases k with | agg _ _ q1 q2 => exact .agg _ _ q1 (fun i => ih i (q2 i))
  | tuple a a' e h ih =>
    cases k with
    | any => exact .any _
    | tuple _ _ q1 q2 => exact .tuple _ _ q1 (fun i => ih i (q2 i))
end Go.Det
end

section
/- A part of an evaluator of closed runs and of its soundness. -/
namespace Go.Det
theorem ltake_zero (l : List Value) : ltake 0 l = some [] := rfl
theorem ltake_succ_nil (n : Nat) : ltake (n + 1) [] = none := rfl
theorem ltake_succ_cons (n : Nat) (v : Value) (t : List Value) : ltake (n + 1) (v :: t) = match ltake n t with | some r => some (v :: r) | none => none := rfl
theorem ltake_some : ∀ {n : Nat} {l r : List Value}, ltake n l = some r → r = l.take n ∧ n ≤ l.length
  | 0, l, r, h => by rw [ltake_zero] at h; cases h; simp
  | n + 1, [], r, h => by rw [ltake_succ_nil] at h; cases h
  | n + 1, v :: t, r, h => by
    rw [ltake_succ_cons] at h
    split at h
    · rename_i r' hr; cases h; obtain ⟨rfl, hn⟩ := ltake_some hr; simp; exact hn
    · cases h
theorem ldrop_succ_cons (n : Nat) (v : Value) (t : List Value) : ldrop (n + 1) (v :: t) = ldrop n t := rfl
theorem ldrop_eq : ∀ (n : Nat) (l : List Value), ldrop n l = l.drop n
  | 0, l => rfl
  | n + 1, [] => rfl
  | n + 1, v :: t => by rw [ldrop_succ_cons, ldrop_eq n t]; rfl
theorem lput0_nil (l : List Value) : lput0 l [] = some l := rfl
theorem lput0_cons_nil (w : Value) (ws : List Value) : lput0 [] (w :: ws) = none := rfl
theorem lput0_cons (x w : Value) (t ws : List Value) : lput0 (x :: t) (w :: ws) = match lput0 t ws with | some r => some (w :: r) | none => none := rfl
theorem lput0_some : ∀ {l ws r : List Value}, lput0 l ws = some r → r = ws ++ l.drop ws.length ∧ ws.length ≤ l.length
  | l, [], r, h => by rw [lput0_nil] at h; cases h; simp
  | [], w :: ws, r, h => by rw [lput0_cons_nil] at h; cases h
  | x :: t, w :: ws, r, h => by
    rw [lput0_cons] at h
    split at h
    · rename_i r' hr; cases h; obtain ⟨rfl, hn⟩ := lput0_some hr; simp; exact hn
    · cases h
theorem lput_zero (l ws : List Value) : lput l 0 ws = lput0 l ws := rfl
theorem lput_succ_nil (n : Nat) (ws : List Value) : lput [] (n + 1) ws = none := rfl
theorem lput_succ_cons (n : Nat) (x : Value) (t ws : List Value) : lput (x :: t) (n + 1) ws = match lput t n ws with | some r => some (x :: r) | none => none := rfl
theorem lput_some : ∀ {n : Nat} {l ws r : List Value}, lput l n ws = some r → r = l.take n ++ ws ++ l.drop (n + ws.length) ∧ n + ws.length ≤ l.length
  | 0, l, ws, r, h => by rw [lput_zero] at h; obtain ⟨rfl, hn⟩ := lput0_some h; simp; exact hn
  | n + 1, [], ws, r, h => by rw [lput_succ_nil] at h; cases h
  | n + 1, x :: t, ws, r, h => by
    rw [lput_succ_cons] at h
    split at h
    · rename_i r' hr; cases h; obtain ⟨rfl, hn⟩ := lput_some hr
      refine ⟨?_, by simp; omega⟩
      rw [show n + 1 + ws.length = (n + ws.length) + 1 by omega]; rfl
    · cases h
theorem lput_getD {n : Nat} {l ws r : List Value} (h : lput l n ws = some r) (i : Nat) :
    r.getD i und = if n ≤ i ∧ i < n + ws.length then ws.getD (i - n) und else l.getD i und := by
  obtain ⟨rfl, hn⟩ := lput_some h
  simp only [List.getD_eq_getElem?_getD]
  have hl : (l.take n).length = n := by rw [List.length_take]; omega
  have hl2 : (l.take n ++ ws).length = n + ws.length := by rw [List.length_append, hl]
  by_cases h1 : i < n
  · rw [if_neg (by omega), List.append_assoc, List.getElem?_append_left (by rw [hl]; exact h1), List.getElem?_take_of_lt h1]
  · by_cases h2 : i < n + ws.length
    · rw [if_pos (by omega), List.getElem?_append_left (by rw [hl2]; exact h2), List.getElem?_append_right (by rw [hl]; omega), hl]
    · rw [if_neg (by omega), List.getElem?_append_right (by rw [hl2]; omega), List.getElem?_drop, hl2, show n + ws.length + (i - (n + ws.length)) = i by omega]
theorem lput_length {n : Nat} {l ws r : List Value} (h : lput l n ws = some r) : r.length = l.length := by
  obtain ⟨rfl, hn⟩ := lput_some h; simp; omega
theorem half1 (e : Nat) : (2 * e + 1) / 2 = e := by omega
theorem half0 (e : Nat) : (2 * e) / 2 = e := by omega
theorem odd1 (e : Nat) : (2 * e + 1) % 2 = 1 := by omega
theorem even0 (e : Nat) : ¬ (2 * e) % 2 = 1 := by omega
structure CellsAt (φ : Ren) (w0 w : World) (id : Nat) (cs : List Value) (e : TypeId) (ro : Bool) (b sh sz : Nat) (c : Array Value) (fz : Nat × Nat) : Prop where
  at_ : φ id = some (b, sh, sz)
  blk : w.heap[b]? = some (.cells c (e / 2) fz)
  exact_ : e % 2 = 1 → sh = 0
  size : c.size = sz
  fit : sh + cs.length ≤ sz
  cell : ∀ i, i < cs.length → VR φ (cs.getD i und) (c.getD (sh + i) und)
  mine : ro = false → w0.heap.size ≤ b ∧ ∀ o, o < sz → ¬ (fz.1 ≤ o ∧ o < fz.2)
inductive MapR (φ : Ren) : List (Value × Value × Nat) → List MapEntry → Prop
  | nil : MapR φ [] []
  | cons {k v : Value} {n : Nat} {t : List (Value × Value × Nat)} {e : MapEntry} {t' : List MapEntry} : e.key = k → flat2 k = true → e.born = n → VR φ v e.val → MapR φ t t' → MapR φ ((k, v, n) :: t) (e :: t')
theorem MapR.mono {φ φ' : Ren} (h : Le φ φ') {a : List (Value × Value × Nat)} {b : List MapEntry} (k : MapR φ a b) : MapR φ' a b := by
  induction k with
  | nil => exact .nil
  | cons e f n v _ ih => exact .cons e f n (v.mono h) ih
theorem MapR.back {φ φ' : Ren} (hle : Le φ φ') {a : List (Value × Value × Nat)} {b c : List MapEntry} (h : MapR φ a b) (k : MapR φ' a c) : MapR φ a c := by
  induction h generalizing c with
  | nil => cases k; exact .nil
  | cons e f n v _ ih => cases k with | cons e' f' n' v' t' => exact .cons e' f' n' (v.back hle v') (ih t')
inductive ObR (φ : Ren) : Ob → Obj → Prop
  | mp {es : List (Value × Value × Nat)} {ms : Array MapEntry} {ck : Nat} : MapR φ es ms.toList → ObR φ (.mp es ck) (.map ms ck)
  | it {id b sh sz since last : Nat} {seen : List Nat} : φ id = some (b, sh, sz) → ObR φ (.it (some id) since seen last) (.mapIter (some b) since ⟨seen⟩ last)
  | itn {since last : Nat} {seen : List Nat} : ObR φ (.it none since seen last) (.mapIter none since ⟨seen⟩ last)
theorem ObR.mono {φ φ' : Ren} (h : Le φ φ') {o : Ob} {O : Obj} (k : ObR φ o O) : ObR φ' o O := by
  cases k with
  | mp k => exact .mp (k.mono h)
  | it k => exact .it (h _ _ k)
  | itn => exact .itn
theorem ObR.back {φ φ' : Ren} (hle : Le φ φ') {o : Ob} {O O' : Obj} (h : ObR φ o O) (k : ObR φ' o O') : ObR φ o O' := by
  cases h with
  | mp h => cases k with | mp k => exact .mp (h.back hle k)
  | it h => cases k with | it k => have := hle _ _ h; rw [this] at k; cases k; exact .it h
  | itn => cases k; exact .itn
theorem ObR.not_cells {φ : Ren} {o : Ob} {c : Array Value} {e : TypeId} {fz : Nat × Nat} (h : ObR φ o (.cells c e fz)) : False := by cases h
structure ObAt (φ : Ren) (w0 w : World) (id : Nat) (o : Ob) (b sh sz : Nat) (O : Obj) : Prop where
  at_ : φ id = some (b, sh, sz)
  blk : w.heap[b]? = some O
  zero : sh = 0
  mine : w0.heap.size ≤ b
  ob : ObR φ o O
structure HR (φ : Ren) (h : Heap) (w0 w : World) : Prop where
  os : w.os = w0.os
  output : w.output = w0.output
  tape : w.tape = w0.tape
  size : w0.heap.size ≤ w.heap.size
  old : ∀ b, b < w0.heap.size → w.heap[b]? = w0.heap[b]?
  dom : ∀ id b sh sz, φ id = some (b, sh, sz) → b < w.heap.size
  cells : ∀ id cs e ro, h.get id = some (.cells cs e ro) → ∃ b sh sz c fz, CellsAt φ w0 w id cs e ro b sh sz c fz
  inj : ∀ i j ci ei cj ej ro bi si zi bj sj zj, i ≠ j → h.get i = some (.cells ci ei false) → h.get j = some (.cells cj ej ro) →
    φ i = some (bi, si, zi) → φ j = some (bj, sj, zj) → bi ≠ bj
  obs : ∀ id o, h.get id = some (.ob o) → ∃ b sh sz O, ObAt φ w0 w id o b sh sz O
  oinj : ∀ i j ei ej bi si zi bj sj zj, i ≠ j → h.get i = some (.ob ei) → h.get j = some (.ob ej) → φ i = some (bi, si, zi) → φ j = some (bj, sj, zj) → bi ≠ bj
theorem HR.drawn {φ : Ren} {h : Heap} {w0 w : World} (H : HR φ h w0 w) (k : Nat) : HR φ h w0 { w with drawn := k } :=
  ⟨H.os, H.output, H.tape, H.size, H.old, H.dom, fun id cs e ro g => let ⟨b, sh, sz, c, fz, q⟩ := H.cells id cs e ro g; ⟨b, sh, sz, c, fz, q.at_, q.blk, q.exact_, q.size, q.fit, q.cell, q.mine⟩, H.inj, fun id o g => let ⟨b, sh, sz, O, q⟩ := H.obs id o g; ⟨b, sh, sz, O, q.at_, q.blk, q.zero, q.mine, q.ob⟩, H.oinj⟩
theorem HR.same {φ : Ren} {h h' : Heap} {w0 w : World} (H : HR φ h w0 w) (e : ∀ id cs t ro, h'.get id = some (.cells cs t ro) → h.get id = some (.cells cs t ro))
    (em : ∀ id o, h'.get id = some (.ob o) → h.get id = some (.ob o)) : HR φ h' w0 w :=
  ⟨H.os, H.output, H.tape, H.size, H.old, H.dom, fun id cs t ro g => H.cells id cs t ro (e _ _ _ _ g), fun i j ci ei cj ej ro bi si zi bj sj zj n g g' => H.inj i j ci ei cj ej ro bi si zi bj sj zj n (e _ _ _ _ g) (e _ _ _ _ g'),
    fun id es g => H.obs id es (em _ _ g), fun i j ei ej bi si zi bj sj zj n g g' => H.oinj i j ei ej bi si zi bj sj zj n (em _ _ g) (em _ _ g')⟩
def upd (φ : Ren) (n : Nat) (x : Nat × Nat × Nat) : Ren := fun i => if i = n then some x else φ i
theorem upd_same (φ : Ren) (n : Nat) (x : Nat × Nat × Nat) : upd φ n x n = some x := by simp [upd]
theorem upd_other (φ : Ren) {n i : Nat} (x : Nat × Nat × Nat) (h : i ≠ n) : upd φ n x i = φ i := by simp [upd, h]
theorem Le.upd {φ : Ren} {n : Nat} (h : φ n = none) (x : Nat × Nat × Nat) : Le φ (upd φ n x) := by
  intro i y hy
  rw [upd_other]
  · exact hy
  · rintro rfl; rw [h] at hy; cases hy
structure Ext (φ φ' : Ren) (lo hi : Nat) : Prop where
  le : Le φ φ'
  new : ∀ id, φ' id ≠ none → φ id ≠ none ∨ (lo ≤ id ∧ id < hi)
theorem Ext.refl (φ : Ren) (lo hi : Nat) : Ext φ φ lo hi := ⟨Le.refl φ, fun _ h => .inl h⟩
theorem Ext.upd {φ : Ren} {n : Nat} (h : φ n = none) (x : Nat × Nat × Nat) : Ext φ (upd φ n x) n (n + 1) :=
  ⟨Le.upd h x, fun id k => by
    by_cases e : id = n
    · right; omega
    · left; rwa [upd_other _ _ e] at k⟩
theorem Ext.trans {φ φ' φ'' : Ren} {a b c d lo hi : Nat} (h : Ext φ φ' a b) (k : Ext φ' φ'' c d) (h1 : lo ≤ a) (h2 : b ≤ hi) (h3 : lo ≤ c) (h4 : d ≤ hi) : Ext φ φ'' lo hi :=
  ⟨h.le.trans k.le, fun id q => by
    rcases k.new id q with q | q
    · rcases h.new id q with q | q
      · exact .inl q
      · right; omega
    · right; omega⟩
theorem Ext.mono {φ φ' : Ren} {a b lo hi : Nat} (h : Ext φ φ' a b) (h1 : lo ≤ a) (h2 : b ≤ hi) : Ext φ φ' lo hi :=
  ⟨h.le, fun id q => by rcases h.new id q with q | q; exact .inl q; right; omega⟩
theorem HR.adopt {φ : Ren} {h : Heap} {w0 w w' : World} (H : HR φ h w0 w) {n b sh sz : Nat} {c : Array Value} {e : TypeId} {fz : Nat × Nat} {cs : List Value} {ro : Bool}
    (hn : φ n = none) (hos : w'.os = w.os) (hout : w'.output = w.output) (htape : w'.tape = w.tape) (hsize : w.heap.size ≤ w'.heap.size)
    (hother : ∀ k, k < w.heap.size → k ≠ b → w'.heap[k]? = w.heap[k]?) (hb : w0.heap.size ≤ b) (hblk : w'.heap[b]? = some (.cells c (e / 2) fz)) (hex : e % 2 = 1 → sh = 0)
    (hfree : ∀ j cj ej rj bj sj zj, h.get j = some (.cells cj ej rj) → φ j = some (bj, sj, zj) → bj ≠ b)
    (hc : c.size = sz) (hfit : sh + cs.length ≤ sz) (hcell : ∀ i, i < cs.length → VR φ (cs.getD i und) (c.getD (sh + i) und))
    (hfz : ro = false → ∀ o, o < sz → ¬ (fz.1 ≤ o ∧ o < fz.2)) (hnm : ∀ O, w.heap[b]? = some O → ∃ c e fz, O = .cells c e fz) :
    HR (upd φ n (b, sh, sz)) (h.set n (.cells cs e ro)) w0 w' := by
  have hbs : b < w'.heap.size := by
    rcases Nat.lt_or_ge b w'.heap.size with q | q
    · exact q
    · rw [Array.getElem?_eq_none q] at hblk; cases hblk
  refine ⟨hos.trans H.os, hout.trans H.output, htape.trans H.tape, Nat.le_trans H.size hsize, fun k hk => ?_, fun id b' sh' sz' q => ?_, fun id cs' e' ro' q => ?_, fun i j ci ei cj ej ro' bi si zi bj sj zj hij gi gj ai aj => ?_, fun id es q => ?_, fun i j ei ej bi si zi bj sj zj hij gi gj ai aj => ?_⟩
  · rw [hother k (Nat.lt_of_lt_of_le hk H.size) (by omega)]; exact H.old k hk
  · by_cases hid : id = n
    · subst hid; rw [upd_same] at q; cases q; exact hbs
    · rw [upd_other _ _ hid] at q; exact Nat.lt_of_lt_of_le (H.dom _ _ _ _ q) hsize
  · rw [Heap.get_set] at q
    by_cases hid : id = n
    · subst hid; rw [if_pos rfl] at q; cases q
      exact ⟨b, sh, sz, c, fz, upd_same _ _ _, hblk, hex, hc, hfit, fun i hi => (hcell i hi).mono (Le.upd hn _), fun hr => ⟨hb, hfz hr⟩⟩
    · rw [if_neg hid] at q
      obtain ⟨b', sh', sz', c', fz', k⟩ := H.cells _ _ _ _ q
      refine ⟨b', sh', sz', c', fz', by rw [upd_other _ _ hid]; exact k.at_, ?_, k.exact_, k.size, k.fit, fun i hi => (k.cell i hi).mono (Le.upd hn _), k.mine⟩
      rw [hother b' (H.dom _ _ _ _ k.at_) (hfree _ _ _ _ _ _ _ q k.at_)]; exact k.blk
  · rw [Heap.get_set] at gi gj
    by_cases hi : i = n
    · subst hi
      rw [if_neg (Ne.symm hij)] at gj
      rw [upd_same] at ai; cases ai
      rw [upd_other _ _ (Ne.symm hij)] at aj
      exact Ne.symm (hfree _ _ _ _ _ _ _ gj aj)
    · rw [if_neg hi] at gi
      rw [upd_other _ _ hi] at ai
      by_cases hj : j = n
      · subst hj
        rw [upd_same] at aj; cases aj
        exact hfree _ _ _ _ _ _ _ gi ai
      · rw [if_neg hj] at gj; rw [upd_other _ _ hj] at aj
        exact H.inj _ _ _ _ _ _ _ _ _ _ _ _ _ hij gi gj ai aj
  · rw [Heap.get_set] at q
    by_cases hid : id = n
    · rw [if_pos hid] at q; cases q
    · rw [if_neg hid] at q
      obtain ⟨b', sh', sz', O, k⟩ := H.obs _ _ q
      refine ⟨b', sh', sz', O, by rw [upd_other _ _ hid]; exact k.at_, ?_, k.zero, k.mine, k.ob.mono (Le.upd hn _)⟩
      rw [hother b' (H.dom _ _ _ _ k.at_) (fun hb' => by obtain ⟨c, e, fz, rfl⟩ := hnm _ (hb' ▸ k.blk); exact k.ob.not_cells)]; exact k.blk
  · rw [Heap.get_set] at gi gj
    by_cases hi : i = n
    · rw [if_pos hi] at gi; cases gi
    · by_cases hj : j = n
      · rw [if_pos hj] at gj; cases gj
      · rw [if_neg hi] at gi; rw [if_neg hj] at gj; rw [upd_other _ _ hi] at ai; rw [upd_other _ _ hj] at aj
        exact H.oinj _ _ _ _ _ _ _ _ _ _ hij gi gj ai aj
theorem HR.turn {φ : Ren} {h : Heap} {w0 w w' : World} (H : HR φ h w0 w) {id b sh sz : Nat} {c : Array Value} {e : TypeId} {fz : Nat × Nat} {cs cs' : List Value} {ro : Bool}
    (hg : h.get id = some (.cells cs e false)) (hat : φ id = some (b, sh, sz)) (hos : w'.os = w.os) (hout : w'.output = w.output) (htape : w'.tape = w.tape) (hsize : w'.heap.size = w.heap.size)
    (hother : ∀ k, k ≠ b → w'.heap[k]? = w.heap[k]?) (hb : w0.heap.size ≤ b) (hblk : w'.heap[b]? = some (.cells c (e / 2) fz)) (hex : e % 2 = 1 → sh = 0)
    (hc : c.size = sz) (hfit : sh + cs'.length ≤ sz) (hcell : ∀ i, i < cs'.length → VR φ (cs'.getD i und) (c.getD (sh + i) und))
    (hfz : ro = false → ∀ o, o < sz → ¬ (fz.1 ≤ o ∧ o < fz.2)) :
    HR φ (h.set id (.cells cs' e ro)) w0 w' := by
  refine ⟨hos.trans H.os, hout.trans H.output, htape.trans H.tape, by rw [hsize]; exact H.size, fun k hk => ?_, fun id b' sh' sz' q => by rw [hsize]; exact H.dom _ _ _ _ q, fun j cj ej rj q => ?_, fun i j ci ei cj ej ro' bi si zi bj sj zj hij gi gj ai aj => ?_, fun j es q => ?_, fun i j ei ej bi si zi bj sj zj hij gi gj ai aj => ?_⟩
  · rw [hother k (by omega)]; exact H.old k hk
  · rw [Heap.get_set] at q
    by_cases hj : j = id
    · subst hj; rw [if_pos rfl] at q; cases q
      exact ⟨b, sh, sz, c, fz, hat, hblk, hex, hc, hfit, hcell, fun hr => ⟨hb, hfz hr⟩⟩
    · rw [if_neg hj] at q
      obtain ⟨b', sh', sz', c', fz', k⟩ := H.cells _ _ _ _ q
      refine ⟨b', sh', sz', c', fz', k.at_, ?_, k.exact_, k.size, k.fit, k.cell, k.mine⟩
      rw [hother b' (Ne.symm (H.inj _ _ _ _ _ _ _ _ _ _ _ _ _ (Ne.symm hj) hg q hat k.at_))]; exact k.blk
  · rw [Heap.get_set] at gi gj
    have gi' : ∃ c', h.get i = some (.cells c' ei false) := by
      by_cases q : i = id
      · subst q; rw [if_pos rfl] at gi; cases gi; exact ⟨_, hg⟩
      · rw [if_neg q] at gi; exact ⟨_, gi⟩
    have gj' : ∃ c' r', h.get j = some (.cells c' ej r') := by
      by_cases q : j = id
      · subst q; rw [if_pos rfl] at gj; cases gj; exact ⟨_, _, hg⟩
      · rw [if_neg q] at gj; exact ⟨_, _, gj⟩
    obtain ⟨_, gi'⟩ := gi'; obtain ⟨_, _, gj'⟩ := gj'
    exact H.inj _ _ _ _ _ _ _ _ _ _ _ _ _ hij gi' gj' ai aj
  · rw [Heap.get_set] at q
    by_cases hid : j = id
    · rw [if_pos hid] at q; cases q
    · rw [if_neg hid] at q
      obtain ⟨b', sh', sz', O, k⟩ := H.obs _ _ q
      refine ⟨b', sh', sz', O, k.at_, ?_, k.zero, k.mine, k.ob⟩
      rw [hother b' fun hb' => ?_]; exact k.blk
      obtain ⟨b2, sh2, sz2, c2, fz2, k2⟩ := H.cells _ _ _ _ hg
      have := k2.at_; rw [hat] at this; cases this
      have := k.blk; rw [hb', k2.blk] at this; cases this
      exact k.ob.not_cells
  · rw [Heap.get_set] at gi gj
    by_cases hi : i = id
    · rw [if_pos hi] at gi; cases gi
    · by_cases hj : j = id
      · rw [if_pos hj] at gj; cases gj
      · rw [if_neg hi] at gi; rw [if_neg hj] at gj
        exact H.oinj _ _ _ _ _ _ _ _ _ _ hij gi gj ai aj
theorem HR.obNew {φ : Ren} {h : Heap} {w0 w w' : World} (H : HR φ h w0 w) {n : Nat} {o : Ob} {O : Obj} (hn : φ n = none) (hos : w'.os = w.os) (hout : w'.output = w.output) (htape : w'.tape = w.tape)
    (hheap : w'.heap = w.heap.push O) (ho : ObR φ o O) : HR (upd φ n (w.heap.size, 0, 0)) (h.set n (.ob o)) w0 w' := by
  have hsz : w'.heap.size = w.heap.size + 1 := by rw [hheap]; simp
  have hold : ∀ k, k < w.heap.size → w'.heap[k]? = w.heap[k]? := fun k hk => by rw [hheap, Array.getElem?_push]; rw [if_neg (by omega)]
  have hnew : w'.heap[w.heap.size]? = some O := by rw [hheap]; simp
  refine ⟨hos.trans H.os, hout.trans H.output, htape.trans H.tape, by have := H.size; omega, fun k hk => ?_, fun id b' sh' sz' q => ?_, fun id cs' e' ro' q => ?_, fun i j ci ei cj ej ro' bi si zi bj sj zj hij gi gj ai aj => ?_, fun id o' q => ?_, fun i j ei ej bi si zi bj sj zj hij gi gj ai aj => ?_⟩
  · rw [hold k (Nat.lt_of_lt_of_le hk H.size)]; exact H.old k hk
  · by_cases hid : id = n
    · subst hid; rw [upd_same] at q; cases q; omega
    · rw [upd_other _ _ hid] at q; have := H.dom _ _ _ _ q; omega
  · rw [Heap.get_set] at q
    by_cases hid : id = n
    · rw [if_pos hid] at q; cases q
    · rw [if_neg hid] at q
      obtain ⟨b', sh', sz', c', fz', k⟩ := H.cells _ _ _ _ q
      exact ⟨b', sh', sz', c', fz', by rw [upd_other _ _ hid]; exact k.at_, by rw [hold _ (H.dom _ _ _ _ k.at_)]; exact k.blk, k.exact_, k.size, k.fit, fun i hi => (k.cell i hi).mono (Le.upd hn _), k.mine⟩
  · rw [Heap.get_set] at gi gj
    by_cases hi : i = n
    · rw [if_pos hi] at gi; cases gi
    · by_cases hj : j = n
      · rw [if_pos hj] at gj; cases gj
      · rw [if_neg hi] at gi; rw [if_neg hj] at gj; rw [upd_other _ _ hi] at ai; rw [upd_other _ _ hj] at aj
        exact H.inj _ _ _ _ _ _ _ _ _ _ _ _ _ hij gi gj ai aj
  · rw [Heap.get_set] at q
    by_cases hid : id = n
    · subst hid; rw [if_pos rfl] at q; cases q
      exact ⟨_, _, _, _, upd_same _ _ _, hnew, rfl, H.size, ho.mono (Le.upd hn _)⟩
    · rw [if_neg hid] at q
      obtain ⟨b', sh', sz', O', k⟩ := H.obs _ _ q
      exact ⟨b', sh', sz', O', by rw [upd_other _ _ hid]; exact k.at_, by rw [hold _ (H.dom _ _ _ _ k.at_)]; exact k.blk, k.zero, k.mine, k.ob.mono (Le.upd hn _)⟩
  · rw [Heap.get_set] at gi gj
    by_cases hi : i = n
    · subst hi; rw [upd_same] at ai; cases ai
      rw [if_neg (Ne.symm hij)] at gj; rw [upd_other _ _ (Ne.symm hij)] at aj
      have := H.dom _ _ _ _ aj; omega
    · rw [if_neg hi] at gi; rw [upd_other _ _ hi] at ai
      by_cases hj : j = n
      · subst hj; rw [upd_same] at aj; cases aj
        have := H.dom _ _ _ _ ai; omega
      · rw [if_neg hj] at gj; rw [upd_other _ _ hj] at aj
        exact H.oinj _ _ _ _ _ _ _ _ _ _ hij gi gj ai aj
theorem HR.obTurn {φ : Ren} {h : Heap} {w0 w w' : World} (H : HR φ h w0 w) {id b sh sz : Nat} {o o' : Ob} {O : Obj}
    (hg : h.get id = some (.ob o)) (hat : φ id = some (b, sh, sz)) (hos : w'.os = w.os) (hout : w'.output = w.output) (htape : w'.tape = w.tape)
    (hheap : w'.heap = w.heap.setIfInBounds b O) (ho : ObR φ o' O) : HR φ (h.set id (.ob o')) w0 w' := by
  obtain ⟨b2, sh2, sz2, O2, k2⟩ := H.obs _ _ hg
  have e2 := k2.at_; rw [hat] at e2; cases e2
  have hlt := H.dom _ _ _ _ hat
  have hsz : w'.heap.size = w.heap.size := by rw [hheap]; simp
  have hoth : ∀ k, k ≠ b → w'.heap[k]? = w.heap[k]? := fun k hk => by rw [hheap]; simp [Ne.symm hk]
  have hnew : w'.heap[b]? = some O := by rw [hheap]; simp [hlt]
  have hb := k2.mine
  refine ⟨hos.trans H.os, hout.trans H.output, htape.trans H.tape, by rw [hsz]; exact H.size, fun k hk => ?_, fun id b' sh' sz' q => by rw [hsz]; exact H.dom _ _ _ _ q, fun j cj ej rj q => ?_, fun i j ci ei cj ej ro' bi si zi bj sj zj hij gi gj ai aj => ?_, fun j oj q => ?_, fun i j ei ej bi si zi bj sj zj hij gi gj ai aj => ?_⟩
  · rw [hoth k (by omega)]; exact H.old k hk
  · rw [Heap.get_set] at q
    by_cases hj : j = id
    · rw [if_pos hj] at q; cases q
    · rw [if_neg hj] at q
      obtain ⟨b', sh', sz', c', fz', k⟩ := H.cells _ _ _ _ q
      refine ⟨b', sh', sz', c', fz', k.at_, ?_, k.exact_, k.size, k.fit, k.cell, k.mine⟩
      rw [hoth b' fun hb' => ?_]; exact k.blk
      have := k.blk; rw [hb', k2.blk] at this; cases this
      exact k2.ob.not_cells
  · rw [Heap.get_set] at gi gj
    by_cases hi : i = id
    · rw [if_pos hi] at gi; cases gi
    · by_cases hj : j = id
      · rw [if_pos hj] at gj; cases gj
      · rw [if_neg hi] at gi; rw [if_neg hj] at gj
        exact H.inj _ _ _ _ _ _ _ _ _ _ _ _ _ hij gi gj ai aj
  · rw [Heap.get_set] at q
    by_cases hj : j = id
    · subst hj; rw [if_pos rfl] at q; cases q
      exact ⟨_, _, _, _, hat, hnew, k2.zero, hb, ho⟩
    · rw [if_neg hj] at q
      obtain ⟨b', sh', sz', O', k⟩ := H.obs _ _ q
      refine ⟨b', sh', sz', O', k.at_, ?_, k.zero, k.mine, k.ob⟩
      rw [hoth b' (H.oinj _ _ _ _ _ _ _ _ _ _ hj q hg k.at_ hat)]; exact k.blk
  · rw [Heap.get_set] at gi gj
    have gi' : ∃ e', h.get i = some (.ob e') := by
      by_cases q : i = id
      · subst q; exact ⟨_, hg⟩
      · rw [if_neg q] at gi; exact ⟨_, gi⟩
    have gj' : ∃ e', h.get j = some (.ob e') := by
      by_cases q : j = id
      · subst q; exact ⟨_, hg⟩
      · rw [if_neg q] at gj; exact ⟨_, gj⟩
    obtain ⟨_, gi'⟩ := gi'; obtain ⟨_, gj'⟩ := gj'
    exact H.oinj _ _ _ _ _ _ _ _ _ _ hij gi' gj' ai aj
theorem HR.kill {φ : Ren} {h : Heap} {w0 w : World} (H : HR φ h w0 w) (id : Nat) : HR φ (h.set id .dead) w0 w := by
  refine H.same (fun j cs t ro g => ?_) fun j es g => ?_
  · rw [Heap.get_set] at g
    by_cases q : j = id
    · rw [if_pos q] at g; cases g
    · rwa [if_neg q] at g
  · rw [Heap.get_set] at g
    by_cases q : j = id
    · rw [if_pos q] at g; cases g
    · rwa [if_neg q] at g
theorem HR.forget {φ φ' : Ren} {h h' : Heap} {w0 w w' : World} (H : HR φ h w0 w) (H' : HR φ' h' w0 w') (hle : Le φ φ')
    (e : ∀ id cs t ro, h.get id = some (.cells cs t ro) → h'.get id = some (.cells cs t ro)) (em : ∀ id o, h.get id = some (.ob o) → h'.get id = some (.ob o)) : HR φ h w0 w' := by
  refine ⟨H'.os, H'.output, H'.tape, H'.size, H'.old, fun id b sh sz q => H'.dom _ _ _ _ (hle _ _ q), fun id cs t ro g => ?_, H.inj, fun id es g => ?_, H.oinj⟩
  · obtain ⟨b, sh, sz, c, fz, k⟩ := H.cells _ _ _ _ g
    obtain ⟨b', sh', sz', c', fz', k'⟩ := H'.cells _ _ _ _ (e _ _ _ _ g)
    have q := k'.at_
    rw [hle _ _ k.at_] at q; cases q
    exact ⟨b, sh, sz, c', fz', k.at_, k'.blk, k'.exact_, k'.size, k'.fit, fun i hi => (k.cell i hi).back hle (k'.cell i hi), k'.mine⟩
  · obtain ⟨b, sh, sz, O, k⟩ := H.obs _ _ g
    obtain ⟨b', sh', sz', O', k'⟩ := H'.obs _ _ (em _ _ g)
    have q := k'.at_
    rw [hle _ _ k.at_] at q; cases q
    exact ⟨b, sh, sz, O', k.at_, k'.blk, k'.zero, k'.mine, k.ob.back hle k'.ob⟩
end Go.Det
end

section
/- A part of an evaluator of closed runs and of its soundness. -/
namespace Go.Det
variable {P : Program}
theorem pureRun_run {α : Type} {m : Sem α} {a : α} (h : pureRun P m = some a) (w : World) : m.run P w = .ok a w := by
  induction m generalizing w with
  | pure x => simp only [pureRun] at h; cases h; rfl
  | program k ih => simp only [pureRun] at h; exact ih _ h w
  | mark m k ih => simp only [pureRun] at h; exact ih h w
  | _ => simp [pureRun] at h
def Gives (P : Program) (w0 : World) (φ : Ren) (lo : Nat) (s' : St) (v : Value) : Result Next → Prop
  | .ok (.value v') w' => ∃ φ', Ext φ φ' lo s'.next ∧ VR φ' v v' ∧ HR φ' s'.h w0 w'
  | .ok .skip w' => ∃ φ', Ext φ φ' lo s'.next ∧ VR φ' v undef ∧ HR φ' s'.h w0 w'
  | .ok (.enter f aso) w1 => Calls P f aso w1 fun e w' => ∃ v' φ', e = .returned v' ∧ Ext φ φ' lo s'.next ∧ VR φ' v v' ∧ HR φ' s'.h w0 w'
  | _ => False
theorem Gives.wp {w0 w : World} {φ : Ren} {lo : Nat} {s' : St} {v : Value} {o : Oper} {a : Act} {next : Act → World → Prop} {Q : Exit → Act → World → Prop}
    (h : Gives P w0 φ lo s' v ((execOp a.eval o).run P w))
    (k : ∀ φ' v' w', Ext φ φ' lo s'.next → VR φ' v v' → HR φ' s'.h w0 w' → next (a.put o.dst v') w') : o.wp P a w next Q := by
  unfold Oper.wp
  revert h
  generalize (execOp a.eval o).run P w = r
  intro h
  cases r with
  | halt x w' => exact h.elim
  | ok n w' =>
    cases n with
    | value v' => obtain ⟨φ', e, q, H⟩ := h; exact k φ' v' w' e q H
    | skip => obtain ⟨φ', e, q, H⟩ := h; exact k φ' undef w' e q H
    | enter f aso =>
      refine Calls.mono (R := fun e w' => ∃ v' φ', e = .returned v' ∧ Ext φ φ' lo s'.next ∧ VR φ' v v' ∧ HR φ' s'.h w0 w') h ?_
      rintro e w' ⟨v', φ', rfl, q1, q2, q3⟩
      exact k φ' v' w' q1 q2 q3
    | _ => exact h.elim
theorem gives_pure {w0 w : World} {φ : Ren} {s : St} {lo : Nat} {v v' : Value} {m : Sem Value} (H : HR φ s.h w0 w) (hv : VR φ v v') (hr : m.run P w = .ok v' w) :
    Gives P w0 φ lo s v ((do pure (Next.value (← m)) : Sem Next).run P w) := by
  rw [Sem.run_bind, hr]
  exact ⟨φ, Ext.refl _ _ _, hv, H⟩
theorem bool_inv {φ : Ren} {b : Bool} {v' : Value} (h : VR φ (.bool b) v') : v' = .bool b := by cases h; rfl
theorem int_inv {φ : Ren} {k : IntKind} {n : Int} {v' : Value} (h : VR φ (.int k n) v') : v' = .int k n := by cases h; rfl
theorem string_inv {φ : Ren} {s : ByteArray} {v' : Value} (h : VR φ (.string s) v') : v' = .string s := by cases h; rfl
section
variable {w0 w : World} {φ : Ren} {l : Tmps} {s s' : St} {v : Value} {ρ : Operand → Value} {lo : Nat}
theorem opMove_ok {x : Operand} (h : opMove x l s = some (v, s')) (H : HR φ s.h w0 w) (hx : VR φ (evalO l x) (ρ x)) :
    Gives P w0 φ lo s' v (Result.ok (Next.value (ρ x)) w) := by
  simp only [opMove, Option.some.injEq, Prod.mk.injEq] at h
  obtain ⟨rfl, rfl⟩ := h
  exact ⟨φ, Ext.refl _ _ _, hx, H⟩
theorem opPick_ok {c a b : Operand} (h : opPick c a b l s = some (v, s')) (H : HR φ s.h w0 w) (hc : VR φ (evalO l c) (ρ c)) (ha : VR φ (evalO l a) (ρ a)) (hb : VR φ (evalO l b) (ρ b)) :
    Gives P w0 φ lo s' v ((do pure (.value (if ← asBool (ρ c) then ρ a else ρ b)) : Sem Next).run P w) := by
  unfold opPick at h
  split at h
  · rename_i t ht
    rw [ht] at hc
    have := bool_inv hc
    cases t <;> simp only [Option.some.injEq, Prod.mk.injEq] at h <;> obtain ⟨rfl, rfl⟩ := h <;> simp [this, asBool, Gives]
    · exact ⟨φ, Ext.refl _ _ _, hb, H⟩
    · exact ⟨φ, Ext.refl _ _ _, ha, H⟩
  · cases h
theorem kindEq_eq {a b : IntKind} (h : kindEq a b = true) : a = b := by cases a <;> cases b <;> simp_all [kindEq]
theorem intBin_run {op : BinOp} {k : IntKind} {a b : Int} {r : Value} (h : intBin op k a b = some r) (t : TypeId) (x y : Operand) (w : World) :
    (do eqGuard op t x y (.int k a) (.int k b); binOp op t (.int k a) (.int k b) : Sem Value).run P w = .ok r w := by
  cases op <;> simp only [intBin] at h <;> first
    | (cases h; simp [eqGuard, binOp, Op.intArith, Op.intCmp]; done)
    | (cases h; simp [eqGuard, binOp, Op.intBits, andI, orI, xorI, andNotI]; done)
    | (split at h
       · cases h
       · rename_i hd
         cases h
         have hd := of_decide_eq_false hd
         simp [eqGuard, binOp, Op.intDiv, hd])
    | (cases h; done)
theorem shiftBin_run {op : BinOp} {k k' : IntKind} {a b : Int} {r : Value} (h : shiftBin op k a b = some r) (t : TypeId) (x y : Operand) (w : World) :
    (do eqGuard op t x y (.int k a) (.int k' b); binOp op t (.int k a) (.int k' b) : Sem Value).run P w = .ok r w := by
  cases op <;> simp only [shiftBin] at h <;> first
    | (split at h
       · cases h
       · rename_i hd
         cases h
         have hd := of_decide_eq_false hd
         simp [eqGuard, binOp, Op.shift, hd, shlI, shrI])
    | (cases h; done)
theorem strBin_run {op : BinOp} {a b : ByteArray} {r : Value} (h : strBin op a b = some r) (t : TypeId) (x y : Operand) (w : World) :
    (do eqGuard op t x y (.string a) (.string b); binOp op t (.string a) (.string b) : Sem Value).run P w = .ok r w := by
  cases op <;> simp only [strBin] at h <;> first
    | (split at h
       · rename_i hd
         cases h
         have hd := Nat.le_of_ble_eq_true hd
         have hd2 : ¬ ((a.size + b.size : Nat) : Int) > IntKind.i64.max := by
           have : IntKind.i64.max = 9223372036854775807 := by decide
           omega
         simp only [eqGuard, binOp, Op.stringOp, if_neg hd2]
         simp
       · cases h)
    | (cases h; simp [eqGuard, binOp, Op.stringOp, strEq, strLt, ByteArray.toList_eq]; done)
    | (cases h; done)
theorem strBin_kind {op : BinOp} {a b : ByteArray} {r : Value} (h : strBin op a b = some r) (φ : Ren) : VR φ r r := by
  cases op <;> simp only [strBin] at h <;> first
    | (split at h
       · cases h; exact .string _
       · cases h)
    | (cases h; exact .bool _)
    | (cases h; done)
theorem shiftBin_kind {op : BinOp} {k : IntKind} {a b : Int} {r : Value} (h : shiftBin op k a b = some r) (φ : Ren) : VR φ r r := by
  cases op <;> simp only [shiftBin] at h <;> first
    | (split at h
       · cases h
       · cases h; exact .int _ _)
    | (cases h; done)
theorem intBin_kind {op : BinOp} {k : IntKind} {a b : Int} {r : Value} (h : intBin op k a b = some r) (φ : Ren) : VR φ r r := by
  cases op <;> simp only [intBin] at h <;> first
    | (cases h; exact .bool _)
    | (cases h; exact .int _ _)
    | (split at h
       · cases h
       · cases h; exact .int _ _)
    | (cases h; done)
theorem eqCells_nil : eqCells [] [] [] = some true := rfl
theorem eqCells_append : ∀ {ks ls : List Nat} {a b : List Value} {r : Bool}, eqCells (ks ++ ls) a b = some r →
    ∃ a1 a2 b1 b2 r1 r2, a = a1 ++ a2 ∧ b = b1 ++ b2 ∧ a1.length = ks.length ∧ b1.length = ks.length ∧ eqCells ks a1 b1 = some r1 ∧ eqCells ls a2 b2 = some r2 ∧ r = (r1 && r2)
  | [], ls, a, b, r, h => ⟨[], a, [], b, true, r, rfl, rfl, rfl, rfl, rfl, h, by simp⟩
  | k :: ks, ls, a, b, r, h => by
    rw [List.cons_append] at h
    unfold eqCells at h
    split at h
    · rename_i e; cases e
    · rename_i ks' k1 x s k2 y t e
      cases e
      split at h
      · rename_i hk
        split at h
        · rename_i r' hr
          cases h
          obtain ⟨a1, a2, b1, b2, r1, r2, rfl, rfl, e1, e2, e3, e4, rfl⟩ := eqCells_append hr
          exact ⟨_ :: a1, a2, _ :: b1, b2, _, r2, rfl, rfl, by simp [e1], by simp [e2], by rw [eqCells, hk, e3], e4, by rw [Bool.and_assoc]⟩
        · cases h
      · cases h
    · rename_i ks' x s y t e
      cases e
      split at h
      · rename_i r' hr
        cases h
        obtain ⟨a1, a2, b1, b2, r1, r2, rfl, rfl, e1, e2, e3, e4, rfl⟩ := eqCells_append hr
        exact ⟨_ :: a1, a2, _ :: b1, b2, _, r2, rfl, rfl, by simp [e1], by simp [e2], by rw [eqCells, e3], e4, by rw [Bool.and_assoc]⟩
      · cases h
    · rename_i ks' x s y t e
      cases e
      split at h
      · rename_i r' hr
        cases h
        obtain ⟨a1, a2, b1, b2, r1, r2, rfl, rfl, e1, e2, e3, e4, rfl⟩ := eqCells_append hr
        exact ⟨_ :: a1, a2, _ :: b1, b2, _, r2, rfl, rfl, by simp [e1], by simp [e2], by rw [eqCells, e3], e4, by rw [Bool.and_assoc]⟩
      · cases h
    · cases h
def EqShape (P : Program) (d : Nat) (t : TypeId) (ks : List Nat) : Prop :=
  ∀ (xa xb x1 ya yb y1 : List Value) (r : Bool) (w : World), xa.length = ya.length → x1.length = ks.length → y1.length = ks.length → eqCells ks x1 y1 = some r →
    ∃ u v, (part t ⟨xa ++ (x1 ++ xb)⟩ xa.length).run P w = .ok u w ∧ (part t ⟨ya ++ (y1 ++ yb)⟩ xa.length).run P w = .ok v w ∧ (Op.equalIn d t u v).run P w = .ok r w
theorem eqFields_run {d : Nat} {sh : TypeId → Option (List Nat)} (hsh : ∀ t ks, sh t = some ks → EqShape P d t ks) : ∀ (fs : List Field) (off : Nat) (ks : List Nat), plainFs P sh off fs = some ks →
    ∀ (xa x1 ya y1 : List Value) (r : Bool) (w : World), xa.length = off → ya.length = off → eqCells ks x1 y1 = some r → (Op.eqFields d ⟨xa ++ x1⟩ ⟨ya ++ y1⟩ fs).run P w = .ok r w
  | [], off, ks, h, xa, x1, ya, y1, r, w, hx, hy, e => by
    simp only [plainFs, Option.some.injEq] at h
    subst h
    unfold eqCells at e
    split at e
    · cases e; simp [Op.eqFields]
    · rename_i q; cases q
    · rename_i q; cases q
    · rename_i q; cases q
    · cases e
  | f :: fs, off, ks, h, xa, x1, ya, y1, r, w, hx, hy, e => by
    unfold plainFs at h
    split at h
    case h_2 => cases h
    rename_i hn
    rw [Bool.and_eq_true] at hn
    have hoff := Nat.eq_of_beq_eq_true hn.2
    have hname : f.name ≠ "_" := by simpa using hn.1
    split at h
    case h_2 => cases h
    rename_i ks1 h1
    split at h
    case h_2 => cases h
    rename_i m hm
    split at h
    case h_2 => cases h
    rename_i hl
    have hl := Nat.eq_of_beq_eq_true hl
    split at h
    case h_2 => cases h
    rename_i ks2 h2
    cases h
    obtain ⟨a1, a2, b1, b2, r1, r2, rfl, rfl, e1, e2, e3, e4, rfl⟩ := eqCells_append e
    obtain ⟨u, v, q1, q2, q3⟩ := hsh _ _ h1 xa a2 a1 ya b2 b1 r1 w (by rw [hx, hy]) e1 e2 e3
    rw [hx] at q1 q2
    have ih := eqFields_run hsh fs (off + m) ks2 h2 (xa ++ a1) a2 (ya ++ b1) b2 r2 w (by simp; omega) (by simp; omega) e4
    rw [List.append_assoc, List.append_assoc] at ih
    simp only [Op.eqFields, if_pos hname, Sem.run_bind, hoff, q1, q2, q3, Result.andThen_ok]
    cases r1
    · simp
    · simpa using ih
theorem part_agg {t : TypeId} {fs : Array Field} {n : Nat} (ht : P.underlying t = some (.struct fs)) (hn : szOf P t = some n) (xa x1 xb : List Value) (h : x1.length = n) (w : World) :
    (part t ⟨xa ++ (x1 ++ xb)⟩ xa.length).run P w = .ok (.agg ⟨x1⟩) w := by
  have e1 : (isAgg t).run P w = .ok true w := by simp [isAgg, run_underlying ht]
  have e2 : (sizeOf t).run P w = .ok n w := by
    unfold szOf at hn
    split at hn
    · rename_i i hi; cases hn; simp [sizeOf, typeInfo, hi]
    · cases hn
  have e3 : (⟨xa ++ (x1 ++ xb)⟩ : Array Value).extract xa.length (xa.length + n) = ⟨x1⟩ := by
    apply Array.ext'
    simp [← h]
  simp only [part, Sem.run_bind, e1, Result.andThen_ok, if_true, e2, e3, Sem.run_pure]
  try rfl
theorem part_cell {t : TypeId} (ht : (isAggB P t) = some false) (xa xb : List Value) (v : Value) (w : World) :
    (part t ⟨xa ++ ([v] ++ xb)⟩ xa.length).run P w = .ok v w := by
  have e1 : (isAgg t).run P w = .ok false w := by
    unfold isAggB at ht
    split at ht <;> first
      | (cases ht; done)
      | (rename_i d hn1 hn2 hd
         simp only [isAgg, Sem.run_bind, run_underlying hd, Result.andThen_ok]
         cases d <;> first | rfl | exact absurd rfl (fun e => hn1 _ e) | exact absurd rfl (fun e => hn2 _ _ e))
  simp [part, e1]
theorem eqShape_cell {D : Nat} {t : TypeId} {k : Nat} (ht : isAggB P t = some false)
    (h : ∀ x y r w, eqCells [k] [x] [y] = some r → (Op.equalIn D t x y).run P w = .ok r w) : EqShape P D t [k] := by
  intro xa xb x1 ya yb y1 r w hl h1 h2 e
  match x1, y1, h1, h2 with
  | [x], [y], _, _ =>
    refine ⟨x, y, part_cell ht xa xb x w, ?_, h x y r w e⟩
    rw [hl]; exact part_cell ht ya yb y w
theorem eqShape_struct {D d : Nat} {t : TypeId} {fs : Array Field} {ks : List Nat} {sh : TypeId → Option (List Nat)} (ht : P.underlying t = some (.struct fs)) (hst : P.stoodInHeld t = false)
    (hs : szOf P t = some ks.length) (hf : plainFs P sh 0 fs.toList = some ks) (hsh : ∀ t ks, sh t = some ks → EqShape P D t ks) (hD : d = D + 1) : EqShape P d t ks := by
  subst hD
  intro xa xb x1 ya yb y1 r w hl h1 h2 e
  refine ⟨.agg ⟨x1⟩, .agg ⟨y1⟩, part_agg ht hs xa x1 xb h1 w, by rw [hl]; exact part_agg ht hs ya y1 yb h2 w, ?_⟩
  have hfs : P.fieldsOf t = fs := by unfold Program.fieldsOf; rw [ht]
  rw [run_equalIn_struct w D t ⟨x1⟩ ⟨y1⟩ (by rw [hfs]; exact ht) hst, hfs]
  exact eqFields_run hsh fs.toList 0 ks hf [] x1 [] y1 r w rfl rfl e
theorem isAggB_of {t : TypeId} {D : TypeDesc} (h : P.underlying t = some D) (h1 : ∀ fs, D ≠ .struct fs) (h2 : ∀ n e, D ≠ .array n e) : isAggB P t = some false := by
  unfold isAggB
  rw [h]
  cases D <;> first | rfl | exact absurd rfl (h1 _) | exact absurd rfl (h2 _ _)
theorem eqCells_one {k : Nat} {x y : Value} {r : Bool} (h : eqCells [k] [x] [y] = some r) :
    (k = 0 ∧ ∃ q a b, x = .int q a ∧ y = .int q b ∧ r = (a == b)) ∨ (k = 1 ∧ ∃ a b, x = .bool a ∧ y = .bool b ∧ r = (a == b)) ∨ (k = 2 ∧ ∃ a b, x = .string a ∧ y = .string b ∧ r = strEq a b) := by
  unfold eqCells at h
  split at h
  · rename_i q _ _; cases q
  · rename_i e1 e2 e3
    cases e1; cases e2; cases e3
    split at h
    · rename_i hk
      have hk := kindEq_eq hk
      subst hk
      rw [eqCells_nil] at h
      cases h
      exact .inl ⟨rfl, _, _, _, rfl, rfl, by simp⟩
    · cases h
  · rename_i e1 e2 e3
    cases e1; cases e2; cases e3
    rw [eqCells_nil] at h
    cases h
    exact .inr (.inl ⟨rfl, _, _, rfl, rfl, by simp⟩)
  · rename_i e1 e2 e3
    cases e1; cases e2; cases e3
    rw [eqCells_nil] at h
    cases h
    exact .inr (.inr ⟨rfl, _, _, rfl, rfl, by simp⟩)
  · cases h
theorem plainFs_congr {f g : TypeId → Option (List Nat)} (hfg : ∀ t ks m, f t = some ks → szOf P t = some m → Nat.beq m ks.length = true → g t = some ks) : ∀ (fs : List Field) (off : Nat) (ks : List Nat), plainFs P f off fs = some ks → plainFs P g off fs = some ks
  | [], off, ks, h => h
  | x :: fs, off, ks, h => by
    unfold plainFs at h ⊢
    split at h
    case h_2 => cases h
    split at h
    case h_2 => cases h
    rename_i ks1 h1
    split at h
    case h_2 => cases h
    rename_i m hm
    split at h
    case h_2 => cases h
    rename_i hl
    split at h
    case h_2 => cases h
    rename_i ks2 h2
    rw [hfg _ _ _ h1 hm hl]
    simp only [hl, plainFs_congr hfg fs _ _ h2]
    exact h
theorem plain_shape : ∀ (d D : Nat), d ≤ D → ∀ (t : TypeId) (ks : List Nat), plainSh P d t = some ks → (∀ fs, P.underlying t = some (.struct fs) → szOf P t = some ks.length) → EqShape P D t ks
  | 0, _, _, t, ks, h, _ => by cases h
  | d + 1, 0, hD, t, ks, h, _ => by omega
  | d + 1, D + 1, hD, t, ks, h, hs => by
    unfold plainSh at h
    split at h
    · rename_i hu
      cases h
      refine eqShape_cell (isAggB_of hu (fun _ => by simp) (fun _ _ => by simp)) fun x y r w e => ?_
      rcases eqCells_one e with ⟨q, _⟩ | ⟨_, a, b, rfl, rfl, rfl⟩ | ⟨q, _⟩
      · cases q
      · exact run_equalIn_bool' w D t a b hu
      · cases q
    · rename_i k hu
      cases h
      refine eqShape_cell (isAggB_of hu (fun _ => by simp) (fun _ _ => by simp)) fun x y r w e => ?_
      rcases eqCells_one e with ⟨_, k2, a, b, rfl, rfl, rfl⟩ | ⟨q, _⟩ | ⟨q, _⟩
      · exact run_equalIn_int w D t k2 k a b hu
      · cases q
      · cases q
    · rename_i hu
      cases h
      refine eqShape_cell (isAggB_of hu (fun _ => by simp) (fun _ _ => by simp)) fun x y r w e => ?_
      rcases eqCells_one e with ⟨q, _⟩ | ⟨q, _⟩ | ⟨_, a, b, rfl, rfl, rfl⟩
      · cases q
      · cases q
      · rw [run_equalIn_string w D t a b hu, ByteArray.toList_eq, ByteArray.toList_eq]; rfl
    · rename_i fs hu
      split at h
      · cases h
      · rename_i hst
        refine eqShape_struct hu hst (hs fs hu) (sh := fun t => match plainSh P d t, szOf P t with | some ks, some m => (match Nat.beq m ks.length with | true => some ks | false => none) | _, _ => none) ?_ ?_ rfl
        · refine plainFs_congr ?_ _ _ _ h
          intro t ks m h1 h2 h3
          simp only [h1, h2, h3]
        · intro t' ks' h'
          split at h'
          case h_2 => cases h'
          rename_i ks2 m h1 h2
          split at h'
          case h_2 => cases h'
          rename_i h3
          cases h'
          exact plain_shape d D (by omega) t' ks' h1 fun _ _ => by rw [h2, Nat.eq_of_beq_eq_true h3]
    · cases h
theorem ptr_inv {φ : Ren} {id off : Nat} {v' : Value} (h : VR φ (.pointer (some ⟨id, off, none⟩)) v') :
    ∃ b sh sz, φ id = some (b, sh, sz) ∧ v' = .pointer (some ⟨b, sh + off, none⟩) := by
  cases h with | ptr _ _ b sh sz e => exact ⟨b, sh, sz, e, rfl⟩
theorem psome_inv {φ : Ren} {a : Addr} {v' : Value} (h : VR φ (.pointer (some a)) v') : ∃ a', v' = .pointer (some a') := by
  cases h; exact ⟨_, rfl⟩
theorem pnil_inv {φ : Ren} {v' : Value} (h : VR φ (.pointer none) v') : v' = .pointer none := by cases h; rfl
theorem emp_inv {φ : Ren} {v' : Value} (h : VR φ emp v') : ∃ a c, v' = .slice a 0 c := by
  generalize hv : emp = V at h
  cases h <;> first | exact ⟨_, _, rfl⟩ | (simp [und] at hv; done)
theorem snil_inv {φ : Ren} {n c : Nat} {v' : Value} (h : VR φ (.slice none n c) v') : v' = .slice none n c := by cases h; rfl
theorem ssome_inv {φ : Ren} {a : Addr} {n c : Nat} {v' : Value} (h : VR φ (.slice (some a) n c) v') : ∃ a' c', v' = .slice (some a') n c' := by
  generalize hv : Value.slice (some a) n c = V at h
  cases h <;> first | (cases hv; exact ⟨_, _, rfl⟩) | (simp [und] at hv; done)
theorem mnil_inv {φ : Ren} {v' : Value} (h : VR φ (.map none) v') : v' = .map none := by cases h; rfl
theorem msome_inv {φ : Ren} {a : Nat} {v' : Value} (h : VR φ (.map (some a)) v') : ∃ a', v' = .map (some a') := by cases h; exact ⟨_, rfl⟩
theorem nilFunc_inv {φ : Ren} {v' : Value} (h : VR φ .nilFunc v') : v' = .nilFunc := by cases h; rfl
theorem func_inv {φ : Ren} {fn : Fn} {a c : Array Value} {v' : Value} (h : VR φ (.func fn a c) v') : ∃ a' c', v' = .func fn a' c' ∧ VRL φ a.toList a'.toList ∧ VRL φ c.toList c'.toList := by
  cases h with | func _ a a' c c' e1 e2 e3 e4 => exact ⟨⟨a'⟩, ⟨c'⟩, rfl, ⟨e1, e2⟩, ⟨e3, e4⟩⟩
theorem nilIface_inv {φ : Ren} {v' : Value} (h : VR φ .nilIface v') : v' = .nilIface := by cases h; rfl
theorem iface_inv {φ : Ren} {t : TypeId} {x v' : Value} (h : VR φ (.iface t x) v') : ∃ x', v' = .iface t x' ∧ VR φ x x' := by cases h with | iface _ _ x' q => exact ⟨x', rfl, q⟩
theorem agg_inv {φ : Ren} {a : Array Value} {v' : Value} (h : VR φ (.agg a) v') : ∃ a', v' = .agg a' ∧ VRL φ a.toList a'.toList := by
  cases h with | agg a a' e q => exact ⟨⟨a'⟩, rfl, e, q⟩
theorem tuple_inv {φ : Ren} {x : Value} {xs : List Value} {v' : Value} (h : VR φ (.tuple ⟨x :: xs⟩) v') : ∃ a', v' = .tuple a' ∧ VRL φ (x :: xs) a'.toList := by
  cases h with | tuple a a' e q => exact ⟨⟨a'⟩, rfl, e, q⟩
theorem nilEq_run {t : TypeId} {a b a' b' : Value} {r : Bool} (h : nilEq (typ P t) a b = some r) (ha : VR φ a a') (hb : VR φ b b') (op : BinOp) (x y : Operand) (w : World) :
    (eqGuard op t x y a' b').run P w = .ok () w ∧ (Op.equal t a' b').run P w = .ok r w ∧
      binOp .eql t a' b' = (do pure (.bool (← Op.equal t a' b'))) ∧ binOp .neq t a' b' = (do pure (.bool (!(← Op.equal t a' b')))) := by
  unfold nilEq typ at h
  split at h <;> (try split at h) <;> simp only [Option.some.injEq, reduceCtorEq] at h <;> subst h <;>
    (first
      | (obtain ⟨_, rfl⟩ := psome_inv ha; obtain rfl := pnil_inv hb)
      | (obtain rfl := pnil_inv ha; obtain ⟨_, rfl⟩ := psome_inv hb)
      | (obtain ⟨_, _, rfl⟩ := ssome_inv ha; obtain rfl := snil_inv hb)
      | (obtain rfl := snil_inv ha; obtain ⟨_, _, rfl⟩ := ssome_inv hb)
      | (obtain ⟨_, rfl⟩ := msome_inv ha; obtain rfl := mnil_inv hb)
      | (obtain rfl := mnil_inv ha; obtain ⟨_, rfl⟩ := msome_inv hb)
      | (obtain rfl := nilFunc_inv ha; obtain ⟨_, _, rfl, _⟩ := func_inv hb)
      | (obtain ⟨_, _, rfl, _⟩ := func_inv ha; obtain rfl := nilFunc_inv hb)
      | (obtain ⟨_, rfl, _⟩ := iface_inv ha; obtain rfl := nilIface_inv hb)
      | (obtain rfl := nilIface_inv ha; obtain ⟨_, rfl, _⟩ := iface_inv hb)) <;>
    refine ⟨?_, ?_, rfl, rfl⟩ <;>
    first
      | (cases op <;> simp [eqGuard]; done)
      | (rw [show ∀ a b, Op.equal t a b = Op.equalIn (9999 + 1) t a b from fun _ _ => rfl, Op.equalIn, Sem.run_bind, run_underlying (by assumption)]; rfl)
theorem ptrEq_run {t : TypeId} {a b a' b' : Value} {r : Bool} (h : ptrEq P t a b = some r) (ha : VR φ a a') (hb : VR φ b b') (op : BinOp) (x y : Operand) (w : World) :
    (eqGuard op t x y a' b').run P w = .ok () w ∧ (Op.equal t a' b').run P w = .ok r w ∧
      binOp .eql t a' b' = (do pure (.bool (← Op.equal t a' b'))) ∧ binOp .neq t a' b' = (do pure (.bool (!(← Op.equal t a' b')))) := by
  unfold ptrEq at h
  split at h
  · rename_i i o j p
    split at h
    · rename_i hij
      have hij : i = j := Nat.eq_of_beq_eq_true hij
      subst hij
      split at h
      · rename_i e ht
        split at h
        · rename_i n hn
          split at h
          · cases h
          · rename_i hn0
            simp only [Option.some.injEq] at h
            obtain ⟨b1, sh, sz, e1, rfl⟩ := ptr_inv ha
            obtain ⟨b2, sh2, sz2, e2, rfl⟩ := ptr_inv hb
            rw [e1] at e2; cases e2
            refine ⟨by cases op <;> simp [eqGuard], ?_, rfl, rfl⟩
            have hs : (sizeOf e).run P w = .ok n w := by
              unfold szOf at hn
              split at hn
              · rename_i i hi; cases hn; simp [sizeOf, typeInfo, hi]
              · cases hn
            rw [show ∀ a b, Op.equal t a b = Op.equalIn (9999 + 1) t a b from fun _ _ => rfl, Op.equalIn, Sem.run_bind, run_underlying ht]
            have hn0 : n ≠ 0 := by rintro rfl; simp at hn0
            simp only [Result.andThen_ok, Sem.run_bind, hs, Sem.run_ite, if_pos hn0, sameAddr, beq_self_eq_true, if_true, ← h]
            simp
            rw [Bool.eq_iff_iff]; simp
        · cases h
      · cases h
    · cases h
  · exact nilEq_run h ha hb op x y w
theorem i64_and255 (n : Int) : bits .and .i64 n 255 = n % 256 := by
  have h255 : (BitVec.ofInt 64 255).toNat = 2 ^ 8 - 1 := by decide
  have key : (BitVec.ofInt 64 n &&& BitVec.ofInt 64 255).toNat = (n % ((2 ^ 64 : Nat) : Int)).toNat % 2 ^ 8 := by
    rw [BitVec.toNat_and, BitVec.toNat_ofInt, h255, Nat.and_two_pow_sub_one_eq_mod]
  show IntKind.i64.wrap ((BitVec.ofInt 64 n &&& BitVec.ofInt 64 255).toNat : Nat) = n % 256
  rw [key, IntKind.wrap_i64]
  omega
theorem i64_and_bits (n : Int) {k : Nat} (hk : k ≤ 15) : bits .and .i64 n ((2 ^ k - 1 : Nat) : Int) = n % ((2 ^ k : Nat) : Int) := by
  have hM : (BitVec.ofInt 64 ((2 ^ k - 1 : Nat) : Int)).toNat = 2 ^ k - 1 := by
    rw [BitVec.toNat_ofInt]
    have : 2 ^ k ≤ 2 ^ 15 := Nat.pow_le_pow_right (by omega) hk
    omega
  have key : (BitVec.ofInt 64 n &&& BitVec.ofInt 64 ((2 ^ k - 1 : Nat) : Int)).toNat = (n % ((2 ^ 64 : Nat) : Int)).toNat % 2 ^ k := by
    rw [BitVec.toNat_and, BitVec.toNat_ofInt, hM, Nat.and_two_pow_sub_one_eq_mod]
  show IntKind.i64.wrap ((BitVec.ofInt 64 n &&& BitVec.ofInt 64 ((2 ^ k - 1 : Nat) : Int)).toNat : Nat) = _
  rw [key, IntKind.wrap_i64]
  have hd : k = 0 ∨ k = 1 ∨ k = 2 ∨ k = 3 ∨ k = 4 ∨ k = 5 ∨ k = 6 ∨ k = 7 ∨ k = 8 ∨ k = 9 ∨ k = 10 ∨ k = 11 ∨ k = 12 ∨ k = 13 ∨ k = 14 ∨ k = 15 := by omega
  rcases hd with rfl | rfl | rfl | rfl | rfl | rfl | rfl | rfl | rfl | rfl | rfl | rfl | rfl | rfl | rfl | rfl <;> simp only [Nat.reducePow] <;> omega
theorem eqCells_flat : ∀ {ks : List Nat} {a b : List Value} {r : Bool}, eqCells ks a b = some r → flatL a = true ∧ flatL b = true
  | [], a, b, r, h => by
    unfold eqCells at h
    split at h
    · exact ⟨rfl, rfl⟩
    · rename_i q; cases q
    · rename_i q; cases q
    · rename_i q; cases q
    · cases h
  | k :: ks, a, b, r, h => by
    unfold eqCells at h
    split at h
    · rename_i q; cases q
    · rename_i e
      cases e
      split at h
      · split at h
        · rename_i hr
          obtain ⟨q1, q2⟩ := eqCells_flat hr
          exact ⟨by simp [flatL, flat1, q1], by simp [flatL, flat1, q2]⟩
        · cases h
      · cases h
    · rename_i e
      cases e
      split at h
      · rename_i hr
        obtain ⟨q1, q2⟩ := eqCells_flat hr
        exact ⟨by simp [flatL, flat1, q1], by simp [flatL, flat1, q2]⟩
      · cases h
    · rename_i e
      cases e
      split at h
      · rename_i hr
        obtain ⟨q1, q2⟩ := eqCells_flat hr
        exact ⟨by simp [flatL, flat1, q1], by simp [flatL, flat1, q2]⟩
      · cases h
    · cases h
theorem aggEq_run {t : TypeId} {a b : List Value} {r : Bool} (h : aggEq P t a b = some r) (w : World) :
    (Op.equalIn 10000 t (.agg ⟨a⟩) (.agg ⟨b⟩)).run P w = .ok r w ∧ P.eqGuardType P.depth t = false ∧ flatL a = true ∧ flatL b = true := by
  unfold aggEq at h
  split at h
  case h_2 => cases h
  rename_i fs hu
  split at h
  · cases h
  rename_i hg
  rw [Bool.or_eq_false_iff] at hg
  split at h
  case h_2 => cases h
  rename_i ks hk
  refine ⟨?_, hg.2, (eqCells_flat h).1, (eqCells_flat h).2⟩
  have hfs : P.fieldsOf t = fs := by unfold Program.fieldsOf; rw [hu]
  show (Op.equalIn (9999 + 1) t (.agg ⟨a⟩) (.agg ⟨b⟩)).run P w = .ok r w
  rw [run_equalIn_struct w 9999 t ⟨a⟩ ⟨b⟩ (by rw [hfs]; exact hu) hg.1, hfs]
  refine eqFields_run (sh := fun t => match plainSh P 11 t, szOf P t with | some ks, some m => (match Nat.beq m ks.length with | true => some ks | false => none) | _, _ => none) ?_ fs.toList 0 ks ?_ [] a [] b r w rfl rfl h
  · intro t' ks' h'
    split at h'
    case h_2 => cases h'
    rename_i ks2 m h1 h2
    split at h'
    case h_2 => cases h'
    rename_i h3
    cases h'
    exact plain_shape 11 9999 (by decide) t' ks' h1 fun _ _ => by rw [h2, Nat.eq_of_beq_eq_true h3]
  · refine plainFs_congr ?_ _ _ _ hk
    intro t ks m h1 h2 h3
    simp only [h1, h2, h3]
theorem opBin_ok {op : BinOp} {t : TypeId} {x y : Operand} (h : opBin P op t x y l s = some (v, s')) (H : HR φ s.h w0 w) (hx : VR φ (evalO l x) (ρ x)) (hy : VR φ (evalO l y) (ρ y)) :
    Gives P w0 φ lo s' v ((do pure (.value (← (do eqGuard op t x y (ρ x) (ρ y); binOp op t (ρ x) (ρ y)))) : Sem Next).run P w) := by
  unfold opBin ofV at h
  split at h
  case h_2 => cases h
  rename_i r hr
  simp only [Option.some.injEq, Prod.mk.injEq] at h
  obtain ⟨rfl, rfl⟩ := h
  revert hx hy hr
  generalize evalO l x = a
  generalize evalO l y = b
  generalize ρ x = a'
  generalize ρ y = b'
  intro ha hb hr
  have hS : ∀ {a b a' b' : Value} {r : Value}, VR φ a a' → VR φ b b' → binS P op t x y a b = some r → Gives P w0 φ lo s r ((do pure (.value (← (do eqGuard op t x y a' b'; binOp op t a' b'))) : Sem Next).run P w) := by
    intro a b a' b' r ha hb h
    unfold binS at h
    split at h
    · rename_i hf
      simp only [Bool.and_eq_true] at hf
      split at h
      · rename_i r' hr'
        split at h
        · rename_i hfr
          cases h
          rw [flat2_inv hf.1 ha, flat2_inv hf.2 hb]
          exact gives_pure H (flat_self hfr φ) (pureRun_run hr' w)
        · cases h
      · cases h
    · split at h
      · rename_i r' hr'
        cases h
        obtain ⟨q1, q2, q3, q4⟩ := ptrEq_run hr' ha hb .eql x y w
        refine gives_pure H (.bool _) ?_
        rw [Sem.run_bind, q1, Result.andThen_ok, q3, Sem.run_bind, q2]; rfl
      · rename_i r' hr'
        cases h
        obtain ⟨q1, q2, q3, q4⟩ := ptrEq_run hr' ha hb .neq x y w
        refine gives_pure H (.bool _) ?_
        rw [Sem.run_bind, q1, Result.andThen_ok, q4, Sem.run_bind, q2]; rfl
      · cases h
  unfold binD at hr
  split at hr
  · rename_i c n
    obtain ⟨m, rfl, hm⟩ : ∃ m, a' = .int .i64 m ∧ markOk c m := by cases ha with | mark _ m hm => exact ⟨m, rfl, hm⟩
    rw [int_inv hb]
    unfold markBin at hr
    split at hr
    · split at hr
      · rename_i hbig
        have hbig := Nat.le_of_ble_eq_true hbig
        split at hr
        case h_2 => cases hr
        rename_i hc
        rw [Bool.and_eq_true, Bool.and_eq_true] at hc
        obtain ⟨hn, hc, hle⟩ := hc
        have hn := of_decide_eq_true hn
        have hn : n = ((2 ^ (c / 2 % 65536 - 256) - 1 : Nat) : Int) := hn
        subst hn
        have hc := Nat.eq_of_beq_eq_true hc
        have hle := Nat.le_of_ble_eq_true hle
        cases hr
        refine gives_pure H (v' := .int .i64 (bits .and .i64 m ((2 ^ (c / 2 % 65536 - 256) - 1 : Nat) : Int))) ?_ (by simp [eqGuard, binOp, Op.intBits, bits])
        rw [i64_and_bits m (by omega)]
        rcases hm with ⟨_, h2, _⟩ | ⟨h1, _⟩ | ⟨_, _, h3⟩
        · omega
        · omega
        · rw [h3]; exact .int _ _
      rename_i hbig
      have hbig : c / 2 % 65536 < 256 := by
        rcases Nat.lt_or_ge (c / 2 % 65536) 256 with q | q
        · exact q
        · exact absurd (Nat.ble_eq_true_of_le q) (by rw [hbig]; simp)
      split at hr
      case h_2 => cases hr
      rename_i hc
      rw [Bool.and_eq_true] at hc
      obtain ⟨hn, hc⟩ := hc
      obtain rfl := of_decide_eq_true hn
      have hc := Nat.eq_of_beq_eq_true hc
      cases hr
      refine gives_pure H (v' := .int .i64 (bits .and .i64 m 255)) (.mark _ _ ?_) (by simp [eqGuard, binOp, Op.intBits, bits])
      rw [i64_and255]
      rcases hm with ⟨_, _, h2⟩ | ⟨h1, _⟩ | ⟨_, h1, _⟩
      · right; left
        refine ⟨by omega, by omega, ?_⟩
        rw [show (c + 1) / 2 = c / 2 by omega, show (c + 1) / 131072 = c / 131072 by omega]
        exact h2
      · omega
      · omega
    · split at hr
      case h_2 => cases hr
      rename_i hc
      rw [Bool.and_eq_true, Bool.and_eq_true] at hc
      obtain ⟨hn, hc, hd⟩ := hc
      obtain rfl := of_decide_eq_true hn
      have hc := Nat.eq_of_beq_eq_true hc
      have hd := Nat.le_of_ble_eq_true hd
      cases hr
      rcases hm with ⟨h1, _⟩ | ⟨_, h1, h2⟩ | ⟨h1, _⟩
      · omega
      · refine gives_pure H (v' := .int .i64 (m.tmod ((c / 2 % 65536 : Nat) : Int))) ?_ ?_
        · rw [Int.tmod_eq_emod_of_nonneg h1, h2]; exact .int _ _
        · have hne : ¬ ((c / 2 % 65536 : Nat) : Int) = 0 := by omega
          simp only [eqGuard, binOp, Op.intDiv, hne, if_false]
          rfl
      · omega
    · cases hr
  · rename_i k m k' n
    rw [int_inv ha, int_inv hb]
    split at hr
    · rename_i v hv
      cases hr
      exact gives_pure H (shiftBin_kind hv φ) (shiftBin_run hv t x y w)
    · split at hr
      · rename_i hk
        rw [← kindEq_eq hk]
        exact gives_pure H (intBin_kind hr φ) (intBin_run hr t x y w)
      · cases hr
  · rename_i p q
    split at hr
    · rename_i v hv
      cases hr
      rw [string_inv ha, string_inv hb]
      exact gives_pure H (strBin_kind hv φ) (strBin_run hv t x y w)
    · exact hS ha hb hr
  · rename_i p q
    split at hr
    · rename_i v hv
      cases hr
      obtain ⟨p⟩ := p
      obtain ⟨q⟩ := q
      unfold aggBin at hv
      split at hv
      · split at hv
        case h_2 => cases hv
        rename_i r hr
        cases hv
        obtain ⟨h1, h2, h3, h4⟩ := aggEq_run hr w
        rw [flat2_inv (v := .agg ⟨p⟩) h3 ha, flat2_inv (v := .agg ⟨q⟩) h4 hb]
        refine gives_pure H (.bool _) ?_
        rw [Sem.run_bind, run_eqGuard_agg w _ t x y _ _ h2, Result.andThen_ok, run_eql_struct, h1]; rfl
      · split at hv
        case h_2 => cases hv
        rename_i r hr
        cases hv
        obtain ⟨h1, h2, h3, h4⟩ := aggEq_run hr w
        rw [flat2_inv (v := .agg ⟨p⟩) h3 ha, flat2_inv (v := .agg ⟨q⟩) h4 hb]
        refine gives_pure H (.bool _) ?_
        rw [Sem.run_bind, run_eqGuard_agg w _ t x y _ _ h2, Result.andThen_ok, run_neq_struct, h1]; rfl
      · cases hv
    · exact hS ha hb hr
  · exact hS ha hb hr
theorem opUn_ok {op : UnOp} {x : Operand} (h : opUn P op x l s = some (v, s')) (H : HR φ s.h w0 w) (hx : VR φ (evalO l x) (ρ x)) :
    Gives P w0 φ lo s' v ((do pure (.value (← Op.unary op (ρ x))) : Sem Next).run P w) := by
  unfold opUn at h
  split at h
  · rename_i hf
    split at h
    · rename_i r hr
      split at h
      · rename_i hfr
        simp only [Option.some.injEq, Prod.mk.injEq] at h
        obtain ⟨rfl, rfl⟩ := h
        rw [flat2_inv hf hx]
        exact gives_pure H (flat_self hfr φ) (pureRun_run hr w)
      · cases h
    · cases h
  · cases h
theorem opMakeInterface_ok {t : TypeId} {x : Operand} (h : opMakeInterface P t x l s = some (v, s')) (H : HR φ s.h w0 w) (hx : VR φ (evalO l x) (ρ x)) :
    Gives P w0 φ lo s' v ((do pure (.value (← Instr.makeInterface t (ρ x))) : Sem Next).run P w) := by
  unfold opMakeInterface typ at h
  split at h
  · rename_i d hd
    split at h
    · cases h
    · rename_i hni
      simp only [Option.some.injEq, Prod.mk.injEq] at h
      obtain ⟨rfl, rfl⟩ := h
      refine gives_pure H (.iface _ _ _ hx) ?_
      unfold Instr.makeInterface
      rw [Sem.run_bind, run_underlying hd]
      cases d <;> first | rfl | exact absurd rfl (hni _)
  · cases h
theorem evalL_ok {xs : List Operand} (h : ∀ x ∈ xs, VR φ (evalO l x) (ρ x)) : VRL φ (evalL l xs) (xs.map ρ) := by
  induction xs with
  | nil => exact VRL.nil φ
  | cons x t ih => exact VRL.cons (h x (by simp)) (ih fun y hy => h y (by simp [hy]))
theorem pairsO_ok {xs : List (Nat × Operand)} (h : ∀ x ∈ xs, VR φ (evalO l x.2) (ρ x.2)) :
    (pairsO l xs).map (·.1) = xs.map (·.1) ∧ VRL φ ((pairsO l xs).map (·.2)) (xs.map fun x => ρ x.2) := by
  induction xs with
  | nil => exact ⟨rfl, VRL.nil φ⟩
  | cons x t ih =>
    obtain ⟨i1, i2⟩ := ih fun y hy => h y (by simp [hy])
    obtain ⟨i, x⟩ := x
    exact ⟨by simp [pairsO, i1], VRL.cons (h (i, x) (by simp)) i2⟩
theorem opMakeFunc_ok {fn : Fn} {a b : Array Operand} (h : opMakeFunc fn a b l s = some (v, s')) (H : HR φ s.h w0 w) (ha : ∀ x ∈ a.toList, VR φ (evalO l x) (ρ x)) (hb : ∀ x ∈ b.toList, VR φ (evalO l x) (ρ x)) :
    Gives P w0 φ lo s' v ((do pure (.value (← Instr.makeFunc fn (a.map ρ) (b.map ρ))) : Sem Next).run P w) := by
  simp only [opMakeFunc, Option.some.injEq, Prod.mk.injEq] at h
  obtain ⟨rfl, rfl⟩ := h
  have h1 := evalL_ok ha
  have h2 := evalL_ok hb
  obtain ⟨a⟩ := a
  obtain ⟨b⟩ := b
  exact gives_pure H (v' := Value.func fn ⟨a.map ρ⟩ ⟨b.map ρ⟩) (.func fn _ _ _ _ h1.1 h1.2 h2.1 h2.2) (by simp [Instr.makeFunc])
theorem opExtract_ok {t : Operand} {i : Nat} (h : opExtract t i l s = some (v, s')) (H : HR φ s.h w0 w) (hx : VR φ (evalO l t) (ρ t)) :
    Gives P w0 φ lo s' v ((do pure (.value (← Instr.extract (ρ t) i)) : Sem Next).run P w) := by
  unfold opExtract at h
  split at h
  · rename_i vs hv
    split at h
    · cases h
    · rename_i x xs hxs
      obtain ⟨vs⟩ := vs
      simp only at hxs; subst hxs
      rw [hv] at hx
      obtain ⟨a', ha', q⟩ := tuple_inv hx
      unfold ofV at h
      split at h
      · rename_i r hr
        simp only [Option.some.injEq, Prod.mk.injEq] at h
        obtain ⟨rfl, rfl⟩ := h
        have hnth : ∀ {l : List Value} {i : Nat} {r : Value}, nth l i = some r → l[i]? = some r := by
          intro l
          induction l with
          | nil => intro i r h; simp [nth] at h
          | cons a t ih => intro i r h; cases i with | zero => simpa [nth] using h | succ i => simpa using ih (by simpa [nth] using h)
        have hr := hnth hr
        have hi : i < (x :: xs).length := by
          rcases Nat.lt_or_ge i (x :: xs).length with q | q
          · exact q
          · rw [List.getElem?_eq_none q] at hr; cases hr
        have hv1 := q.2 i
        have hi' : i < a'.toList.length := by rw [← q.1]; exact hi
        rw [List.getD_eq_getElem?_getD, hr, List.getD_eq_getElem?_getD, List.getElem?_eq_getElem hi'] at hv1
        refine gives_pure H hv1 ?_
        rw [ha']
        simp only [Instr.extract]
        rw [show a'[i]? = some (a'.toList[i]) by rw [← Array.getElem?_toList, List.getElem?_eq_getElem hi']]
        rfl
      · cases h
  · cases h
theorem opNilCheck_ok {x : Operand} (h : opNilCheck x l s = some (v, s')) (H : HR φ s.h w0 w) (hx : VR φ (evalO l x) (ρ x)) {o : Oper} (ho : o.op = .nilCheck x) :
    Gives P w0 φ lo s' v ((execOp ρ o).run P w) := by
  unfold opNilCheck at h
  split at h
  · rename_i a hv
    split at h
    · rename_i a
      simp only [Option.some.injEq, Prod.mk.injEq] at h
      obtain ⟨rfl, rfl⟩ := h
      rw [hv] at hx
      obtain ⟨a', e⟩ := psome_inv hx
      have hx' := hx
      rw [e] at hx'
      simp only [execOp, ho, e]
      exact ⟨φ, Ext.refl _ _ _, hx', H⟩
    · cases h
  · rename_i f a b hv
    split at h
    · rename_i f
      simp only [Option.some.injEq, Prod.mk.injEq] at h
      obtain ⟨rfl, rfl⟩ := h
      rw [hv] at hx
      obtain ⟨a', b', e, q1, q2⟩ := func_inv hx
      have hx' := hx
      rw [e] at hx'
      simp only [execOp, ho, e]
      exact ⟨φ, Ext.refl _ _ _, hx', H⟩
    · cases h
  · cases h
end
end Go.Det
end

section
/- A part of an evaluator of closed runs and of its soundness. -/
namespace Go.Det
variable {P : Program}
section
variable {w0 w : World} {φ : Ren} {l : Tmps} {s s' : St} {v : Value} {ρ : Operand → Value} {lo : Nat}
theorem szOf_run {t : TypeId} {n : Nat} (h : szOf P t = some n) (w : World) : (sizeOf t).run P w = .ok n w := by
  unfold szOf at h
  split at h
  · rename_i i hi; cases h; simp [sizeOf, typeInfo, hi]
  · cases h
theorem szOf_cells {t : TypeId} {n : Nat} (h : szOf P t = some n) : P.cellsOf t = n := by
  unfold szOf at h
  split at h
  · rename_i i hi; cases h; simp [Program.cellsOf, hi]
  · cases h
theorem zeroOf_run {t : TypeId} {z : Value} (h : zeroOf P t = some z) (w : World) : (zeroValue t).run P w = .ok z w := by
  unfold zeroOf at h
  split at h
  · rename_i i hi
    split at h
    · rename_i z' hz
      split at h
      · cases h; simp [zeroValue, typeInfo, hi, hz]
      · cases h
    · cases h
  · cases h
theorem zeroOf_info {t : TypeId} {z : Value} (h : zeroOf P t = some z) : ∃ i, P.info? t = some i ∧ i.zero = some z ∧ (cellsOfV z).length = i.size ∧ flat2 z = true := by
  unfold zeroOf at h
  split at h
  · rename_i i hi
    split at h
    · rename_i z' hz
      split at h
      · rename_i q
        cases h
        simp only [Bool.and_eq_true] at q
        exact ⟨i, hi, hz, Nat.eq_of_beq_eq_true q.2, q.1⟩
      · cases h
    · cases h
  · cases h
theorem zeroOf_flat {t : TypeId} {z : Value} (h : zeroOf P t = some z) : flat2 z = true := (zeroOf_info h).choose_spec.2.2.2
theorem isAggB_run {t : TypeId} {b : Bool} (h : isAggB P t = some b) (w : World) : (isAgg t).run P w = .ok b w := by
  unfold isAggB at h
  split at h <;> first
    | (cases h; rename_i hd; simp [isAgg, run_underlying hd]; done)
    | (rename_i d hn1 hn2 hd; cases h
       simp only [isAgg, Sem.run_bind, run_underlying hd, Result.andThen_ok]
       split
       · exact absurd hd (by rename_i q; rw [q]; exact hn1 _)
       · exact absurd hd (by rename_i q; rw [q]; exact hn2 _ _)
       · rfl)
    | cases h
theorem natOf_inv {x x' : Value} {n : Nat} (h : natOf x = some n) (hx : VR φ x x') : ∃ k, x' = .int k (n : Int) := by
  unfold natOf at h
  split at h
  · rename_i k m
    split at h
    · rename_i hm
      simp only [Option.some.injEq] at h
      exact ⟨k, by rw [int_inv hx]; congr 1; omega⟩
    · cases h
  · cases h
theorem addr_add (b o n : Nat) : (⟨b, o, none⟩ : Addr).add n = ⟨b, o + n, none⟩ := by unfold Addr.add; split <;> simp_all
theorem opFieldAddr_ok {t : TypeId} {x : Operand} {f : Nat} (h : opFieldAddr P t x f l s = some (v, s')) (H : HR φ s.h w0 w) (hx : VR φ (evalO l x) (ρ x)) :
    Gives P w0 φ lo s' v ((do pure (.value (← Instr.fieldAt t (ρ x) f)) : Sem Next).run P w) := by
  unfold opFieldAddr ofV at h
  split at h
  case h_2 => cases h
  rename_i r hr
  simp only [Option.some.injEq, Prod.mk.injEq] at h
  obtain ⟨rfl, rfl⟩ := h
  unfold fieldAddrD typ at hr
  split at hr
  case h_2 => cases hr
  rename_i fs id off ht hv
  split at hr
  case h_2 => cases hr
  rename_i fd hfd
  split at hr
  case h_2 => cases hr
  rename_i n hn
  split at hr
  · cases hr
  rename_i hn0
  simp only [Option.some.injEq] at hr
  subst hr
  rw [hv] at hx
  obtain ⟨b, sh, sz, e, hp⟩ := ptr_inv hx
  have hn0 : n ≠ 0 := by rintro rfl; simp at hn0
  refine gives_pure H (.ptr _ _ b sh sz e) ?_
  simp only [Instr.fieldAt, Sem.run_bind, run_underlying ht, Result.andThen_ok, hfd, hp, Instr.sureAddr, Sem.run_pure, fieldPlace, szOf_run hn, Sem.run_ite, if_neg hn0, addr_add, Nat.add_assoc]
theorem opIndexAddr_ok {t : TypeId} {x i : Operand} (h : opIndexAddr P t x i l s = some (v, s')) (H : HR φ s.h w0 w) (hx : VR φ (evalO l x) (ρ x)) (hi : VR φ (evalO l i) (ρ i)) :
    Gives P w0 φ lo s' v ((do pure (.value (← Instr.indexAt t (ρ x) (ρ i))) : Sem Next).run P w) := by
  unfold opIndexAddr ofV at h
  split at h
  case h_2 => cases h
  rename_i r hr
  simp only [Option.some.injEq, Prod.mk.injEq] at h
  obtain ⟨rfl, rfl⟩ := h
  unfold indexAddrD typ at hr
  split at hr
  · rename_i elem id off n c j ht hv hj
    split at hr
    case h_2 => cases hr
    rename_i size hs
    split at hr
    · cases hr
    rename_i hle
    simp only [Option.some.injEq] at hr
    subst hr
    have hlt : j < n := by simpa using hle
    obtain ⟨k, hk⟩ := natOf_inv hj hi
    rw [hv] at hx
    generalize hV : Value.slice (some ⟨id, off, none⟩) n c = V at hx
    have : ∃ b sh sz c', φ id = some (b, sh, sz) ∧ ρ x = .slice (some ⟨b, sh + off, none⟩) n c' := by
      revert hx
      generalize ρ x = X
      intro hx
      cases hx <;> first | (cases hV; exact ⟨_, _, _, _, by assumption, rfl⟩) | (simp [und] at hV; done)
    obtain ⟨b, sh, sz, c', e, hp⟩ := this
    refine gives_pure H (.ptr _ _ b sh sz e) ?_
    have hr : (0 : Int) ≤ (j : Int) ∧ (j : Int) < (n : Int) := by omega
    simp only [Instr.indexAt, hk, asIntOf, Sem.run_bind, Sem.run_pure, Result.andThen_ok, run_underlying ht, hp]
    simp only [hr, and_self, if_true, Sem.run_bind, szOf_run hs, Result.andThen_ok, Sem.run_pure, addr_add, Nat.add_assoc, Int.toNat_natCast]
  · rename_i n elem id off j ht hv hj
    split at hr
    case h_2 => cases hr
    rename_i size hs
    split at hr
    · cases hr
    rename_i hle
    simp only [Option.some.injEq] at hr
    subst hr
    have hlt : j < n := by simpa using hle
    obtain ⟨k, hk⟩ := natOf_inv hj hi
    rw [hv] at hx
    obtain ⟨b, sh, sz, e, hp⟩ := ptr_inv hx
    refine gives_pure H (.ptr _ _ b sh sz e) ?_
    have hr : (0 : Int) ≤ (j : Int) ∧ (j : Int) < (n : Int) := by omega
    simp only [Instr.indexAt, hk, asIntOf, Sem.run_bind, Sem.run_pure, Result.andThen_ok, run_underlying ht, hp, Instr.sureAddr]
    simp only [hr, and_self, if_true, Sem.run_bind, szOf_run hs, Result.andThen_ok, Sem.run_pure, addr_add, Nat.add_assoc, Int.toNat_natCast]
  · cases hr
theorem partD_ok {t : TypeId} {cs : List Value} {cs' : Array Value} {off : Nat} {r : Value} (h : partD P t cs off = some r) (hc : VRL φ cs cs'.toList) (w : World) :
    ∃ r', (part t cs' off).run P w = .ok r' w ∧ VR φ r r' := by
  unfold partD at h
  split at h
  · rename_i hb
    split at h
    · rename_i n hn
      split at h
      · rename_i q hq
        cases h
        rw [ldrop_eq] at hq
        obtain ⟨rfl, hle⟩ := ltake_some hq
        refine ⟨.agg (cs'.extract off (off + n)), ?_, ?_⟩
        · simp [part, isAggB_run hb, szOf_run hn]
        · have := (hc.drop off).take n
          have e : (cs'.extract off (off + n)) = ⟨(cs'.toList.drop off).take n⟩ := by
            apply Array.ext'
            simp [Array.toList_extract]
          rw [e]; exact VR.agg_of this
      · cases h
    · cases h
  · rename_i hb
    split at h
    · rename_i v t' hv
      cases h
      rw [ldrop_eq] at hv
      have hd := hc.drop off
      rw [hv] at hd
      obtain ⟨v', t'', e, q, _⟩ := hd.head
      refine ⟨v', ?_, q⟩
      have : cs'[off]? = some v' := by
        rw [← Array.getElem?_toList, show cs'.toList[off]? = (cs'.toList.drop off)[0]? by rw [List.getElem?_drop]; rfl, e]; rfl
      simp [part, isAggB_run hb, this]
    · cases h
  · cases h
theorem opField_ok {t : TypeId} {x : Operand} {f : Nat} (h : opField P t x f l s = some (v, s')) (H : HR φ s.h w0 w) (hx : VR φ (evalO l x) (ρ x)) :
    Gives P w0 φ lo s' v ((do pure (.value (← Instr.field t (ρ x) f)) : Sem Next).run P w) := by
  unfold opField ofV at h
  split at h
  case h_2 => cases h
  rename_i r hr
  simp only [Option.some.injEq, Prod.mk.injEq] at h
  obtain ⟨rfl, rfl⟩ := h
  unfold fieldD typ at hr
  split at hr
  case h_2 => cases hr
  rename_i fs cs ht hv
  split at hr
  case h_2 => cases hr
  rename_i fd hfd
  rw [hv] at hx
  obtain ⟨a', ha, q⟩ := agg_inv hx
  obtain ⟨r', e, q'⟩ := partD_ok hr q w
  refine gives_pure H q' ?_
  simp [Instr.field, run_underlying ht, hfd, ha, asAgg, e]
theorem opIndex_ok {t : TypeId} {x i : Operand} (h : opIndex P t x i l s = some (v, s')) (H : HR φ s.h w0 w) (hx : VR φ (evalO l x) (ρ x)) (hi : VR φ (evalO l i) (ρ i)) :
    Gives P w0 φ lo s' v ((do pure (.value (← Instr.index t (ρ x) (ρ i))) : Sem Next).run P w) := by
  unfold opIndex ofV at h
  split at h
  case h_2 => cases h
  rename_i r hr
  simp only [Option.some.injEq, Prod.mk.injEq] at h
  obtain ⟨rfl, rfl⟩ := h
  unfold indexD typ at hr
  split at hr
  · rename_i n elem cs j ht hv hj
    split at hr
    case h_2 => cases hr
    rename_i size hs
    split at hr
    · cases hr
    rename_i hle
    have hlt : j < n := by simpa using hle
    obtain ⟨k, hk⟩ := natOf_inv hj hi
    rw [hv] at hx
    obtain ⟨a', ha, q⟩ := agg_inv hx
    obtain ⟨r', e, q'⟩ := partD_ok hr q w
    refine gives_pure H q' ?_
    have hr : (0 : Int) ≤ (j : Int) ∧ (j : Int) < (n : Int) := by omega
    simp only [Instr.index, hk, asIntOf, Sem.run_bind, Sem.run_pure, Result.andThen_ok, run_underlying ht, ha]
    simp only [hr, and_self, if_true, Sem.run_bind, szOf_run hs, Result.andThen_ok, Int.toNat_natCast, e]
  · rename_i b j ht hv hj
    split at hr
    · rename_i x' t' hd
      cases hr
      rw [ldrop_eq] at hd
      obtain ⟨k, hk⟩ := natOf_inv hj hi
      rw [hv] at hx
      have hs := string_inv hx
      have hd0 : (b.data.toList.map fun x => Value.int .u8 x.toNat)[j]? = some r := by
        rw [show (b.data.toList.map fun x => Value.int .u8 x.toNat)[j]? = ((b.data.toList.map fun x => Value.int .u8 x.toNat).drop j)[0]? by rw [List.getElem?_drop]; rfl, hd]; rfl
      rw [List.getElem?_map] at hd0
      obtain ⟨y, hy, rfl⟩ := Option.map_eq_some_iff.1 hd0
      refine gives_pure H (.int _ _) ?_
      have hb : b[j]? = some y := by
        rw [Array.getElem?_toList] at hy
        exact hy
      simp only [Instr.index, hk, asIntOf, Sem.run_bind, Sem.run_pure, Result.andThen_ok, run_underlying ht, hs]
      simp [hb]
    · cases hr
  · cases hr
end
end Go.Det
end

section
/- A part of an evaluator of closed runs and of its soundness. -/
namespace Go.Det
variable {P : Program}
section
variable {w0 w : World} {φ : Ren} {l : Tmps} {s s' : St} {v : Value} {ρ : Operand → Value} {lo : Nat}
def OR (φ : Ren) (a b : Option Value) : Prop := match a, b with
  | none, none => True
  | some v, some v' => VR φ v v'
  | _, _ => False
theorem bound_inv {a a' : Option Value} {d n : Nat} (h : bound a d = some n) (k : OR φ a a') : (a = none ∧ a' = none ∧ n = d) ∨ ∃ q, a' = some (.int q (n : Int)) ∧ ∃ v, a = some v := by
  cases a with
  | none => cases a' with
    | none => simp only [bound, Option.some.injEq] at h; exact .inl ⟨rfl, rfl, h.symm⟩
    | some v => exact k.elim
  | some v => cases a' with
    | none => exact k.elim
    | some v' => obtain ⟨q, e⟩ := natOf_inv (show natOf v = some n from h) k; exact .inr ⟨q, by rw [e], v, rfl⟩
theorem sliceBound_run {q : IntKind} {n y : Nat} (h : n ≤ y) (code : BoundsCode) (w : World) : (Instr.sliceBound (.int q (n : Int)) y code).run P w = .ok n w := by
  have : (0 : Int) ≤ (n : Int) ∧ (n : Int) ≤ (y : Int) := by omega
  simp only [Instr.sliceBound, asIntOf, Sem.run_bind, Sem.run_pure, Result.andThen_ok, this, and_self, if_true, Int.toNat_natCast]
theorem boundsD_run {lo hi mx lo' hi' mx' : Option Value} {len cap cap' : Nat} {r : Nat × Nat × Nat} (h : boundsD lo hi mx len cap = some r) (hl : OR φ lo lo') (hh : OR φ hi hi') (hm : OR φ mx mx') (hc : cap ≤ cap') (is : Bool) (w : World) :
    (Instr.sliceBounds is len cap' lo' hi' mx').run P w = .ok (r.1, r.2.1, if mx = none then cap' else r.2.2) w ∧ r.1 ≤ r.2.1 ∧ r.2.1 ≤ cap ∧ r.2.1 ≤ r.2.2 ∧ r.2.2 ≤ cap ∧ (mx = none → r.2.2 = cap) := by
  unfold boundsD at h
  split at h
  ·
    cases mx' with
    | some v => exact hm.elim
    | none =>
    split at h
    · rename_i l' h' e1 e2
      split at h
      · rename_i hle
        simp only [Option.some.injEq] at h
        subst h
        simp only [Bool.and_eq_true, Nat.ble_eq] at hle
        refine ⟨?_, hle.1, hle.2, hle.2, Nat.le_refl _, fun _ => rfl⟩
        rcases bound_inv e1 hl with ⟨_, rfl, rfl⟩ | ⟨q1, rfl, _⟩ <;> rcases bound_inv e2 hh with ⟨_, rfl, rfl⟩ | ⟨q2, rfl, _⟩
        · simp [Instr.sliceBounds]
        · simp [Instr.sliceBounds, sliceBound_run (Nat.le_trans hle.2 hc)]
        · simp [Instr.sliceBounds, sliceBound_run hle.1]
        · simp [Instr.sliceBounds, sliceBound_run (Nat.le_trans hle.2 hc), sliceBound_run hle.1]
      · cases h
    · cases h
  · rename_i mv
    cases mx' with
    | none => exact hm.elim
    | some mv' =>
    split at h
    · cases h
    · rename_i hv
      cases hi' with
      | none => exact hh.elim
      | some hv' =>
      split at h
      · rename_i m h' l' e1 e2 e3
        split at h
        · rename_i hle
          simp only [Option.some.injEq] at h
          subst h
          simp only [Bool.and_eq_true, Nat.ble_eq] at hle
          obtain ⟨k1, k2, k3⟩ := hle
          obtain ⟨q1, rfl⟩ := natOf_inv e1 hm
          obtain ⟨q2, rfl⟩ := natOf_inv e2 hh
          refine ⟨?_, k3, Nat.le_trans k2 k1, k2, k1, fun e => by cases e⟩
          rcases bound_inv e3 hl with ⟨_, rfl, rfl⟩ | ⟨q3, rfl, _⟩
          · simp [Instr.sliceBounds, sliceBound_run (Nat.le_trans k1 hc), sliceBound_run k2]
          · simp [Instr.sliceBounds, sliceBound_run (Nat.le_trans k1 hc), sliceBound_run k2, sliceBound_run k3]
        · cases h
      · cases h
theorem capU_big : 1099511627776 < capU := by unfold capU; omega
theorem sliceKnown_ok {a a' : Option Addr} {size : Nat} {r : Nat × Nat × Nat} {v : Value} (h : sliceKnown a size r = some v) (hr : r.2.2 < capU)
    (ha : (a = none ∧ a' = none) ∨ ∃ id off b sh sz, a = some ⟨id, off, none⟩ ∧ φ id = some (b, sh, sz) ∧ a' = some ⟨b, sh + off, none⟩) :
    VR φ v (.slice (if r.2.2 = r.1 then a' else a'.map (·.add (r.1 * size))) (r.2.1 - r.1) (r.2.2 - r.1)) := by
  rcases ha with ⟨rfl, rfl⟩ | ⟨id, off, b, sh, sz, rfl, e, rfl⟩
  · simp only [sliceKnown, Option.some.injEq] at h
    subst h
    simp only [Option.map_none, ite_self]
    exact .snil _ _ (by omega)
  · simp only [sliceKnown, Option.some.injEq] at h
    subst h
    by_cases q : r.2.2 = r.1
    · rw [if_pos q, if_pos (by rw [q]; exact Nat.beq_refl _)]
      exact .slice _ _ _ _ _ _ _ e (by omega)
    · rw [if_neg q, if_neg (by intro k; exact q (Nat.eq_of_beq_eq_true k)), Option.map_some, addr_add, Nat.add_assoc]
      exact .slice _ _ _ _ _ _ _ e (by omega)
theorem slice_inv {a : Option Addr} {n c : Nat} {v' : Value} (h : VR φ (.slice a n c) v') :
    (c < capU ∧ ∃ a', v' = .slice a' n c ∧ ((a = none ∧ a' = none) ∨ ∃ id off b sh sz, a = some ⟨id, off, none⟩ ∧ φ id = some (b, sh, sz) ∧ a' = some ⟨b, sh + off, none⟩)) ∨
    (∃ id off b sh sz es c', a = some ⟨id, off, none⟩ ∧ c = capU + es ∧ φ id = some (b, sh, sz) ∧ 0 < es ∧ sh + off + c' * es = sz ∧ n ≤ c' ∧ v' = .slice (some ⟨b, sh + off, none⟩) n c') := by
  generalize hV : Value.slice a n c = V at h
  cases h with
  | snil n' c' k => cases hV; exact .inl ⟨k, none, rfl, .inl ⟨rfl, rfl⟩⟩
  | slice id off b sh sz n' c' e k => cases hV; exact .inl ⟨k, _, rfl, .inr ⟨id, off, b, sh, sz, rfl, e, rfl⟩⟩
  | sliceU id off b sh sz n' c' es e p q r => cases hV; exact .inr ⟨id, off, b, sh, sz, es, c', rfl, rfl, e, p, q, r, rfl⟩
  | _ => simp [und] at hV
theorem sliceSl_ok {elem : TypeId} {x x' : Value} {lo hi mx lo' hi' mx' : Option Value} {v : Value} {t : TypeId} (h : sliceSl P elem x lo hi mx = some v) (ht : P.underlying t = some (.slice elem))
    (hx : VR φ x x') (hl : OR φ lo lo') (hh : OR φ hi hi') (hm : OR φ mx mx') (w : World) : ∃ v', (Instr.sliceAt t x' lo' hi' mx').run P w = .ok v' w ∧ VR φ v v' := by
  unfold sliceSl at h
  split at h
  case h_2 => cases h
  rename_i a n c
  split at h
  case h_2 => cases h
  rename_i size hs
  have hrun : ∀ {a' : Option Addr} {n c' : Nat} {r : Nat × Nat × Nat}, (Instr.sliceBounds true n c' lo' hi' mx').run P w = .ok r w →
      (Instr.sliceAt t (.slice a' n c') lo' hi' mx').run P w = .ok (.slice (if r.2.2 = r.1 then a' else a'.map (·.add (r.1 * size))) (r.2.1 - r.1) (r.2.2 - r.1)) w := by
    intro a' n c' r hr
    simp [Instr.sliceAt, Instr.slice, run_underlying ht, hr, szOf_run hs]
  rcases slice_inv hx with ⟨hc, a', rfl, ha⟩ | ⟨id, off, b, sh, sz, es, c', rfl, rfl, e, p, q, r', rfl⟩
  · rw [if_neg (by simp; exact hc)] at h
    split at h
    case h_2 => cases h
    rename_i r hr
    obtain ⟨k1, k2, k3, k4, k5, k6⟩ := boundsD_run (P := P) hr hl hh hm (Nat.le_refl c) true w
    have k1' : (Instr.sliceBounds true n c lo' hi' mx').run P w = .ok r w := by
      rw [k1]; congr 1
      by_cases q : mx = none
      · rw [if_pos q, ← k6 q]
      · rw [if_neg q]
    exact ⟨_, hrun k1', sliceKnown_ok h (by omega) ha⟩
  · rw [if_pos (by simp)] at h
    split at h
    case isFalse => cases h
    rename_i hc
    simp only [Bool.and_eq_true] at hc
    have hes : es = size := by have := Nat.eq_of_beq_eq_true hc.1; omega
    subst hes
    have hn : n ≤ 1099511627776 := by simpa using hc.2
    split at h
    case h_2 => cases h
    rename_i r hr
    obtain ⟨k1, k2, k3, k4, k5, k6⟩ := boundsD_run (P := P) hr hl hh hm r' true w
    split at h
    · rename_i mv
      rw [if_neg (by simp)] at k1
      exact ⟨_, hrun k1, sliceKnown_ok h (by have := capU_big; show r.2.2 < capU; omega) (.inr ⟨_, _, _, _, _, rfl, e, rfl⟩)⟩
    · rw [if_pos rfl] at k1
      split at h
      case isFalse =>
        simp only [Option.some.injEq] at h
        subst h
        rename_i hz
        have hz : ¬ (r.1 = 0 ∨ r.1 < n) := by
          intro q; apply hz
          simp only [Bool.or_eq_true, Nat.ble_eq]
          rcases q with q | q
          · left; rw [q]; rfl
          · exact .inr q
        have h0 : r.2.1 - r.1 = 0 := by omega
        refine ⟨_, hrun k1, ?_⟩
        simp only [h0]
        refine .emp _ _ fun x hx => ?_
        split at hx
        · cases hx; rfl
        · rw [Option.map_some, addr_add] at hx; cases hx; rfl
      rename_i hz
      simp only [Option.some.injEq] at h
      subst h
      simp only [Bool.or_eq_true, Nat.ble_eq] at hz
      have hz : r.1 = 0 ∨ r.1 < n := by rcases hz with z | z; exact .inl (Nat.eq_of_beq_eq_true z); exact .inr z
      refine ⟨_, hrun k1, ?_⟩
      have ha : (if c' = r.1 then some (⟨b, sh + off, none⟩ : Addr) else (some (⟨b, sh + off, none⟩ : Addr)).map (·.add (r.1 * es))) = some ⟨b, sh + (off + r.1 * es), none⟩ := by
        rw [Option.map_some, addr_add, Nat.add_assoc]
        by_cases k : c' = r.1
        · rw [if_pos k]
          have : r.1 = 0 := by omega
          simp [this]
        · rw [if_neg k]
      simp only [ha]
      have hle : r.1 ≤ c' := by omega
      refine .sliceU _ _ _ _ _ _ _ _ e p ?_ (by omega)
      have : c' * es = r.1 * es + (c' - r.1) * es := by rw [← Nat.add_mul]; congr 1; omega
      omega
theorem sliceArr_ok {n : Nat} {elem : TypeId} {x x' : Value} {lo hi mx lo' hi' mx' : Option Value} {v : Value} {t : TypeId} (h : sliceArr P n elem x lo hi mx = some v)
    (ht : P.underlying t = some (.array n elem) ∨ ∃ arr, P.underlying t = some (.pointer arr) ∧ P.underlying arr = some (.array n elem))
    (hx : VR φ x x') (hl : OR φ lo lo') (hh : OR φ hi hi') (hm : OR φ mx mx') (w : World) : ∃ v', (Instr.sliceAt t x' lo' hi' mx').run P w = .ok v' w ∧ VR φ v v' := by
  unfold sliceArr at h
  split at h
  case h_2 => cases h
  rename_i a
  split at h
  · cases h
  rename_i a
  split at h
  case h_2 => cases h
  rename_i size hs
  split at h
  case isFalse => cases h
  rename_i hn
  have hn : n ≤ 1099511627776 := by simpa using hn
  split at h
  case h_2 => cases h
  rename_i r hr
  obtain ⟨k1, k2, k3, k4, k5, k6⟩ := boundsD_run (P := P) hr hl hh hm (Nat.le_refl n) false w
  have k1' : (Instr.sliceBounds false n n lo' hi' mx').run P w = .ok r w := by
    rw [k1]; congr 1
    by_cases q : mx = none
    · rw [if_pos q, ← k6 q]
    · rw [if_neg q]
  have : ∃ id off b sh sz, a = ⟨id, off, none⟩ ∧ φ id = some (b, sh, sz) ∧ x' = .pointer (some ⟨b, sh + off, none⟩) := by
    cases hx with | ptr id off b sh sz e => exact ⟨id, off, b, sh, sz, rfl, e, rfl⟩
  obtain ⟨id, off, b, sh, sz, rfl, e, rfl⟩ := this
  have hv := sliceKnown_ok h (by have := capU_big; omega) (.inr ⟨id, off, b, sh, sz, rfl, e, rfl⟩)
  refine ⟨_, ?_, hv⟩
  have hm' : (if r.2.2 = r.1 then some (⟨b, sh + off, none⟩ : Addr) else (some (⟨b, sh + off, none⟩ : Addr)).map (·.add (r.1 * size))) = some (if r.2.2 = r.1 then ⟨b, sh + off, none⟩ else (⟨b, sh + off, none⟩ : Addr).add (r.1 * size)) := by
    split <;> rfl
  rcases ht with ht | ⟨arr, ht, ht2⟩
  · simp only [Instr.sliceAt, Sem.run_bind, run_underlying ht, Result.andThen_ok, Instr.sureAddr, Sem.run_pure, k1', szOf_run hs, hm']
  · simp only [Instr.sliceAt, Instr.slice, Sem.run_bind, run_underlying ht, run_underlying ht2, Result.andThen_ok, asAddr, Sem.run_pure, k1', szOf_run hs, hm']
theorem sliceStr_ok {x x' : Value} {lo hi mx lo' hi' mx' : Option Value} {v : Value} {t : TypeId} (h : sliceStr x lo hi mx = some v) (ht : P.underlying t = some .string)
    (hx : VR φ x x') (hl : OR φ lo lo') (hh : OR φ hi hi') (hm : OR φ mx mx') (w : World) : ∃ v', (Instr.sliceAt t x' lo' hi' mx').run P w = .ok v' w ∧ VR φ v v' := by
  unfold sliceStr at h
  split at h
  case h_2 => cases h
  rename_i b
  split at h
  case h_2 => cases h
  cases mx' with
  | some q => exact hm.elim
  | none =>
  split at h
  case h_2 => cases h
  rename_i r hr
  simp only [Option.some.injEq] at h
  subst h
  obtain ⟨k1, _⟩ := boundsD_run (P := P) hr hl hh (show OR φ none none from trivial) (Nat.le_refl _) false w
  refine ⟨_, ?_, .string _⟩
  simp [Instr.sliceAt, Instr.slice, run_underlying ht, string_inv hx, k1]
theorem evalOpt_ok {x : Option Operand} (h : ∀ y, x = some y → VR φ (evalO l y) (ρ y)) : OR φ (evalOpt l x) (x.map ρ) := by
  cases x with
  | none => trivial
  | some y => exact h y rfl
theorem opSlice_ok {t : TypeId} {x : Operand} {lo' hi' mx' : Option Operand} (h : opSlice P t x lo' hi' mx' l s = some (v, s')) (H : HR φ s.h w0 w) (hx : VR φ (evalO l x) (ρ x))
    (hl : ∀ y, lo' = some y → VR φ (evalO l y) (ρ y)) (hh : ∀ y, hi' = some y → VR φ (evalO l y) (ρ y)) (hm : ∀ y, mx' = some y → VR φ (evalO l y) (ρ y)) :
    Gives P w0 φ lo s' v ((do pure (.value (← Instr.sliceAt t (ρ x) (lo'.map ρ) (hi'.map ρ) (mx'.map ρ))) : Sem Next).run P w) := by
  unfold opSlice ofV at h
  split at h
  case h_2 => cases h
  rename_i r hr
  simp only [Option.some.injEq, Prod.mk.injEq] at h
  obtain ⟨rfl, rfl⟩ := h
  have fin : ∀ {v' : Value}, (Instr.sliceAt t (ρ x) (lo'.map ρ) (hi'.map ρ) (mx'.map ρ)).run P w = .ok v' w → VR φ r v' → Gives P w0 φ lo s r ((do pure (.value (← Instr.sliceAt t (ρ x) (lo'.map ρ) (hi'.map ρ) (mx'.map ρ))) : Sem Next).run P w) := fun e q => gives_pure H q e
  unfold sliceD typ at hr
  split at hr
  · rename_i ht; obtain ⟨v', e, q⟩ := sliceStr_ok hr ht hx (evalOpt_ok hl) (evalOpt_ok hh) (evalOpt_ok hm) w; exact fin e q
  · rename_i elem ht; obtain ⟨v', e, q⟩ := sliceSl_ok hr ht hx (evalOpt_ok hl) (evalOpt_ok hh) (evalOpt_ok hm) w; exact fin e q
  · rename_i arr ht
    split at hr
    · rename_i n elem ht2; obtain ⟨v', e, q⟩ := sliceArr_ok hr (.inr ⟨arr, ht, ht2⟩) hx (evalOpt_ok hl) (evalOpt_ok hh) (evalOpt_ok hm) w; exact fin e q
    · cases hr
  · rename_i n elem ht; obtain ⟨v', e, q⟩ := sliceArr_ok hr (.inl ht) hx (evalOpt_ok hl) (evalOpt_ok hh) (evalOpt_ok hm) w; exact fin e q
  · cases hr
end
end Go.Det
end

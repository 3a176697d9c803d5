/- Texts of a proof, joined: words of the print (those that are named here) and printed functions. -/
import GoSem.Dispatch
import Derived.Calls
import Derived.Laws.Sem
import Derived.DeepKeys3
import Derived.StringKeys
import Derived.Laws.Cells
import Derived.Laws.IdiomCopy
import Derived.Laws.BitsLemmas
import Derived.Laws.StructEq
import Derived.Laws.Tables
import Derived.Lib.ConvBytes
import Derived.Laws.BytesString
import Derived.Laws.AppendOwn
import Derived.Lib.UnsafeStr
set_option linter.unusedSimpArgs false
set_option linter.unusedVariables false
set_option maxRecDepth 100000
noncomputable section
namespace Go.Det
inductive Ob where
 |mp (es:List (Value×Value×Nat)) (ck:Nat)
 |it (m:Option Nat) (since:Nat) (seen:List Nat) (last:Nat)
 deriving Inhabited
inductive Blk where
 |cells (cs:List Value) (elem:TypeId) (ro:Bool)
 |ob (o:Ob)
 |dead
 deriving Inhabited
def zEc {α:Type}(d:α)(l:List α):Nat→α:=
 List.rec (fun _=>d) (fun v _ ih n=>Nat.rec v (fun m _=>ih m) n) l
def zKx {α:Type}(d v:α)(l:List α):Nat→List α:=
 List.rec (fun n=>Nat.rec [v] (fun _ ih=>d::ih) n) (fun x t ih n=>Nat.rec (v::t) (fun m _=>x::ih m) n) l
abbrev Tab (α:Type):=List (List α)
def Tab.get {α:Type}(d:α)(l:Tab α)(n:Nat):α:=zEc d (zEc [] l (Nat.div n 8)) (Nat.mod n 8)
def Tab.set {α:Type}(d:α)(l:Tab α)(n:Nat)(v:α):Tab α:=
 zKx [] (zKx d v (zEc [] l (Nat.div n 8)) (Nat.mod n 8)) l (Nat.div n 8)
abbrev Heap:=Tab (Option Blk)
def Heap.get (h:Heap)(n:Nat):Option Blk:=Tab.get none h n
def Heap.set (h:Heap)(n:Nat)(b:Blk):Heap:=Tab.set none h n (some b)
structure St where
 h:Heap
 next:Nat
 hi:Nat
 rd:Nat
 wr:Nat
 deriving Inhabited
def zEo:Nat:=1208925819614629174706176
def und:Value:=.tuple #[]
abbrev skp:Value:=.float .f64 0
abbrev emp:Value:=.float .f64 1
def St.read (s:St)(id:Nat):St:={ h:=s.h,next:=s.next,hi:=s.hi,rd:=Nat.lor s.rd (Nat.shiftLeft 1 id),wr:=s.wr }
def St.write (s:St)(id:Nat)(b:Blk):St:={ h:=s.h.set id b,next:=s.next,hi:=s.hi,rd:=Nat.lor s.rd (Nat.shiftLeft 1 id),wr:=Nat.lor s.wr (Nat.shiftLeft 1 id) }
def St.new (s:St)(b:Blk):St:={ h:=s.h.set s.next b,next:=s.next+1,hi:=Nat.max s.hi (s.next+1),rd:=s.rd,wr:=Nat.lor s.wr (Nat.shiftLeft 1 s.next) }
abbrev zAz:=Tab Value
def zEp (l:zAz)(n:Nat):Value:=Tab.get und l n
def zX1 (l:zAz)(n:Nat)(v:Value):zAz:=Tab.set und l n v
def zFd (n:Nat):List Value→Option (List Value):=
 Nat.rec (fun _=>some []) (fun _ ih l=>match l with
  |[]=>none
  |v::t=>match ih t with|some r=>some (v::r)|none=>none) n
def zGj (n:Nat):List Value→List Value:=
 Nat.rec (fun l=>l) (fun _ ih l=>match l with|[]=>[]|_::t=>ih t) n
def zQi (l ws:List Value):Option (List Value):=
 (List.rec (motive:=fun _=>List Value→Option (List Value)) (fun l=>some l) (fun w _ ih l=>match l with
  |[]=>none
  |_::t=>match ih t with|some r=>some (w::r)|none=>none) ws) l
def zUj (l:List Value)(n:Nat)(ws:List Value):Option (List Value):=
 (Nat.rec (motive:=fun _=>List Value→Option (List Value)) (fun l=>zQi l ws) (fun _ ih l=>match l with
  |[]=>none
  |x::t=>match ih t with|some r=>some (x::r)|none=>none) n) l
def yPa:Value→Bool
 |.float .f64 1=>true
 |.agg _|.tuple _|.float _ _=>false
 |_=>true
def zV8:List Value→Bool
 |[]=>true
 |v::t=>yPa v&&zV8 t
def zV9:Value→Bool
 |.tuple vs=>vs.toList.isEmpty
 |_=>false
def zGk:Value→Bool
 |.bool _|.int ..|.string _|.nilFunc|.nilIface=>true
 |.pointer none|.map none=>true
 |.slice none _ c=>Nat.beq c 0
 |.func _ f c=>f.toList.isEmpty&&c.toList.isEmpty
 |_=>false
def zEd:List Value→Bool
 |[]=>true
 |v::t=>zGk v&&zEd t
def zGg:Value→Bool
 |.agg cs=>zEd cs.toList
 |.iface _ v=>zGk v
 |v=>zGk v
def zCp:List Value→Bool
 |[]=>true
 |v::t=>zGg v&&zCp t
def flat:Value→Bool
 |.tuple vs=>zCp vs.toList
 |v=>zGg v
def zEe (P:Program){α:Type}:Sem α→Option α
 |.pure a=>some a
 |.program k=>zEe P (k P)
 |.mark _ k=>zEe P k
 |_=>none
def zA9:Value→List Value
 |.agg cs=>cs.toList
 |v=>[v]
variable (P:Program)
def typ (t:TypeId):Option TypeDesc:=P.underlying t
def zGi (t:TypeId):Option Nat:=match P.info? t with|some i=>some i.size|none=>none
def zCx (t:TypeId):Option Value:=match P.info? t with
 |some i=>match i.zero with|some z=>if zGg z&&Nat.beq (zA9 z).length i.size then some z else none|none=>none
 |none=>none
def zGl (t:TypeId):Option Bool:=match P.underlying t with|some (.struct _)|some (.array _ _)=>some true|some _=>some false|none=>none
def evalO (l:zAz):Operand→Value
 |.tmp t=>zEp l t
 |.const v=>v
 |.global g=>.pointer (some ⟨g,0,none⟩)
 |.func f=>.func (.func f) #[] #[]
def zDw (s:St)(t:TypeId)(a:Value):Option (Value×St):=
 match a with
 |.pointer (some ⟨id,off,none⟩)=>
  match s.h.get id with
  |some (.cells cs _ _)=>
   match zGl P t with
   |some true=>match zGi P t with
    |some n=>match zFd n (zGj off cs) with
     |some r=>some (.agg r.toArray,s.read id)
     |none=>none
    |none=>none
   |some false=>match zGj off cs with
    |v::_=>some (v,s.read id)
    |[]=>none
   |none=>none
  |_=>none
 |_=>none
def zNg (s:St)(t:TypeId)(a v:Value):Option St:=
 match a with
 |.pointer (some ⟨id,off,none⟩)=>
  match s.h.get id with
  |some (.cells cs e false)=>
   match zGi P t with
   |some n=>
    let ws:=zA9 v
    if Nat.beq ws.length n&&zV8 ws then
     match zUj cs off ws with
     |some cs'=>some (s.write id (.cells cs' e false))
     |none=>none
    else none
   |none=>none
  |_=>none
 |_=>none
def zBu (s:St) (size n:Nat):Value→Option (List Value×St)
  | .slice (some ⟨id, off, none⟩) _ _ =>
    if Nat.beq (n * size) 0 then some ([],s) else
    match s.h.get id with
    | some (.cells cs _ _) => match zFd (n * size) (zGj off cs) with
      | some r => some (r, s.read id)
      | none => none
    | _ => none
  | .slice none _ _ => if Nat.beq n 0 then some ([], s) else none
  | .float .f64 1 => if Nat.beq n 0 then some ([], s) else none
  | .string b => if Nat.beq size 1 then
      (match zFd n (b.data.toList.map fun x => Value.int .u8 x.toNat) with
       | some r => some (r, s)
       | none => none) else none
  | _ => none
def yFz:Value→Option Nat
 |.float .f64 1=>some 0
 |.slice _ n _=>some n
 |.string b=>some b.size
 |_=>none
def zCb (zs:List Value):Nat→List Value
 |0=>[]
 |n+1=>zs++zCb zs n
def zG8 (rest:List TypeId):Option Bool:=
 match rest with
 |[]=>some false
 |xT::_=>match typ P xT with
  |some (.int _)=>some true
  |some _=>some false
  |none=>none
def zGm (s:St) (elem:TypeId) (size bytes:Nat) (zeros:Bool) (x:Value):Option (Nat×List Value×St):=
  match zeros with
  | true => match x with
    | .int _ m => if 0 ≤ m ∧ m < 1048576 then
        (match zCx P elem with
         | some z => if Nat.ble (m.toNat * bytes) 1099511627776 then some (m.toNat, zCb (zA9 z) m.toNat, s) else none
         | none => none) else none
    | _ => none
  | false => match yFz x with
    | some m => match zBu s size m x with
      | some r => some (m, r.1, r.2)
      | none => none
    | none => none
def zCk (s:St)(id off at_ need c:Nat)(cs:List Value)(e:TypeId)(ws:List Value):Option (Value×St):=
 match zUj cs at_ ws with
 |some cs'=>some (.slice (some ⟨id,off,none⟩) need c,s.write id (.cells cs' e false))
 |none=>none
def zSz (s:St)(id:Nat)(elem:TypeId)(size need:Nat)(old ws:List Value):Value×St:=
 (.slice (some ⟨s.next,0,none⟩) need (zEo+size),(s.write id .dead).new (.cells (old++ws) (2 * elem) false))
def zNh (s:St)(elem:TypeId)(size need:Nat)(old ws:List Value):Value×St:=
 (.slice (some ⟨s.next,0,none⟩) need (zEo+size),s.new (.cells (old++ws) (2 * elem) false))
def zQj (s:St)(elem:TypeId)(size:Nat)(base:Option Addr)(n c m:Nat)(ws:List Value):Option (Value×St):=
 match base with
 |none=>if Nat.beq c 0&&Nat.beq n 0 then some (zNh s elem size m [] ws) else none
 |some ⟨id,off,none⟩=>
  match s.h.get id with
  |some (.cells cs e ro)=>
   if Nat.ble zEo c then
    if Nat.beq c (zEo+size)&&(!ro&&Nat.beq e (2 * elem)) then
     if Nat.ble (off+(n+m) * size) cs.length then zCk s id off (off+n * size) (n+m) c cs e ws
     else match zFd (n * size) (zGj off cs) with
      |some old=>some (zSz s id elem size (n+m) old ws)
      |none=>none
    else none
   else if Nat.ble (n+m) c then
    if !ro then zCk s id off (off+n * size) (n+m) c cs e ws else none
   else match zFd (n * size) (zGj off cs) with
    |some old=>some (zNh (s.read id) elem size (n+m) old ws)
    |none=>none
  |_=>none
 |_=>none
def zQk (s:St) (elem:TypeId) (size bytes:Nat) (base:Option Addr) (n c m:Nat) (ws:List Value):Option (Value×St):=
  if Nat.beq m 0 then (if Nat.ble zEo c || Nat.ble n c then some (.slice base n c, s) else none)
  else if Nat.ble 1 size&&(Nat.ble ((n+m) * bytes) 1099511627776&&(zV8 ws&&Nat.ble (n+m) 1099511627776)) then
    (match zCx P elem with
     | some _ => zQj s elem size base n c m ws
     | none => none)
  else none
def zJa (s:St)(argTypes:Array TypeId)(args:List Value):Option (Value×St):=
 match argTypes.toList,args with
 |sT::rest,[.slice base n c,x]=>
  match typ P sT with
  |some (.slice elem)=>
   match P.info? elem,zG8 P rest with
   |some ei,some zeros=>
    match zGm P s elem ei.size ei.bytes zeros x with
    |some r=>zQk P r.2.2 elem ei.size ei.bytes base n c r.1 r.2.1
    |none=>none
   |_,_=>none
  |_=>none
 |_,_=>none
def zQl (s:St) (k:Nat) (base:Option Addr) (ws:List Value):Option (Value×St):=
  match ws with
  | [] => some (.int .i64 (k : Nat), s)
  | w1 :: ws =>
    if zV8 (w1::ws) then
      match base with
      | some ⟨id, off, none⟩ =>
        (match s.h.get id with
         | some (.cells cs e false) =>
           match zUj cs off (w1::ws) with
           | some cs' => some (.int .i64 (k : Nat), s.write id (.cells cs' e false))
           | none => none
         | _ => none)
      | _ => none
    else none
def zWa (s:St)(argTypes:Array TypeId)(args:List Value):Option (Value×St):=
 match argTypes.toList,args with
 |dT::_,[.slice base n _,x]=>
  match typ P dT with
  |some (.slice elem)=>
   match zGi P elem,yFz x with
   |some size,some m=>
    match zBu s size (Nat.min m n) x with
    |some r=>zQl r.2 (Nat.min m n) base r.1
    |none=>none
   |_,_=>none
  |_=>none
 |_,_=>none
def zKy (s:St)(base:Option Addr)(ws:List Value):Option (Value×St):=
 match zV8 ws,base with
 |true,some ⟨id,off,none⟩=>(match s.h.get id with
  |some (.cells cs e false)=>(match zUj cs off ws with
   |some cs'=>some (und,s.write id (.cells cs' e false))
   |none=>none)
  |_=>none)
 |_,_=>none
def zJw (s:St)(argTypes:Array TypeId)(args:List Value):Option (Value×St):=
 match argTypes.toList,args with
 |[dT],[x]=>(match typ P dT with
  |some (.slice elem)=>(match x with
   |.float .f64 1=>some (und,s)
   |.slice base n _=>(match n with
    |0=>some (und,s)
    |m+1=>(match zCx P elem with
     |some z=>zKy s base (zCb (zA9 z) (m+1))
     |none=>none))
   |_=>none)
  |_=>none)
 |_,_=>none
def zIb:Value→Option Nat
 |.int _ n=>if 0≤n then some n.toNat else none
 |_=>none
def bound:Option Value→Nat→Option Nat
 |none,d=>some d
 |some v,_=>zIb v
def zHy (lo hi mx:Option Value)(len cap:Nat):Option (Nat×Nat×Nat):=
 match mx with
 |none=>match bound lo 0,bound hi len with
  |some l,some h=>if Nat.ble l h&&Nat.ble h cap then some (l,h,cap) else none
  |_,_=>none
 |some mv=>match hi with
  |none=>none
  |some hv=>match zIb mv,zIb hv,bound lo 0 with
   |some m,some h,some l=>if Nat.ble m cap&&(Nat.ble h m&&Nat.ble l h) then some (l,h,m) else none
   |_,_,_=>none
def zKf (x:Value)(lo hi mx:Option Value):Option Value:=
 match x with
 |.string b=>match mx with
  |none=>match zHy lo hi none b.size b.size with
   |some r=>some (.string (b.extract r.1 r.2.1))
   |none=>none
  |some _=>none
 |_=>none
def zD7 (a:Option Addr)(size:Nat)(r:Nat×Nat×Nat):Option Value:=
 match a with
 |none=>some (.slice none (r.2.1 - r.1) (r.2.2 - r.1))
 |some ⟨id,off,none⟩=>some (.slice (some ⟨id,if Nat.beq r.2.2 r.1 then off else off+r.1 * size,none⟩) (r.2.1 - r.1) (r.2.2 - r.1))
 |_=>none
def zS0 (elem:TypeId)(x:Value)(lo hi mx:Option Value):Option Value:=
 match x with
 |.slice a n c=>
  match zGi P elem with
  |some size=>
   if Nat.ble zEo c then
    if Nat.beq c (zEo+size)&&Nat.ble n 1099511627776 then
     match zHy lo hi mx n n with
     |some r=>match mx with
      |some _=>zD7 a size r
      |none=>if Nat.beq r.1 0||Nat.ble (r.1+1) n then(match a with
       |some ⟨id,off,none⟩=>some (.slice (some ⟨id,off+r.1 * size,none⟩) (r.2.1 - r.1) c)
       |_=>none) else some emp
     |none=>none
    else none
   else match zHy lo hi mx n c with
    |some r=>zD7 a size r
    |none=>none
  |none=>none
 |_=>none
def zKg (n:Nat)(elem:TypeId)(x:Value)(lo hi mx:Option Value):Option Value:=
 match x with
 |.pointer a=>match a with
  |none=>none
  |some a=>match zGi P elem with
   |some size=>if Nat.ble n 1099511627776 then(match zHy lo hi mx n n with
    |some r=>zD7 (some a) size r
    |none=>none) else none
   |none=>none
 |_=>none
def zUk (t:TypeId)(x:Value)(lo hi mx:Option Value):Option Value:=
 match typ P t with
 |some .string=>zKf x lo hi mx
 |some (.slice elem)=>zS0 P elem x lo hi mx
 |some (.pointer arr)=>(match typ P arr with|some (.array n elem)=>zKg P n elem x lo hi mx|_=>none)
 |some (.array n elem)=>zKg P n elem x lo hi mx
 |_=>none
def zNi (st:TypeId)(x:Value)(f:Nat):Option Value:=
 match typ P st,x with
 |some (.struct fs),.pointer (some ⟨id,off,none⟩)=>
  match fs[f]? with
  |some fd=>match zGi P fd.type with
   |some n=>if Nat.beq n 0 then none else some (.pointer (some ⟨id,off+fd.offset,none⟩))
   |none=>none
  |none=>none
 |_,_=>none
def zFe (t:TypeId)(x ix:Value):Option Value:=
 match typ P t,x,zIb ix with
 |some (.slice elem),.slice (some ⟨id,off,none⟩) n _,some i=>
  match zGi P elem with
  |some size=>if Nat.ble n i then none else some (.pointer (some ⟨id,off+i * size,none⟩))
  |none=>none
 |some (.array n elem),.pointer (some ⟨id,off,none⟩),some i=>
  match zGi P elem with
  |some size=>if Nat.ble n i then none else some (.pointer (some ⟨id,off+i * size,none⟩))
  |none=>none
 |_,_,_=>none
def yC8 (t:TypeId)(cs:List Value)(off:Nat):Option Value:=
 match zGl P t with
 |some true=>match zGi P t with
  |some n=>match zFd n (zGj off cs) with|some r=>some (.agg r.toArray)|none=>none
  |none=>none
 |some false=>match zGj off cs with|v::_=>some v|[]=>none
 |none=>none
def yF0 (t:TypeId)(x:Value)(f:Nat):Option Value:=
 match typ P t,x with
 |some (.struct fs),.agg cs=>match fs[f]? with|some fd=>yC8 P fd.type cs.toList fd.offset|none=>none
 |_,_=>none
def zQm (t:TypeId)(x ix:Value):Option Value:=
 match typ P t,x,zIb ix with
 |some (.array n elem),.agg cs,some i=>
  match zGi P elem with
  |some size=>if Nat.ble n i then none else yC8 P elem cs.toList (i * size)
  |none=>none
 |some .string,.string b,some i=>match zGj i (b.data.toList.map fun x=>Value.int .u8 x.toNat) with|v::_=>some v|[]=>none
 |_,_,_=>none
def zQn (place:Nat→Option (Nat×Nat))(cells:List Value):List (Nat×Value)→Option (List Value)
 |[]=>some cells
 |(i,v)::rest=>
  match place i with
  |none=>none
  |some (off,size)=>
   if Nat.beq (zA9 v).length size&&!zV9 v then
    match zUj cells off (zA9 v) with
    |some c=>zQn place c rest
    |none=>none
   else none
def zKz:List Field→Option (List (Nat×Nat))
 |[]=>some []
 |f::t=>match zGi P f.type,zKz t with|some n,some r=>some ((f.offset,n)::r)|_,_=>none
def nth {α:Type}:List α→Nat→Option α
 |[],_=>none
 |a::_,0=>some a
 |_::t,n+1=>nth t n
def yF1 (t:TypeId)(parts:List (Nat×Value)):Option Value:=
 match zCx P t with
 |some z=>
  match typ P t with
  |some (.struct fs)=>
   match zKz P fs.toList with
   |some pl=>match zQn (nth pl) (zA9 z) parts with
    |some cs=>some (.agg cs.toArray)
    |none=>none
   |none=>none
  |some (.array _ elem)=>
   match zGi P elem with
   |some size=>match zQn (fun i=>some (i * size,size)) (zA9 z) parts with
    |some cs=>some (.agg cs.toArray)
    |none=>none
   |none=>none
  |_=>none
 |none=>none
def zFp (s:St)(t:TypeId)(len:Nat)(parts:List (Nat×Value)):Option (Value×St):=
 match typ P t with
 |some (.slice elem)=>
  match zGi P elem,zCx P elem with
  |some size,some z=>
   if Nat.ble (len * size) 65536&&Nat.ble 1 size then
    match zQn (fun i=>some (i * size,size)) (zCb (zA9 z) len) parts with
    |some cs=>some (.slice (some ⟨s.next,0,none⟩) len len,s.new (.cells cs (2 * elem+1) false))
    |none=>none
   else none
  |_,_=>none
 |_=>none
def zG9 (s:St)(t:TypeId)(len cap:Value):Option (Value×St):=
 match typ P t,zIb len,zIb cap with
 |some (.slice elem),some l,some c=>
  match P.info? elem with
  |some ei=>match zCx P elem with
   |some z=>
    if Nat.ble l c&&Nat.ble c 1048576&&Nat.ble (c * ei.bytes) 1099511627776 then
     some (.slice (some ⟨s.next,0,none⟩) l c,s.new (.cells (zCb (zA9 z) c) (2 * elem+1) false))
    else none
   |none=>none
  |none=>none
 |_,_,_=>none
def zIc:List Value→Option (List UInt8)
 |[]=>some []
 |.int .u8 n::t=>match zIc t with|some r=>some (UInt8.ofNat n.toNat::r)|none=>none
 |_::_=>none
def zJb (s:St)(dst:Option TypeDesc)(b:ByteArray):Option (Value×St):=
 match dst with
 |some (.slice e)=>(match typ P e with
  |some (.int .u8)=>some (.slice (some ⟨s.next,0,none⟩) b.size (zEo+1),s.new (.cells (b.data.toList.map fun x=>Value.int .u8 x.toNat) (2 * e) false))
  |_=>none)
 |some .string=>some (.string b,s)
 |_=>none
def zEf (s:St) (src dst:Option TypeDesc) (a:Option Addr) (n:Nat):Option (Value×St):=
  match src,dst with
  | some (.slice e), some .string => (match typ P e with
    | some (.int .u8) => (match a with
      | none => some (.string .empty, s)
      | some ⟨id, off, none⟩ =>
        (match s.h.get id with
         | some (.cells cs _ _) => (match zFd n (zGj off cs) with
           | some r => (match zIc r with | some bs => some (.string ⟨bs.toArray⟩, s.read id) | none => none)
           | none => none)
         | _ => none)
      | _ => none)
    | _ => none)
  | _, _ => none
def zId (s:St)(d:Option TypeDesc)(a:Option Addr)(n c:Nat):Option (Value×St):=
 match d with
 |some (.slice e)=>(match typ P e with
  |some (.int .u8)=>(match a with
   |some ⟨id,off,none⟩=>(match s.h.get id with
    |some (.cells cs el false)=>some (.slice (some ⟨id,off,none⟩) n c,s.write id (.cells cs el true))
    |_=>none)
   |_=>none)
  |_=>none)
 |_=>none
def zGn (s:St)(src dst:Option TypeDesc)(a:Option Addr):Option (Value×St):=
 match src,dst with
 |some (.pointer t),some .unsafePointer=>(match a with
  |none=>some (.pointer none,s)
  |some ⟨id,off,none⟩=>(match s.h.get id,zGi P t with
   |some (.cells cs _ _),some n=>if Nat.ble 1 n&&Nat.ble (off+1) cs.length then some (.pointer (some ⟨id,off,none⟩),s.read id) else none
   |_,_=>none)
  |_=>none)
 |some .unsafePointer,some (.pointer u)=>(match a with
  |none=>some (.pointer none,s)
  |some ⟨id,0,none⟩=>(match s.h.get id,zGi P u with
   |some (.cells cs e _),some n=>if Nat.beq e (2 * u+1)&&(Nat.ble 1 n&&Nat.ble n cs.length) then some (.pointer (some ⟨id,0,none⟩),s.read id) else none
   |_,_=>none)
  |_=>none)
 |_,_=>none
def zK0 (s:St)(src dst:Option TypeDesc):Option (Value×St):=
 match src,dst with
 |some (.slice e),some .string=>(match typ P e with|some (.int .u8)=>some (.string .empty,s)|_=>none)
 |_,_=>none
def zB6 (s:St)(src dst:TypeId)(x:Value):Option (Value×St):=
 match x with
 |.string b=>(match typ P src with|some _=>zJb P s (typ P dst) b|none=>none)
 |.slice a n c=>(match Nat.beq src dst with|true=>zId P s (typ P src) a n c|false=>zEf P s (typ P src) (typ P dst) a n)
 |.pointer a=>zGn P s (typ P src) (typ P dst) a
 |.float .f64 1=>zK0 P s (typ P src) (typ P dst)
 |v=>if zGg v then(match zEe P (convert src dst v) with|some r=>if flat r then some (r,s) else none|none=>none) else none
def yHd (d:Option TypeDesc)(a b:Value):Option Bool:=
 match d with
 |some (.pointer _)=>(match a,b with
  |.pointer (some _),.pointer none|.pointer none,.pointer (some _)=>some false
  |_,_=>none)
 |some (.slice _)=>(match a,b with
  |.slice (some _) _ _,.slice none _ _|.slice none _ _,.slice (some _) _ _=>some false
  |_,_=>none)
 |some (.map _ _)=>(match a,b with
  |.map (some _),.map none|.map none,.map (some _)=>some false
  |_,_=>none)
 |some (.func _ _ _)=>(match a,b with
  |.nilFunc,.func ..|.func ..,.nilFunc=>some false
  |_,_=>none)
 |some (.interface _)=>(match a,b with
  |.iface ..,.nilIface|.nilIface,.iface ..=>some false
  |_,_=>none)
 |_=>none
def yHe (t:TypeId):Value→Value→Option Bool
 |.pointer (some ⟨i,o,none⟩),.pointer (some ⟨j,p,none⟩)=>
  if Nat.beq i j then
   match typ P t with
   |some (.pointer e)=>match zGi P e with
    |some n=>if Nat.beq n 0 then none else some (Nat.beq o p)
    |none=>none
   |_=>none
  else none
 |a,b=>yHd (typ P t) a b
def zD3 (k:IntKind)(m n:Int):Int:=k.wrap (m * 2 ^ (min n.toNat k.bits))
def zBm (k:IntKind)(m n:Int):Int:=m.fdiv (2 ^ (min n.toNat k.bits))
def zB2 (k:IntKind)(m n:Int):Int:=k.wrap (BitVec.ofInt k.bits m &&& BitVec.ofInt k.bits n).toNat
def orI (k:IntKind)(m n:Int):Int:=k.wrap (BitVec.ofInt k.bits m ||| BitVec.ofInt k.bits n).toNat
def yF2 (k:IntKind)(m n:Int):Int:=k.wrap (BitVec.ofInt k.bits m ^^^ BitVec.ofInt k.bits n).toNat
def zX3 (k:IntKind)(m n:Int):Int:=k.wrap (BitVec.ofInt k.bits m &&& ~~~ BitVec.ofInt k.bits n).toNat
def zK1 (a b:ByteArray):Bool:=a.data.toList==b.data.toList
def yM7 (a b:ByteArray):Bool:=Op.bytesLess a.data.toList b.data.toList
def zEg (op:BinOp)(k:IntKind)(a b:Int):Option Value:=
 match op with
 |.add=>some (.int k (k.wrap (a+b)))
 |.sub=>some (.int k (k.wrap (a - b)))
 |.mul=>some (.int k (k.wrap (a * b)))
 |.eql=>some (.bool (a==b))
 |.neq=>some (.bool (a != b))
 |.lss=>some (.bool (decide (a < b)))
 |.leq=>some (.bool (decide (a≤b)))
 |.gtr=>some (.bool (decide (b < a)))
 |.geq=>some (.bool (decide (b≤a)))
 |.quo=>match decide (b=0) with|true=>none|false=>some (.int k (k.wrap (a.tdiv b)))
 |.rem=>match decide (b=0) with|true=>none|false=>some (.int k (a.tmod b))
 |.and=>some (.int k (zB2 k a b))
 |.or=>some (.int k (orI k a b))
 |.xor=>some (.int k (yF2 k a b))
 |.andNot=>some (.int k (zX3 k a b))
 |_=>none
def zEq (op:BinOp)(k:IntKind)(a b:Int):Option Value:=
 match op with
 |.shl=>match decide (b < 0) with|true=>none|false=>some (.int k (zD3 k a b))
 |.shr=>match decide (b < 0) with|true=>none|false=>some (.int k (zBm k a b))
 |_=>none
def zJx (op:BinOp)(a b:ByteArray):Option Value:=
 match op with
 |.add=>match Nat.ble (a.size+b.size) 9223372036854775807 with|true=>some (.string (a++b))|false=>none
 |.eql=>some (.bool (zK1 a b))
 |.neq=>some (.bool (!zK1 a b))
 |.lss=>some (.bool (yM7 a b))
 |_=>none
def zGd (a b:IntKind):Bool:=match a,b with
 |.i64,.i64|.u64,.u64|.u8,.u8|.i32,.i32|.u32,.u32|.u16,.u16|.i16,.i16|.i8,.i8=>true
 |_,_=>false
def zBw:List Nat→List Value→List Value→Option Bool
 |[],[],[]=>some true
 |0::ks,.int k a::s,.int k' b::t=>match zGd k k' with
  |true=>(match zBw ks s t with|some r=>some ((a==b)&&r)|none=>none)
  |false=>none
 |1::ks,.bool a::s,.bool b::t=>match zBw ks s t with|some r=>some ((a==b)&&r)|none=>none
 |2::ks,.string a::s,.string b::t=>match zBw ks s t with|some r=>some (zK1 a b&&r)|none=>none
 |_,_,_=>none
def zEh (sh:TypeId→Option (List Nat)):Nat→List Field→Option (List Nat)
 |_,[]=>some []
 |off,f::fs=>match f.name != "_"&&Nat.beq f.offset off with
  |true=>(match sh f.type with
   |some ks=>(match zGi P f.type with
    |some m=>(match Nat.beq m ks.length with
     |true=>(match zEh sh (off+m) fs with|some r=>some (ks++r)|none=>none)
     |false=>none)
    |none=>none)
   |none=>none)
  |false=>none
def zHz:Nat→TypeId→Option (List Nat)
 |0,_=>none
 |d+1,t=>match P.underlying t with
  |some .bool=>some [1]
  |some (.int _)=>some [0]
  |some .string=>some [2]
  |some (.struct fs)=>(match P.stoodInHeld t with|true=>none|false=>zEh P (zHz d) 0 fs.toList)
  |_=>none
def zWb (t:TypeId)(a b:List Value):Option Bool:=
 match P.underlying t with
 |some (.struct fs)=>(match P.stoodInHeld t||P.eqGuardType P.depth t with
  |true=>none
  |false=>(match zEh P (zHz P 11) 0 fs.toList with
   |some ks=>zBw ks a b
   |none=>none))
 |_=>none
def zUl (op:BinOp)(t:TypeId)(a b:List Value):Option Value:=
 match op with
 |.eql=>(match zWb P t a b with|some r=>some (.bool r)|none=>none)
 |.neq=>(match zWb P t a b with|some r=>some (.bool (!r))|none=>none)
 |_=>none
def yM8 (op:BinOp)(t:TypeId)(x y:Operand)(a b:Value):Option Value:=
 if zGg a&&zGg b then
  match zEe P (do eqGuard op t x y a b;binOp op t a b) with
  |some r=>if flat r then some r else none
  |none=>none
 else
  match op,yHe P t a b with
  |.eql,some r=>some (.bool r)
  |.neq,some r=>some (.bool (!r))
  |_,_=>none
def zX4 (op:BinOp)(c:Nat)(n:Int):Option Value:=
 match op with
 |.and=>match Nat.ble 256 (c / 2 % 65536) with
  |true=>match decide (n=((Nat.sub (Nat.pow 2 (Nat.sub (c / 2 % 65536) 256)) 1:Nat):Int))&&(Nat.beq (c % 2) 0&&Nat.ble (c / 2 % 65536) 271) with|true=>some (.int .i64 ((c / 131072:Nat):Int))|false=>none
  |false=>match decide (n=255)&&Nat.beq (c % 2) 0 with|true=>some (.float .f32 (c+1))|false=>none
 |.rem=>match decide (n=((c / 2 % 65536:Nat):Int))&&(Nat.beq (c % 2) 1&&Nat.ble 1 (c / 2 % 65536)) with|true=>some (.int .i64 ((c / 131072:Nat):Int))|false=>none
 |_=>none
def zUm (op:BinOp)(t:TypeId)(x y:Operand)(a b:Value):Option Value:=
 match a,b with
 |.float .f32 c,.int .i64 n=>zX4 op c n
 |.int k m,.int k' n=>(match zEq op k m n with
  |some v=>some v
  |none=>match zGd k k' with
   |true=>zEg op k m n
   |false=>none)
 |.string p,.string q=>(match zJx op p q with|some v=>some v|none=>yM8 P op t x y (.string p) (.string q))
 |.agg p,.agg q=>(match zUl P op t p.toList q.toList with|some v=>some v|none=>yM8 P op t x y (.agg p) (.agg q))
 |a,b=>yM8 P op t x y a b
def zFf (l:zAz):List (Nat×Operand)→List (Nat×Value)
 |[]=>[]
 |(i,x)::t=>(i,evalO l x)::zFf l t
def zE6 (l:zAz):List Operand→List Value
 |[]=>[]
 |x::t=>evalO l x::zE6 l t
def zC3 (l:zAz):Option Operand→Option Value
 |none=>none
 |some x=>some (evalO l x)
def zD8 (s:St)(args:List Value):Option (Value×St):=
 match args with
 |[.slice a n c]=>(match a with
  |none=>some (.pointer none,s)
  |some a=>if Nat.ble zEo c then(if Nat.ble 1 n then some (.pointer (some a),s) else none) else(if Nat.ble 1 c then some (.pointer (some a),s) else none))
 |_=>none
def zB7 (s:St) (pt:Option TypeDesc) (args:List Value):Option (Value×St):=
  match args with
  | [.pointer a, .int _ n] => (match a with
    | none => if n = 0 then some (.string .empty, s) else none
    | some ⟨id, off, none⟩ => (match pt, s.h.get id with
      | some (.pointer u), some (.cells cs e false) =>
        if 0 < n∧n≤1048576 then
          (if Nat.beq (e / 2) u&&Nat.beq (P.cellsOf u) 1 then
            (match zFd n.toNat (zGj off cs) with
             | some r => (match zIc r with | some bs => some (.string ⟨bs.toArray⟩, s.write id (.cells cs e true)) | none => none)
             | none => none)
           else none)
        else none
      | _, _ => none)
    | _ => none)
  | _ => none
def yM9 (t:Option TypeDesc)(x:Value):Option Nat:=
 match t with
 |some .string=>(match x with|.string b=>some b.size|_=>none)
 |some (.slice _)=>(match x with|.slice _ n _=>some n|.float .f64 1=>some 0|_=>none)
 |some (.map _ _)=>(match x with|.map none=>some 0|_=>none)
 |some (.array n _)=>some n
 |some (.pointer arr)=>(match typ P arr with|some (.array n _)=>some n|_=>none)
 |_=>none
def yNa (t:Option TypeDesc)(x:Value):Option Nat:=
 match t with
 |some (.slice _)=>(match x with|.slice _ _ c=>if Nat.ble zEo c then none else some c|_=>none)
 |_=>none
def ofN (r:Option Nat)(s:St):Option (Value×St):=match r with|some n=>some (.int .i64 n,s)|none=>none
def zH0 (s:St)(b:Builtin)(argTypes:Array TypeId)(type:TypeId)(args:List Value):Option (Value×St):=
 match zCp args with
 |true=>(match zEe P (builtin b argTypes type #[] args.toArray) with
  |some (.value v)=>(match flat v with|true=>some (v,s)|false=>none)
  |_=>none)
 |false=>none
def zBn (s:St)(b:Builtin)(argTypes:Array TypeId)(type:TypeId)(args:List Value):Option (Value×St):=
 match b with
 |.append=>zJa P s argTypes args
 |.copy=>zWa P s argTypes args
 |.clear=>zJw P s argTypes args
 |.len=>(match argTypes.toList,args with|t::_,x::_=>ofN (yM9 P (typ P t) x) s|_,_=>none)
 |.cap=>(match argTypes.toList,args with|t::_,x::_=>ofN (yNa (typ P t) x) s|_,_=>none)
 |.unsafeSliceData=>zD8 s args
 |.unsafeString=>(match argTypes.toList with|pt::_=>zB7 P s (typ P pt) args|[]=>none)
 |.min=>zH0 P s .min argTypes type args
 |.max=>zH0 P s .max argTypes type args
 |_=>none
def yPb (k:TypeId):Bool:=match P.underlying k with
 |some .string=>true
 |some (.array _ _)|some (.struct _)=>P.keyTypeAt 12 k&&P.tiled 12 k
 |_=>false
def zQo (a b:Value):Option Bool:=
 match a,b with
 |.int k m,.int k' n=>(match zGd k k' with|true=>some (m==n)|false=>none)
 |.bool a,.bool b=>some (a==b)
 |.string a,.string b=>some (zK1 a b)
 |_,_=>none
def zOu:List Value→List Value→Option Bool
 |[],[]=>some true
 |a::s,b::t=>(match zQo a b with
  |some r=>(match r with|true=>zOu s t|false=>some false)
  |none=>none)
 |_,_=>none
def yHf (a b:Value):Option Bool:=
 match a,b with
 |.agg p,.agg q=>zOu p.toList q.toList
 |a,b=>zQo a b
def zWc (kt:TypeId)(k:Value):List (Value×Value×Nat)→Option (Option Nat)
 |[]=>some none
 |e::t=>(match(keyOf P kt e.1).isSome with
  |true=>(match zWc kt k t with
   |some r=>(match yHf e.1 k with
    |some q=>(match q with
     |true=>(match r with|none=>some (some 0)|some _=>none)
     |false=>(match r with|none=>some none|some j=>some (some (j+1))))
    |none=>none)
   |none=>none)
  |false=>none)
def zX5 (s:St)(x:Value):Option (List (Value×Value×Nat)×St):=
 match x with
 |.map a=>(match a with
  |none=>some ([],s)
  |some id=>(match s.h.get id with
   |some (.ob o)=>(match o with|.mp es _=>some (es,s.read id)|_=>none)
   |_=>none))
 |_=>none
def zS1 (ok:Bool)(v:Value)(b:Bool):Value:=match ok with|true=>.tuple ⟨[v,.bool b]⟩|false=>v
def zX6 (e:TypeId)(ok:Bool)(es:List (Value×Value×Nat))(r:Option (Option Nat)):Option Value:=
 match r with
 |some (some j)=>(match nth es j with|some en=>some (zS1 ok en.2.1 true)|none=>none)
 |some none=>(match zCx P e with|some z=>some (zS1 ok z false)|none=>none)
 |none=>none
def zJc (s:St)(d:Option TypeDesc)(x k:Value)(ok:Bool):Option (Value×St):=
 match d with
 |some (.map kt e)=>(match yPb P kt&&(zGg k&&(keyOf P kt k).isSome) with
  |true=>(match zX5 s x with
   |some r=>(match zX6 P e ok r.1 (zWc P kt k r.1) with
    |some v=>some (v,r.2)
    |none=>none)
   |none=>none)
  |false=>none)
 |_=>none
def zQp (v:Value):List (Value×Value×Nat)→Nat→List (Value×Value×Nat)
 |[],_=>[]
 |e::t,0=>(e.1,v,e.2.2)::t
 |e::t,n+1=>e::zQp v t n
def yNb (k v:Value)(es:List (Value×Value×Nat))(ck:Nat)(r:Option (Option Nat)):Option Ob:=
 match r with
 |some (some j)=>some (.mp (zQp v es j) ck)
 |some none=>some (.mp (es++[(k,v,ck)]) (ck+1))
 |none=>none
def zK2 (s:St)(d:Option TypeDesc)(x k v:Value):Option (Value×St):=
 match d,x with
 |some (.map kt _),.map (some id)=>(match yPb P kt&&(zGg k&&(keyOf P kt k).isSome) with
  |true=>(match s.h.get id with
   |some (.ob o)=>(match o with
    |.mp es ck=>(match yNb k v es ck (zWc P kt k es) with
     |some o'=>some (und,s.write id (.ob o'))
     |none=>none)
    |_=>none)
   |_=>none)
  |false=>none)
 |_,_=>none
def zNj (s:St)(d:Option TypeDesc)(x:Value):Option (Value×St):=
 match d,x with
 |some (.map _ _),.map a=>(match a with
  |none=>some (.pointer (some ⟨s.next,0,none⟩),s.new (.ob (.it none 0 [] 0)))
  |some id=>(match s.h.get id with
   |some (.ob o)=>(match o with
    |.mp _ ck=>some (.pointer (some ⟨s.next,0,none⟩),(s.read id).new (.ob (.it (some id) ck [] ck)))
    |_=>none)
   |_=>none))
 |_,_=>none
def yPc (n:Nat):List Nat→Bool
 |[]=>false
 |m::t=>Nat.beq n m||yPc n t
def zWd (seen:List Nat):List (Value×Value×Nat)→List (Value×Value×Nat)
 |[]=>[]
 |e::t=>(match yPc e.2.2 seen with|true=>zWd seen t|false=>e::zWd seen t)
def zUn (since:Nat):List (Value×Value×Nat)→Bool
 |[]=>true
 |e::t=>Nat.ble (e.2.2+1) since&&zUn since t
def zQq (s:St)(r id since last:Nat)(seen:List Nat)(ck:Nat)(es:List (Value×Value×Nat)):Option (Value×St):=
 match Nat.ble since last&&zUn since es with
 |true=>(match zWd seen es with
  |[]=>some (.tuple ⟨[.bool false]⟩,(s.read r).read id)
  |e::t=>(match t with
   |[]=>some (.tuple ⟨[.bool true,e.1,e.2.1]⟩,(s.read id).write r (.ob (.it (some id) since (seen++[e.2.2]) ck)))
   |_::_=>none))
 |false=>none
def zNk (s:St)(r:Nat)(m:Option Nat)(since last:Nat)(seen:List Nat):Option (Value×St):=
 match m with
 |none=>some (.tuple ⟨[.bool false]⟩,s.read r)
 |some id=>(match s.h.get id with
  |some (.ob o)=>(match o with
   |.mp es ck=>zQq s r id since last seen ck es
   |_=>none)
  |_=>none)
def zS2 (s:St)(x:Value)(str:Bool):Option (Value×St):=
 match x,str with
 |.pointer (some ⟨r,0,none⟩),false=>(match s.h.get r with
  |some (.ob o)=>(match o with
   |.it m since seen last=>zNk s r m since last seen
   |_=>none)
  |_=>none)
 |_,_=>none
def zWe:List Nat→Option Nat
 |[]=>none
 |n::t=>(match t with|[]=>some n|_::_=>zWe t)
def zQr (n:Nat):List (Value×Value×Nat)→Option (Value×Value×Nat)
 |[]=>none
 |e::t=>(match Nat.beq e.2.2 n with|true=>some e|false=>zQr n t)
def zOv (s:St)(r id last ck:Nat)(seen:List Nat)(es:List (Value×Value×Nat)):Option (Value×St):=
 match Nat.beq ck last,zWe seen with
 |true,some n=>(match zQr n es with
  |some e=>some (.tuple ⟨[e.1,e.2.1]⟩,(s.read r).read id)
  |none=>none)
 |_,_=>none
def zOw (s:St)(r:Nat)(m:Option Nat)(last:Nat)(seen:List Nat):Option (Value×St):=
 match m with
 |none=>none
 |some id=>(match s.h.get id with
  |some (.ob o)=>(match o with
   |.mp es ck=>zOv s r id last ck seen es
   |_=>none)
  |_=>none)
def zQs (s:St)(x:Value):Option (Value×St):=
 match x with
 |.pointer (some ⟨r,0,none⟩)=>(match s.h.get r with
  |some (.ob o)=>(match o with
   |.it m _ seen last=>zOw s r m last seen
   |_=>none)
  |_=>none)
 |_=>none
abbrev Call:=FuncId→List Value→St→Option (Value×St)
abbrev OpF:=zAz→St→Option (Value×St)
def ofV (v:Option Value)(s:St):Option (Value×St):=match v with|some v=>some (v,s)|none=>none
def zK3 (x:Operand):OpF:=fun l s=>some (evalO l x,s)
def zIe (c a b:Operand):OpF:=fun l s=>match evalO l c with
 |.bool t=>match t with|true=>some (evalO l a,s)|false=>some (evalO l b,s)
 |_=>none
def zK4 (e:TypeId):OpF:=fun _ s=>match zCx P e with
 |some z=>some (.pointer (some ⟨s.next,0,none⟩),s.new (.cells (zA9 z) (2 * e+1) false))
 |none=>none
def zWf (e:TypeId)(x:Operand):OpF:=fun l s=>
 if !zV9 (evalO l x) then some (.pointer (some ⟨s.next,0,none⟩),s.new (.cells (zA9 (evalO l x)) (2 * e+1) false)) else none
def zOx (t:TypeId)(parts:Array (Nat×Operand)):OpF:=fun l s=>ofV (yF1 P t (zFf l parts.toList)) s
def zCq (t:TypeId)(n:Nat)(parts:Array (Nat×Operand)):OpF:=fun l s=>zFp P s t n (zFf l parts.toList)
def zQt (t:TypeId)(a:Operand):OpF:=fun l s=>zDw P s t (evalO l a)
def zGo (t:TypeId)(a x:Operand):OpF:=fun l s=>match zNg P s t (evalO l a) (evalO l x) with|some s=>some (und,s)|none=>none
def zCu (x:Operand):OpF:=fun l s=>match evalO l x with
 |.pointer a=>match a with|some a=>some (.pointer (some a),s)|none=>none
 |.func f a b=>match f with|.func f=>some (.func (.func f) a b,s)|_=>none
 |_=>none
def yC9 (op:BinOp)(t:TypeId)(x y:Operand):OpF:=fun l s=>ofV (zUm P op t x y (evalO l x) (evalO l y)) s
def yHg (op:UnOp)(x:Operand):OpF:=fun l s=>
 match zGg (evalO l x) with
 |true=>match zEe P (Op.unary op (evalO l x)) with
  |some v=>match flat v with|true=>some (v,s)|false=>none
  |none=>none
 |false=>none
def zIf (src dst:TypeId)(x:Operand):OpF:=fun l s=>zB6 P s src dst (evalO l x)
def zBz (t:TypeId)(x:Operand):OpF:=fun l s=>match typ P t with
 |some d=>match d with|.interface _=>none|_=>some (.iface t (evalO l x),s)
 |none=>none
def zHa (fn:Fn)(a b:Array Operand):OpF:=fun l s=>some (.func fn (zE6 l a.toList).toArray (zE6 l b.toList).toArray,s)
def zC4 (t:TypeId)(n c:Operand):OpF:=fun l s=>zG9 P s t (evalO l n) (evalO l c)
def zOy (t:TypeId)(x:Operand)(lo hi mx:Option Operand):OpF:=fun l s=>ofV (zUk P t (evalO l x) (zC3 l lo) (zC3 l hi) (zC3 l mx)) s
def zFq (t:TypeId)(x:Operand)(f:Nat):OpF:=fun l s=>ofV (zNi P t (evalO l x) f) s
def zOz (t:TypeId)(x:Operand)(f:Nat):OpF:=fun l s=>ofV (yF0 P t (evalO l x) f) s
def zFr (t:TypeId)(x i:Operand):OpF:=fun l s=>ofV (zFe P t (evalO l x) (evalO l i)) s
def zO0 (t:TypeId)(x i:Operand):OpF:=fun l s=>ofV (zQm P t (evalO l x) (evalO l i)) s
def zDd (t:Operand)(i:Nat):OpF:=fun l s=>match evalO l t with
 |.tuple vs=>match vs.toList with|[]=>none|w::ws=>ofV (nth (w::ws) i) s
 |_=>none
def zE7 (call:Call)(f:Operand)(xs:Array Operand):OpF:=fun l s=>match evalO l f with
 |.func g first cap=>match g with
  |.func g=>call g (first.toList++(zE6 l xs.toList++cap.toList)) s
  |_=>none
 |_=>none
def zFg (b:Builtin)(ts:Array TypeId)(type:TypeId)(xs:Array Operand):OpF:=fun l s=>zBn P s b ts type (zE6 l xs.toList)
def zIg (r:Option Operand):OpF:=fun _ s=>match r with
 |none=>some (.map (some s.next),s.new (.ob (.mp [] 0)))
 |some _=>none
def zKh (t:TypeId)(x k:Operand)(ok:Bool):OpF:=fun l s=>zJc P s (typ P t) (evalO l x) (evalO l k) ok
def zFs (t:TypeId)(x k v:Operand):OpF:=fun l s=>zK2 P s (typ P t) (evalO l x) (evalO l k) (evalO l v)
def zO1 (t:TypeId)(x:Operand):OpF:=fun l s=>zNj s (typ P t) (evalO l x)
def zUo (x:Operand)(str:Bool):OpF:=fun l s=>zS2 s (evalO l x) str
def zO2 (x:Operand):OpF:=fun l s=>zQs s (evalO l x)
def yF3:OpF:=fun _ _=>none
def zIh (call:Call)(c:Go.Call)(type:TypeId):OpF:=match c.callee with
 |.builtin b=>zFg P b c.argTypes type c.args
 |.value f=>zE7 call f c.args
 |.invoke _ _=>yF3
def opD (call:Call)(o:Oper):OpF:=
 match o.op with
 |.move x=>zK3 x
 |.assign x=>zK3 x
 |.pick c a b=>zIe c a b
 |.alloc e=>zK4 P e
 |.box e x=>zWf e x
 |.build t parts=>zOx P t parts
 |.buildSlice t n parts=>zCq P t n parts
 |.load t a=>zQt P t a
 |.store t a x=>zGo P t a x
 |.nilCheck x=>zCu x
 |.binOp op t x y _=>yC9 P op t x y
 |.unOp op _ x=>yHg P op x
 |.convert src dst x=>zIf P src dst x
 |.makeInterface t x=>zBz P t x
 |.makeFunc fn a b=>zHa fn a b
 |.makeSlice t n c=>zC4 P t n c
 |.slice t x lo hi mx=>zOy P t x lo hi mx
 |.fieldAddr t x f=>zFq P t x f
 |.field t x f=>zOz P t x f
 |.indexAddr t x i=>zFr P t x i
 |.index t x i=>zO0 P t x i
 |.extract t i=>zDd t i
 |.makeMap _ r=>zIg r
 |.lookup t x k ok=>zKh P t x k ok
 |.range t x=>zO1 P t x
 |.next x str=>zUo x str
 |.entry x=>zO2 x
 |.mapUpdate t x k v=>zFs P t x k v
 |.call c=>zIh P call c o.type
 |_=>yF3
def yNc:Operand→Nat
 |.tmp t=>Nat.shiftLeft 1 t
 |_=>0
def zUp:List Operand→Nat
 |[]=>0
 |x::t=>Nat.lor (yNc x) (zUp t)
def zNl (ops:List Oper) (o:Oper):Nat:=
  Nat.lor (zUp o.op.operands.toList)
    (match o.guard with
     | none => 0
     | some (j, _) => match nth ops j with | some g => (match g.dst with | some d => Nat.shiftLeft 1 d | none => 0) | none => 0)
def zO3 (o:Oper):Nat:=match o.dst with|some d=>Nat.shiftLeft 1 d|none=>0
def zJd (l:zAz)(d:Option Tmp)(v:Value):zAz:=match d with|some t=>zX1 l t v|none=>l
def zBp (ops:List Oper)(l:zAz)(o:Oper):Option Bool:=
 match o.guard with
 |none=>some true
 |some g=>
  match nth ops g.1 with
  |some q=>(match q.dst with
   |some d=>(match zEp l d with
    |.bool b=>some (b==g.2)
    |.tuple _=>none
    |_=>some false)
   |none=>none)
  |none=>none
def zNm (l:zAz)(d:Option Tmp)(ih:zAz→St→Option (zAz×St))(r:Option (Value×St)):Option (zAz×St):=match r with
 |some x=>ih (zJd l d x.1) x.2
 |none=>none
def zH1 (f:OpF)(d:Option Tmp)(w:zAz→Option Bool)(ih:zAz→St→Option (zAz×St)):zAz→St→Option (zAz×St):=fun l s=>
 match w l with
 |some t=>(match t with
  |true=>zNm l d ih (f l s)
  |false=>ih (zJd l d skp) s)
 |none=>none
def zWg (call:Call)(all:List Oper)(ops:List Oper):zAz→St→Option (zAz×St):=
 List.rec (fun l s=>some (l,s)) (fun o _ ih=>zH1 (opD P call o) o.dst (fun l=>zBp all l o) ih) ops
structure zDv where
 rt:Nat
 wt:Nat
 rd:Nat
 wr:Nat
 before:Nat
def zHb (done:List zDv)(es:List Edge):Nat:=
 match es with
 |[]=>0
 |e::t=>Nat.lor (match e.ground with|.textOnly _|.gcOnly _=>0|_=>Nat.lor (Nat.shiftLeft 1 e.on) (match nth done e.on with|some f=>f.before|none=>0)) (zHb done t)
def zFt (i:Nat):List Edge→Bool
 |[]=>true
 |e::t=>(match e.ground with|.textOnly _|.gcOnly _=>true|_=>Nat.ble (e.on+1) i)&&zFt i t
def apart (a b:zDv):Bool:=
 Nat.beq (Nat.land a.wt (Nat.lor b.rt b.wt)) 0&&Nat.beq (Nat.land b.wt a.rt) 0&&
 Nat.beq (Nat.land a.wr (Nat.lor b.rd b.wr)) 0&&Nat.beq (Nat.land b.wr a.rd) 0
def zFu (f:zDv):Nat→List zDv→Bool
 |_,[]=>true
 |i,g::t=>(Nat.testBit f.before i||apart g f)&&zFu f (i+1) t
abbrev zJ7:=Option (TypeId×Value×Value)
def yDa:Option Addr→Option Addr→Bool
 |none,none=>true
 |some ⟨i,o,none⟩,some ⟨j,p,none⟩=>Nat.beq i j&&Nat.beq o p
 |_,_=>false
def zWh (a b:Value):Bool:=
 match a,b with
 |.pointer a,.pointer b=>yDa a b
 |.slice a n c,.slice b m d=>yDa a b&&(Nat.beq n m&&Nat.beq c d)
 |a,b=>(match zQo a b with|some r=>r|none=>false)
def apartS (a b:zDv):Bool:=
 Nat.beq (Nat.land a.wt (Nat.lor b.rt b.wt)) 0&&Nat.beq (Nat.land b.wt a.rt) 0&&
 Nat.beq (Nat.land a.wr (Nat.lor b.rd b.wr)) 0
def zJe (x:Option zJ7)(s:St):Option St:=
 match x with
 |some y=>(match y with
  |some z=>(match zDw P s z.1 z.2.1 with
   |some r=>(match zWh z.2.2 r.1 with|true=>some r.2|false=>none)
   |none=>none)
  |none=>none)
 |none=>none
def zD4 (f:zDv):Nat→List zDv→List zJ7→St→Option St
 |_,[],_,s=>some s
 |i,g::t,sl,s=>(match Nat.testBit f.before i||apart g f with
  |true=>zD4 f (i+1) t sl.tail s
  |false=>(match apartS g f with
   |true=>(match zJe P sl.head? s with
    |some s'=>zD4 f (i+1) t sl.tail s'
    |none=>none)
   |false=>none))
def zJy (all:List Oper)(o:Oper)(l:zAz)(v:Value):zJ7:=
 match o.op with
 |.load t a=>(match zBp all l o with
  |some b=>(match b with|true=>some (t,evalO l a,v)|false=>none)
  |none=>none)
 |_=>none
def zNn (f:zDv)(done:List zDv)(sl:List zJ7)(next:zAz→St→Option (zAz×St))(l:zAz)(s:St):Option (zAz×St):=
 match zD4 P f 0 done sl s with
 |some s'=>next l s'
 |none=>none
def zHc (all:List Oper)(o:Oper)(done:List zDv)(sl:List zJ7)(next:List zDv→List zJ7→zAz→St→Option (zAz×St))(l:zAz)(s:St)(r:Option (Value×St)):Option (zAz×St):=
 match r with
 |some x=>(fun f:zDv=>zNn P f done sl (next (done++[f]) (sl++[zJy all o l x.1])) (zJd l o.dst x.1) { h:=x.2.h,next:=x.2.hi,hi:=Nat.max s.hi x.2.hi,rd:=Nat.lor s.rd x.2.rd,wr:=Nat.lor s.wr x.2.wr })
   { rt:=zNl all o,wt:=zO3 o,rd:=x.2.rd,wr:=x.2.wr,before:=zHb done o.after.toList }
 |none=>none
def zC5 (f:OpF)(w:zAz→Option Bool):OpF:=fun l s=>match w l with
 |some t=>(match t with|true=>f l s|false=>some (skp,s))
 |none=>none
def zJ8 (call:Call)(all:List Oper)(ops:List Oper):List zDv→List zJ7→zAz→St→Option (zAz×St):=
 List.rec (fun _ _ l s=>some (l,s)) (fun o _ ih done sl l s=>
  match zFt done.length o.after.toList with
  |true=>zHc P all o done sl ih l s (zC5 (opD P call o) (fun l=>zBp all l o) l { h:=s.h,next:=s.next,hi:=s.next,rd:=0,wr:=0 })
  |false=>none) ops
inductive Ex where
 |normal
 |exit (id:Nat)
 |ret
abbrev zDa:=zAz→St→Option (Ex×zAz×St)
def yHh (e:Ex):zDa:=fun l s=>some (e,l,s)
def zX7:zDa:=fun _ _=>none
def yF4 (r:Option (zAz×St)):Option (Ex×zAz×St):=match r with|some x=>some (.normal,x.1,x.2)|none=>none
def yPw (call:Call)(ops:List Oper):zDa:=fun l s=>yF4 (zJ8 P call ops ops [] [] l s)
def yTi (call:Call)(ops:List Oper):zDa:=fun l s=>yF4 (zWg P call ops ops l s)
def andThen (f:zDa)(r:Option (Ex×zAz×St)):Option (Ex×zAz×St):=match r with
 |some x=>match x.1 with|.normal=>f x.2.1 x.2.2|e=>some (e,x.2.1,x.2.2)
 |none=>none
def yHi (f g:zDa):zDa:=fun l s=>andThen g (f l s)
def zS3 (c:Operand)(f g:zDa):zDa:=fun l s=>match evalO l c with
 |.bool t=>match t with|true=>f l s|false=>g l s
 |_=>none
def zS4 (id:Nat)(r:Option (Ex×zAz×St)):Option (Ex×zAz×St):=match r with
 |some x=>match x.1 with
  |.exit i=>match Nat.beq i id with|true=>some (.normal,x.2.1,x.2.2)|false=>some (.exit i,x.2.1,x.2.2)
  |e=>some (e,x.2.1,x.2.2)
 |none=>none
def zQu (id:Nat)(f:zDa):zDa:=fun l s=>zS4 id (f l s)
def zX8 (k:Nat)(f:zDa):zDa:=Nat.rec (fun _ _=>none) (fun _ ih=>yHi f ih) k
def zM1 (call:Call)(k:Nat)(c:Code):zDa:=
 Code.rec (motive:=fun _=>zDa)
  (yHh .normal)
  (fun _ ops draw=>match draw with|true=>yPw P call ops.toList|false=>yTi P call ops.toList)
  (fun _ _ fa fb=>yHi fa fb)
  (fun c _ _ fa fb=>zS3 c fa fb)
  (fun id _ fa=>zQu id fa)
  (fun _ fa=>zX8 k fa)
  (fun _ _ _ _ _ _=>zX7)
  (fun id=>yHh (.exit id))
  (fun _ _=>zX7)
  (fun _=>zX7) (fun _=>zX7)
  (yHh .ret) (fun _=>zX7) c
def zQv (l:zAz)(s:St):List ResultVar→Option (List Value×St)
 |[]=>some ([],s)
 |.tmp t::rest=>match zQv l s rest with|some (vs,s)=>some (zEp l t::vs,s)|none=>none
 |.cell a t::rest=>match zDw P s t (zEp l a) with
  |some (v,s)=>(match zQv l s rest with|some (vs,s)=>some (v::vs,s)|none=>none)
  |none=>none
def zAn (args:List Value):Nat→zAz
 |0=>[]
 |k+1=>match args with
  |a::b::c::d::e::f::g::h::t=>[a,b,c,d,e,f,g,h]::zAn t k
  |[]=>[]
  |l=>[l]
def zHr:List Value→Value
 |[v]=>v
 |vs=>.tuple vs.toArray
def gcD (s:St)(v:Value)(s':St):Option (Value×St):=
 match flat v&&(Nat.beq (Nat.mod s'.wr (Nat.shiftLeft 1 s.next)) 0&&Nat.ble (Nat.lor s'.rd s'.wr+1) (Nat.shiftLeft 1 s'.next)) with
 |true=>some (v,{ h:=s.h,next:=s.next,hi:=s'.hi,rd:=Nat.lor s.rd (Nat.mod s'.rd (Nat.shiftLeft 1 s.next)),wr:=s.wr })
 |false=>some (v,{ h:=s'.h,next:=s'.next,hi:=s'.hi,rd:=s'.rd,wr:=Nat.lor s.wr s'.wr })
def yF5 (s:St)(r:Option (List Value×St)):Option (Value×St):=match r with
 |some x=>gcD s (zHr x.1) x.2
 |none=>none
def ySl (fn:Func)(s:St)(r:Option (Ex×zAz×St)):Option (Value×St):=match r with
 |some x=>match x.1 with
  |.exit _=>none
  |_=>yF5 s (zQv P x.2.1 x.2.2 fn.results.toList)
 |none=>none
def zUq (run:Code→zDa)(fn:Func)(c:Code)(args:List Value)(s:St):Option (Value×St):=
 match Nat.ble args.length fn.ntmps with
 |true=>ySl P fn s (run c (zAn args 8) { h:=s.h,next:=s.next,hi:=s.hi,rd:=s.rd,wr:=0 })
 |false=>none
def yDb (run:Code→zDa)(fn:Option Func)(args:List Value)(s:St):Option (Value×St):=match fn with
 |some fn=>match fn.body with
  |some c=>zUq P run fn c args s
  |none=>none
 |none=>none
def zJf (intr:FuncId→Option (List Value→St→Option (Value×St)))(n k:Nat):Call:=
 Nat.rec (fun _ _ _=>none) (fun _ ih f=>
  match intr f with
  |some g=>g
  |none=>yDb P (zM1 P ih n) (nth P.funcs.toList f)) k
end Go.Det
namespace Go.Det
theorem zCz {α:Type}(d:α)(n:Nat):zEc d [] n=d:=rfl
theorem zJg {α:Type}(d v:α)(t:List α):zEc d (v::t) 0=v:=rfl
theorem zDk {α:Type}(d v:α)(t:List α)(n:Nat):zEc d (v::t) (n+1)=zEc d t n:=rfl
theorem zM2 {α:Type}(d v:α):zKx d v [] 0=[v]:=rfl
theorem zHt {α:Type}(d v:α)(n:Nat):zKx d v [] (n+1)=d::zKx d v [] n:=rfl
theorem zWi {α:Type}(d v x:α)(t:List α):zKx d v (x::t) 0=v::t:=rfl
theorem zNo {α:Type}(d v x:α)(t:List α)(n:Nat):zKx d v (x::t) (n+1)=x::zKx d v t n:=rfl
theorem zIi {α:Type}(d v:α):∀ (l:List α) (n m:Nat),zEc d (zKx d v l n) m=if m=n then v else zEc d l m
 |[],0,0=>rfl
 |[],0,m+1=>by simp[zM2,zDk,zCz]
 |[],n+1,0=>by simp[zHt,zJg,zCz]
 |[],n+1,m+1=>by rw[zHt,zDk,zIi d v [] n m];simp[zCz]
 |x::t,0,0=>rfl
 |x::t,0,m+1=>by simp[zWi,zDk]
 |x::t,n+1,0=>by simp[zNo,zJg]
 |x::t,n+1,m+1=>by rw[zNo,zDk,zIi d v t n m];simp[zDk]
theorem Tab.get_set {α:Type}(d v:α)(l:Tab α)(n m:Nat):Tab.get d (Tab.set d l n v) m=if m=n then v else Tab.get d l m:=by
 show zEc d (zEc [] (zKx [] (zKx d v (zEc [] l (n / 8)) (n % 8)) l (n / 8)) (m / 8)) (m % 8)=if m=n then v else zEc d (zEc [] l (m / 8)) (m % 8)
 rw[zIi]
 by_cases h:m / 8=n / 8
 ·rw[if_pos h,zIi]
  by_cases h2:m % 8=n % 8
  ·rw[if_pos h2,if_pos (by omega)]
  ·rw[if_neg h2,if_neg (by intro e;exact h2 (by rw[e])),h]
 ·rw[if_neg h,if_neg (by intro e;exact h (by rw[e]))]
theorem Heap.get_set (h:Heap)(n m:Nat)(b:Blk):(h.set n b).get m=if m=n then some b else h.get m:=Tab.get_set none (some b) h n m
theorem zFv (l:zAz)(n m:Nat)(v:Value):zEp (zX1 l n v) m=if m=n then v else zEp l m:=Tab.get_set und v l n m
abbrev Ren:=Nat→Option (Nat×Nat×Nat)
def yF6 (c:Nat)(n:Int):Prop:=(c % 2=0∧c / 2 % 65536 < 256∧(n % 256) % ((c / 2 % 65536:Nat):Int)=((c / 131072:Nat):Int))∨(c % 2=1∧0≤n∧n % ((c / 2 % 65536:Nat):Int)=((c / 131072:Nat):Int))∨
 (c % 2=0∧256≤c / 2 % 65536∧n % ((2 ^ (c / 2 % 65536 - 256):Nat):Int)=((c / 131072:Nat):Int))
inductive VR (φ:Ren):Value→Value→Prop
 |any (v:Value):VR φ und v
 |skip:VR φ (.float .f64 0) (.tuple #[])
 |emp (a:Option Addr) (c:Nat):(∀ x,a=some x→x.spot=none)→VR φ (.float .f64 1) (.slice a 0 c)
 |mark (c:Nat) (n:Int):yF6 c n→VR φ (.float .f32 c) (.int .i64 n)
 |bool (b:Bool):VR φ (.bool b) (.bool b)
 |int (k:IntKind) (n:Int):VR φ (.int k n) (.int k n)
 |string (s:ByteArray):VR φ (.string s) (.string s)
 |pnil:VR φ (.pointer none) (.pointer none)
 |ptr (id off b sh sz:Nat):φ id=some (b,sh,sz)→VR φ (.pointer (some ⟨id,off,none⟩)) (.pointer (some ⟨b,sh+off,none⟩))
 |snil (n c:Nat):c < zEo→VR φ (.slice none n c) (.slice none n c)
 |slice (id off b sh sz n c:Nat):φ id=some (b,sh,sz)→c < zEo→VR φ (.slice (some ⟨id,off,none⟩) n c) (.slice (some ⟨b,sh+off,none⟩) n c)
 |sliceU (id off b sh sz n c es:Nat):φ id=some (b,sh,sz)→0 < es→sh+off+c * es=sz→n≤c→
   VR φ (.slice (some ⟨id,off,none⟩) n (zEo+es)) (.slice (some ⟨b,sh+off,none⟩) n c)
 |mnil:VR φ (.map none) (.map none)
 |map (id b sh sz:Nat):φ id=some (b,sh,sz)→VR φ (.map (some id)) (.map (some b))
 |func (fn:Fn) (a a' c c':List Value):a.length=a'.length→(∀ i,VR φ (a.getD i und) (a'.getD i und))→c.length=c'.length→(∀ i,VR φ (c.getD i und) (c'.getD i und))→
   VR φ (.func fn ⟨a⟩ ⟨c⟩) (.func fn ⟨a'⟩ ⟨c'⟩)
 |nilFunc:VR φ .nilFunc .nilFunc
 |iface (t:TypeId) (v v':Value):VR φ v v'→VR φ (.iface t v) (.iface t v')
 |nilIface:VR φ .nilIface .nilIface
 |agg (a a':List Value):a.length=a'.length→(∀ i,VR φ (a.getD i und) (a'.getD i und))→VR φ (.agg ⟨a⟩) (.agg ⟨a'⟩)
 |tuple (a a':List Value):a.length=a'.length→(∀ i,VR φ (a.getD i und) (a'.getD i und))→VR φ (.tuple ⟨a⟩) (.tuple ⟨a'⟩)
def VRL (φ:Ren)(l l':List Value):Prop:=l.length=l'.length∧∀ i,VR φ (l.getD i und) (l'.getD i und)
def Le (φ φ':Ren):Prop:=∀ id x,φ id=some x→φ' id=some x
theorem Le.refl (φ:Ren):Le φ φ:=fun _ _ h=>h
theorem Le.trans {φ φ' φ'':Ren}(h:Le φ φ')(h':Le φ' φ''):Le φ φ'':=fun _ _ e=>h' _ _ (h _ _ e)
theorem VR.mono {φ φ':Ren}(h:Le φ φ'){v v':Value}(hv:VR φ v v'):VR φ' v v':=by
 induction hv with
 |any v=>exact .any v
 |skip=>exact .skip
 |emp a c h=>exact .emp a c h
 |mark c n h=>exact .mark c n h
 |bool b=>exact .bool b
 |int k n=>exact .int k n
 |string s=>exact .string s
 |pnil=>exact .pnil
 |ptr id off b sh sz e=>exact .ptr _ _ _ _ _ (h _ _ e)
 |snil n c e=>exact .snil n c e
 |slice id off b sh sz n c e k=>exact .slice _ _ _ _ _ _ _ (h _ _ e) k
 |sliceU id off b sh sz n c es e k q r=>exact .sliceU _ _ _ _ _ _ _ _ (h _ _ e) k q r
 |mnil=>exact .mnil
 |map id b sh sz e=>exact .map _ _ _ _ (h _ _ e)
 |func fn a a' c c' e _ e2 _ ih ih2=>exact .func _ _ _ _ _ e ih e2 ih2
 |nilFunc=>exact .nilFunc
 |iface t v v' _ ih=>exact .iface t _ _ ih
 |nilIface=>exact .nilIface
 |agg a a' e _ ih=>exact .agg _ _ e ih
 |tuple a a' e _ ih=>exact .tuple _ _ e ih
theorem VRL.nil (φ:Ren):VRL φ [] []:=⟨rfl,fun _=>.any _⟩
theorem VRL.cons {φ:Ren}{v v':Value}{l l':List Value}(h:VR φ v v')(hl:VRL φ l l'):VRL φ (v::l) (v'::l'):=
 ⟨by simp[hl.1],fun i=>by cases i with|zero=>exact h|succ i=>exact hl.2 i⟩
theorem VRL.head {φ:Ren}{v:Value}{l l':List Value}(h:VRL φ (v::l) l'):∃ v' t',l'=v'::t'∧VR φ v v'∧VRL φ l t':=by
 cases l' with
 |nil=>exact absurd h.1 (by simp)
 |cons v' t'=>exact⟨v',t',rfl,h.2 0,by simpa using h.1,fun i=>h.2 (i+1)⟩
theorem VRL.of_nil {φ:Ren}{l':List Value}(h:VRL φ [] l'):l'=[]:=by
 cases l' with
 |nil=>rfl
 |cons v t=>exact absurd h.1 (by simp)
theorem VRL.append {φ:Ren}{a a' b b':List Value}(h:VRL φ a a')(k:VRL φ b b'):VRL φ (a++b) (a'++b'):=by
 induction a generalizing a' with
 |nil=>rw[h.of_nil];exact k
 |cons v t ih=>obtain⟨v',t',rfl,hv,ht⟩:=h.head;exact VRL.cons hv (ih ht)
theorem VRL.drop {φ:Ren}{l l':List Value}(h:VRL φ l l')(n:Nat):VRL φ (l.drop n) (l'.drop n):=by
 refine⟨by simp[h.1],fun i=>?_⟩
 have:=h.2 (n+i)
 simpa [List.getD_eq_getElem?_getD,List.getElem?_drop] using this
theorem VRL.take {φ:Ren}{l l':List Value}(h:VRL φ l l')(n:Nat):VRL φ (l.take n) (l'.take n):=by
 induction n generalizing l l' with
 |zero=>simp only[List.take_zero];exact VRL.nil φ
 |succ n ih=>
  cases l with
  |nil=>rw[h.of_nil];exact VRL.nil φ
  |cons v t=>obtain⟨v',t',rfl,hv,ht⟩:=h.head;exact VRL.cons hv (ih ht)
theorem VR.agg_of {φ:Ren}{l l':List Value}(h:VRL φ l l'):VR φ (.agg ⟨l⟩) (.agg ⟨l'⟩):=.agg _ _ h.1 h.2
theorem VR.tuple_of {φ:Ren}{l l':List Value}(h:VRL φ l l'):VR φ (.tuple ⟨l⟩) (.tuple ⟨l'⟩):=.tuple _ _ h.1 h.2
theorem zJh {v:Value} (h:zGk v=true) (φ:Ren):VR φ v v:=by
  unfold zGk at h
  split at h <;> first
    | exact .bool _ | exact .int _ _ | exact .string _ | exact .nilFunc | exact .nilIface | exact .pnil | exact .mnil
    | (rename_i n c; exact .snil _ _ (by simp at h; subst h; unfold zEo; omega))
    | (rename_i fn f c
       obtain⟨f⟩:=f;obtain⟨c⟩:=c
       simp only[Bool.and_eq_true,List.isEmpty_iff] at h
       obtain⟨rfl,rfl⟩:=h
       exact .func _ [] [] [] [] rfl (fun _ => .any _) rfl (fun _ => .any _))
    | (exact absurd h (by simp))
theorem zNp {l:List Value}(h:zEd l=true)(φ:Ren):VRL φ l l:=by
 induction l with
 |nil=>exact VRL.nil φ
 |cons v t ih=>simp only[zEd,Bool.and_eq_true] at h;exact VRL.cons (zJh h.1 φ) (ih h.2)
theorem zD9 {v:Value}(h:zGg v=true)(φ:Ren):VR φ v v:=by
 unfold zGg at h
 split at h
 ·rename_i cs;obtain⟨cs⟩:=cs;exact VR.agg_of (zNp h φ)
 ·exact .iface _ _ _ (zJh h φ)
 ·exact zJh h φ
theorem zDl {l:List Value}(h:zCp l=true)(φ:Ren):VRL φ l l:=by
 induction l with
 |nil=>exact VRL.nil φ
 |cons v t ih=>simp only[zCp,Bool.and_eq_true] at h;exact VRL.cons (zD9 h.1 φ) (ih h.2)
theorem zCi {v:Value}(h:flat v=true)(φ:Ren):VR φ v v:=by
 unfold flat at h
 split at h
 ·rename_i vs;obtain⟨vs⟩:=vs;exact VR.tuple_of (zDl h φ)
 ·exact zD9 h φ
theorem zK5 {φ:Ren} {v v':Value} (h:zGk v=true) (k:VR φ v v'):v'=v:=by
  cases k <;> first
    | rfl
    | (simp [zGk, und] at h; done)
    | (rename_i e1 _ e2 _
       simp only[zGk,Bool.and_eq_true,List.isEmpty_iff] at h
       obtain⟨rfl,rfl⟩:=h
       rw[List.eq_nil_of_length_eq_zero e1.symm,List.eq_nil_of_length_eq_zero e2.symm])
theorem zX9 {φ:Ren}{l l':List Value}(h:zEd l=true)(k:VRL φ l l'):l'=l:=by
 induction l generalizing l' with
 |nil=>exact k.of_nil
 |cons v t ih=>
  obtain⟨v',t',rfl,hv,ht⟩:=k.head
  simp only[zEd,Bool.and_eq_true] at h
  rw[zK5 h.1 hv,ih h.2 ht]
theorem zCj {φ:Ren}{v v':Value}(h:zGg v=true)(k:VR φ v v'):v'=v:=by
 unfold zGg at h
 split at h
 ·cases k with
  |agg a a' e q=>rw[zX9 h ⟨e,q⟩]
 ·cases k with
  |iface t v v' q=>rw[zK5 h q]
 ·exact zK5 h k
theorem zCf {φ:Ren}{l l':List Value}(h:zCp l=true)(k:VRL φ l l'):l'=l:=by
 induction l generalizing l' with
 |nil=>exact k.of_nil
 |cons v t ih=>
  obtain⟨v',t',rfl,hv,ht⟩:=k.head
  simp only[zCp,Bool.and_eq_true] at h
  rw[zCj h.1 hv,ih h.2 ht]
theorem VR.back {φ φ':Ren}(hle:Le φ φ'){v x y:Value}(h:VR φ v x)(k:VR φ' v y):VR φ v y:=by
 induction h generalizing y with
 |any v=>exact .any _
 |skip=>cases k;exact .skip
 |emp a c h=>cases k with|emp a' c' h'=>exact .emp a' c' h'
 |mark c n h=>cases k with|mark _ _ h'=>exact .mark _ _ h'
 |bool b=>cases k;exact .bool b
 |int n k'=>cases k;exact .int _ _
 |string s=>cases k;exact .string s
 |pnil=>cases k;exact .pnil
 |ptr id off b sh sz e=>
  cases k with
  |ptr _ _ b' sh' sz' e'=>have:=hle _ _ e;rw[this] at e';cases e';exact .ptr _ _ _ _ _ e
 |snil n c e=>cases k;exact .snil _ _ e
 |slice id off b sh sz n c e q=>
  cases k with
  |slice _ _ b' sh' sz' _ _ e' _=>have:=hle _ _ e;rw[this] at e';cases e';exact .slice _ _ _ _ _ _ _ e q
  |sliceU _ _ _ _ _ _ _ _ _ _ _ _=>omega
 |sliceU id off b sh sz n c es e p q r=>
  generalize hC:zEo+es=C at k
  cases k with
  |slice _ _ b' sh' sz' _ _ e' q'=>omega
  |sliceU _ _ b' sh' sz' _ c' es' e' p' q' r'=>
   have:=hle _ _ e;rw[this] at e';cases e'
   obtain rfl:es=es':=by omega
   exact .sliceU _ _ _ _ _ _ _ _ e p q' r'
 |mnil=>cases k;exact .mnil
 |map id b sh sz e=>cases k with|map _ b' sh' sz' e'=>have:=hle _ _ e;rw[this] at e';cases e';exact .map _ _ _ _ e
 |func fn a a' c c' e _ e2 _ ih ih2=>cases k with|func _ _ a2 _ c2 q1 q2 q3 q4=>exact .func _ _ _ _ _ q1 (fun i=>ih i (q2 i)) q3 (fun i=>ih2 i (q4 i))
 |nilFunc=>cases k;exact .nilFunc
 |iface t v v' _ ih=>cases k with|iface _ _ _ q=>exact .iface _ _ _ (ih q)
 |nilIface=>cases k;exact .nilIface
 |agg a a' e _ ih=>cases k with|agg _ _ q1 q2=>exact .agg _ _ q1 (fun i=>ih i (q2 i))
 |tuple a a' e h ih=>
  cases k with
  |any=>exact .any _
  |tuple _ _ q1 q2=>exact .tuple _ _ q1 (fun i=>ih i (q2 i))
theorem zNq (l:List Value):zFd 0 l=some []:=rfl
theorem zM3 (n:Nat):zFd (n+1) []=none:=rfl
theorem zGp (n:Nat)(v:Value)(t:List Value):zFd (n+1) (v::t)=match zFd n t with|some r=>some (v::r)|none=>none:=rfl
theorem zB3:∀ {n:Nat} {l r:List Value},zFd n l=some r→r=l.take n∧n≤l.length
 |0,l,r,h=>by rw[zNq] at h;cases h;simp
 |n+1,[],r,h=>by rw[zM3] at h;cases h
 |n+1,v::t,r,h=>by
  rw[zGp] at h
  split at h
  ·rename_i r' hr;cases h;obtain⟨rfl,hn⟩:=zB3 hr;simp;exact hn
  ·cases h
theorem zK6 (n:Nat)(v:Value)(t:List Value):zGj (n+1) (v::t)=zGj n t:=rfl
theorem zB8:∀ (n:Nat) (l:List Value),zGj n l=l.drop n
 |0,l=>rfl
 |n+1,[]=>rfl
 |n+1,v::t=>by rw[zK6,zB8 n t];rfl
theorem zQw (l:List Value):zQi l []=some l:=rfl
theorem zM4 (w:Value)(ws:List Value):zQi [] (w::ws)=none:=rfl
theorem zNr (x w:Value)(t ws:List Value):zQi (x::t) (w::ws)=match zQi t ws with|some r=>some (w::r)|none=>none:=rfl
theorem zNs:∀ {l ws r:List Value},zQi l ws=some r→r=ws++l.drop ws.length∧ws.length≤l.length
 |l,[],r,h=>by rw[zQw] at h;cases h;simp
 |[],w::ws,r,h=>by rw[zM4] at h;cases h
 |x::t,w::ws,r,h=>by
  rw[zNr] at h
  split at h
  ·rename_i r' hr;cases h;obtain⟨rfl,hn⟩:=zNs hr;simp;exact hn
  ·cases h
theorem zQx (l ws:List Value):zUj l 0 ws=zQi l ws:=rfl
theorem zO4 (n:Nat)(ws:List Value):zUj [] (n+1) ws=none:=rfl
theorem zHu (n:Nat)(x:Value)(t ws:List Value):zUj (x::t) (n+1) ws=match zUj t n ws with|some r=>some (x::r)|none=>none:=rfl
theorem zGq:∀ {n:Nat} {l ws r:List Value},zUj l n ws=some r→r=l.take n++ws++l.drop (n+ws.length)∧n+ws.length≤l.length
 |0,l,ws,r,h=>by rw[zQx] at h;obtain⟨rfl,hn⟩:=zNs h;simp;exact hn
 |n+1,[],ws,r,h=>by rw[zO4] at h;cases h
 |n+1,x::t,ws,r,h=>by
  rw[zHu] at h
  split at h
  ·rename_i r' hr;cases h;obtain⟨rfl,hn⟩:=zGq hr
   refine⟨?_,by simp;omega⟩
   rw[show n+1+ws.length=(n+ws.length)+1 by omega];rfl
  ·cases h
theorem zQy {n:Nat}{l ws r:List Value}(h:zUj l n ws=some r)(i:Nat):
  r.getD i und=if n≤i∧i < n+ws.length then ws.getD (i - n) und else l.getD i und:=by
 obtain⟨rfl,hn⟩:=zGq h
 simp only[List.getD_eq_getElem?_getD]
 have hl:(l.take n).length=n:=by rw[List.length_take];omega
 have hl2:(l.take n++ws).length=n+ws.length:=by rw[List.length_append,hl]
 by_cases h1:i < n
 ·rw[if_neg (by omega),List.append_assoc,List.getElem?_append_left (by rw[hl];exact h1),List.getElem?_take_of_lt h1]
 ·by_cases h2:i < n+ws.length
  ·rw[if_pos (by omega),List.getElem?_append_left (by rw[hl2];exact h2),List.getElem?_append_right (by rw[hl];omega),hl]
  ·rw[if_neg (by omega),List.getElem?_append_right (by rw[hl2];omega),List.getElem?_drop,hl2,show n+ws.length+(i - (n+ws.length))=i by omega]
theorem zH2 {n:Nat}{l ws r:List Value}(h:zUj l n ws=some r):r.length=l.length:=by
 obtain⟨rfl,hn⟩:=zGq h;simp;omega
theorem zYa (e:Nat):(2 * e+1) / 2=e:=by omega
theorem zS5 (e:Nat):(2 * e) / 2=e:=by omega
theorem yTj (e:Nat):(2 * e+1) % 2=1:=by omega
theorem zYb (e:Nat):¬ (2 * e) % 2=1:=by omega
structure CellsAt (φ:Ren) (w0 w:World) (id:Nat) (cs:List Value) (e:TypeId) (ro:Bool) (b sh sz:Nat) (c:Array Value) (fz:Nat×Nat):Prop where
 at_:φ id=some (b,sh,sz)
 blk:w.heap[b]?=some (.cells c (e / 2) fz)
 exact_:e % 2=1→sh=0
 size:c.size=sz
 fit:sh+cs.length≤sz
 cell:∀ i,i < cs.length→VR φ (cs.getD i und) (c.getD (sh+i) und)
 mine:ro=false→w0.heap.size≤b∧∀ o,o < sz→¬ (fz.1≤o∧o < fz.2)
inductive MapR (φ:Ren):List (Value×Value×Nat)→List MapEntry→Prop
 |nil:MapR φ [] []
 |cons {k v:Value} {n:Nat} {t:List (Value×Value×Nat)} {e:MapEntry} {t':List MapEntry}:e.key=k→zGg k=true→e.born=n→VR φ v e.val→MapR φ t t'→MapR φ ((k,v,n)::t) (e::t')
theorem MapR.mono {φ φ':Ren}(h:Le φ φ'){a:List (Value×Value×Nat)}{b:List MapEntry}(k:MapR φ a b):MapR φ' a b:=by
 induction k with
 |nil=>exact .nil
 |cons e f n v _ ih=>exact .cons e f n (v.mono h) ih
theorem MapR.back {φ φ':Ren}(hle:Le φ φ'){a:List (Value×Value×Nat)}{b c:List MapEntry}(h:MapR φ a b)(k:MapR φ' a c):MapR φ a c:=by
 induction h generalizing c with
 |nil=>cases k;exact .nil
 |cons e f n v _ ih=>cases k with|cons e' f' n' v' t'=>exact .cons e' f' n' (v.back hle v') (ih t')
inductive ObR (φ:Ren):Ob→Obj→Prop
 |mp {es:List (Value×Value×Nat)} {ms:Array MapEntry} {ck:Nat}:MapR φ es ms.toList→ObR φ (.mp es ck) (.map ms ck)
 |it {id b sh sz since last:Nat} {seen:List Nat}:φ id=some (b,sh,sz)→ObR φ (.it (some id) since seen last) (.mapIter (some b) since ⟨seen⟩ last)
 |itn {since last:Nat} {seen:List Nat}:ObR φ (.it none since seen last) (.mapIter none since ⟨seen⟩ last)
theorem ObR.mono {φ φ':Ren}(h:Le φ φ'){o:Ob}{O:Obj}(k:ObR φ o O):ObR φ' o O:=by
 cases k with
 |mp k=>exact .mp (k.mono h)
 |it k=>exact .it (h _ _ k)
 |itn=>exact .itn
theorem ObR.back {φ φ':Ren}(hle:Le φ φ'){o:Ob}{O O':Obj}(h:ObR φ o O)(k:ObR φ' o O'):ObR φ o O':=by
 cases h with
 |mp h=>cases k with|mp k=>exact .mp (h.back hle k)
 |it h=>cases k with|it k=>have:=hle _ _ h;rw[this] at k;cases k;exact .it h
 |itn=>cases k;exact .itn
theorem ObR.not_cells {φ:Ren}{o:Ob}{c:Array Value}{e:TypeId}{fz:Nat×Nat}(h:ObR φ o (.cells c e fz)):False:=by cases h
structure ObAt (φ:Ren) (w0 w:World) (id:Nat) (o:Ob) (b sh sz:Nat) (O:Obj):Prop where
 at_:φ id=some (b,sh,sz)
 blk:w.heap[b]?=some O
 zero:sh=0
 mine:w0.heap.size≤b
 ob:ObR φ o O
structure HR (φ:Ren) (h:Heap) (w0 w:World):Prop where
 os:w.os=w0.os
 output:w.output=w0.output
 tape:w.tape=w0.tape
 size:w0.heap.size≤w.heap.size
 old:∀ b,b < w0.heap.size→w.heap[b]?=w0.heap[b]?
 dom:∀ id b sh sz,φ id=some (b,sh,sz)→b < w.heap.size
 cells:∀ id cs e ro,h.get id=some (.cells cs e ro)→∃ b sh sz c fz,CellsAt φ w0 w id cs e ro b sh sz c fz
 inj:∀ i j ci ei cj ej ro bi si zi bj sj zj,i≠j→h.get i=some (.cells ci ei false)→h.get j=some (.cells cj ej ro)→
  φ i=some (bi,si,zi)→φ j=some (bj,sj,zj)→bi≠bj
 obs:∀ id o,h.get id=some (.ob o)→∃ b sh sz O,ObAt φ w0 w id o b sh sz O
 oinj:∀ i j ei ej bi si zi bj sj zj,i≠j→h.get i=some (.ob ei)→h.get j=some (.ob ej)→φ i=some (bi,si,zi)→φ j=some (bj,sj,zj)→bi≠bj
theorem HR.drawn {φ:Ren}{h:Heap}{w0 w:World}(H:HR φ h w0 w)(k:Nat):HR φ h w0 { w with drawn:=k }:=
 ⟨H.os,H.output,H.tape,H.size,H.old,H.dom,fun id cs e ro g=>let ⟨b,sh,sz,c,fz,q⟩:=H.cells id cs e ro g;⟨b,sh,sz,c,fz,q.at_,q.blk,q.exact_,q.size,q.fit,q.cell,q.mine⟩,H.inj,fun id o g=>let ⟨b,sh,sz,O,q⟩:=H.obs id o g;⟨b,sh,sz,O,q.at_,q.blk,q.zero,q.mine,q.ob⟩,H.oinj⟩
theorem HR.same {φ:Ren}{h h':Heap}{w0 w:World}(H:HR φ h w0 w)(e:∀ id cs t ro,h'.get id=some (.cells cs t ro)→h.get id=some (.cells cs t ro))
  (em:∀ id o,h'.get id=some (.ob o)→h.get id=some (.ob o)):HR φ h' w0 w:=
 ⟨H.os,H.output,H.tape,H.size,H.old,H.dom,fun id cs t ro g=>H.cells id cs t ro (e _ _ _ _ g),fun i j ci ei cj ej ro bi si zi bj sj zj n g g'=>H.inj i j ci ei cj ej ro bi si zi bj sj zj n (e _ _ _ _ g) (e _ _ _ _ g'),
  fun id es g=>H.obs id es (em _ _ g),fun i j ei ej bi si zi bj sj zj n g g'=>H.oinj i j ei ej bi si zi bj sj zj n (em _ _ g) (em _ _ g')⟩
def upd (φ:Ren)(n:Nat)(x:Nat×Nat×Nat):Ren:=fun i=>if i=n then some x else φ i
theorem zBe (φ:Ren)(n:Nat)(x:Nat×Nat×Nat):upd φ n x n=some x:=by simp[upd]
theorem zA8 (φ:Ren){n i:Nat}(x:Nat×Nat×Nat)(h:i≠n):upd φ n x i=φ i:=by simp[upd,h]
theorem Le.upd {φ:Ren}{n:Nat}(h:φ n=none)(x:Nat×Nat×Nat):Le φ (upd φ n x):=by
 intro i y hy
 rw[zA8]
 ·exact hy
 ·rintro rfl;rw[h] at hy;cases hy
structure Ext (φ φ':Ren) (lo hi:Nat):Prop where
 le:Le φ φ'
 new:∀ id,φ' id≠none→φ id≠none∨(lo≤id∧id < hi)
theorem Ext.refl (φ:Ren)(lo hi:Nat):Ext φ φ lo hi:=⟨Le.refl φ,fun _ h=>.inl h⟩
theorem Ext.upd {φ:Ren}{n:Nat}(h:φ n=none)(x:Nat×Nat×Nat):Ext φ (upd φ n x) n (n+1):=
 ⟨Le.upd h x,fun id k=>by
  by_cases e:id=n
  ·right;omega
  ·left;rwa [zA8 _ _ e] at k⟩
theorem Ext.trans {φ φ' φ'':Ren}{a b c d lo hi:Nat}(h:Ext φ φ' a b)(k:Ext φ' φ'' c d)(h1:lo≤a)(h2:b≤hi)(h3:lo≤c)(h4:d≤hi):Ext φ φ'' lo hi:=
 ⟨h.le.trans k.le,fun id q=>by
  rcases k.new id q with q|q
  ·rcases h.new id q with q|q
   ·exact .inl q
   ·right;omega
  ·right;omega⟩
theorem Ext.mono {φ φ':Ren}{a b lo hi:Nat}(h:Ext φ φ' a b)(h1:lo≤a)(h2:b≤hi):Ext φ φ' lo hi:=
 ⟨h.le,fun id q=>by rcases h.new id q with q|q;exact .inl q;right;omega⟩
theorem HR.adopt {φ:Ren}{h:Heap}{w0 w w':World}(H:HR φ h w0 w){n b sh sz:Nat}{c:Array Value}{e:TypeId}{fz:Nat×Nat}{cs:List Value}{ro:Bool}
  (hn:φ n=none) (hos:w'.os=w.os) (hout:w'.output=w.output) (htape:w'.tape=w.tape) (hsize:w.heap.size≤w'.heap.size)
  (hother:∀ k,k < w.heap.size→k≠b→w'.heap[k]?=w.heap[k]?) (hb:w0.heap.size≤b) (hblk:w'.heap[b]?=some (.cells c (e / 2) fz)) (hex:e % 2=1→sh=0)
  (hfree:∀ j cj ej rj bj sj zj,h.get j=some (.cells cj ej rj)→φ j=some (bj,sj,zj)→bj≠b)
  (hc:c.size=sz) (hfit:sh+cs.length≤sz) (hcell:∀ i,i < cs.length→VR φ (cs.getD i und) (c.getD (sh+i) und))
  (hfz:ro=false→∀ o,o < sz→¬ (fz.1≤o∧o < fz.2)) (hnm:∀ O,w.heap[b]?=some O→∃ c e fz,O=.cells c e fz):
  HR (upd φ n (b,sh,sz)) (h.set n (.cells cs e ro)) w0 w':=by
 have hbs:b < w'.heap.size:=by
  rcases Nat.lt_or_ge b w'.heap.size with q|q
  ·exact q
  ·rw[Array.getElem?_eq_none q] at hblk;cases hblk
 refine⟨hos.trans H.os,hout.trans H.output,htape.trans H.tape,Nat.le_trans H.size hsize,fun k hk=>?_,fun id b' sh' sz' q=>?_,fun id cs' e' ro' q=>?_,fun i j ci ei cj ej ro' bi si zi bj sj zj hij gi gj ai aj=>?_,fun id es q=>?_,fun i j ei ej bi si zi bj sj zj hij gi gj ai aj=>?_⟩
 ·rw[hother k (Nat.lt_of_lt_of_le hk H.size) (by omega)];exact H.old k hk
 ·by_cases hid:id=n
  ·subst hid;rw[zBe] at q;cases q;exact hbs
  ·rw[zA8 _ _ hid] at q;exact Nat.lt_of_lt_of_le (H.dom _ _ _ _ q) hsize
 ·rw[Heap.get_set] at q
  by_cases hid:id=n
  ·subst hid;rw[if_pos rfl] at q;cases q
   exact⟨b,sh,sz,c,fz,zBe _ _ _,hblk,hex,hc,hfit,fun i hi=>(hcell i hi).mono (Le.upd hn _),fun hr=>⟨hb,hfz hr⟩⟩
  ·rw[if_neg hid] at q
   obtain⟨b',sh',sz',c',fz',k⟩:=H.cells _ _ _ _ q
   refine⟨b',sh',sz',c',fz',by rw[zA8 _ _ hid];exact k.at_,?_,k.exact_,k.size,k.fit,fun i hi=>(k.cell i hi).mono (Le.upd hn _),k.mine⟩
   rw[hother b' (H.dom _ _ _ _ k.at_) (hfree _ _ _ _ _ _ _ q k.at_)];exact k.blk
 ·rw[Heap.get_set] at gi gj
  by_cases hi:i=n
  ·subst hi
   rw[if_neg (Ne.symm hij)] at gj
   rw[zBe] at ai;cases ai
   rw[zA8 _ _ (Ne.symm hij)] at aj
   exact Ne.symm (hfree _ _ _ _ _ _ _ gj aj)
  ·rw[if_neg hi] at gi
   rw[zA8 _ _ hi] at ai
   by_cases hj:j=n
   ·subst hj
    rw[zBe] at aj;cases aj
    exact hfree _ _ _ _ _ _ _ gi ai
   ·rw[if_neg hj] at gj;rw[zA8 _ _ hj] at aj
    exact H.inj _ _ _ _ _ _ _ _ _ _ _ _ _ hij gi gj ai aj
 ·rw[Heap.get_set] at q
  by_cases hid:id=n
  ·rw[if_pos hid] at q;cases q
  ·rw[if_neg hid] at q
   obtain⟨b',sh',sz',O,k⟩:=H.obs _ _ q
   refine⟨b',sh',sz',O,by rw[zA8 _ _ hid];exact k.at_,?_,k.zero,k.mine,k.ob.mono (Le.upd hn _)⟩
   rw[hother b' (H.dom _ _ _ _ k.at_) (fun hb'=>by obtain⟨c,e,fz,rfl⟩:=hnm _ (hb' ▸ k.blk);exact k.ob.not_cells)];exact k.blk
 ·rw[Heap.get_set] at gi gj
  by_cases hi:i=n
  ·rw[if_pos hi] at gi;cases gi
  ·by_cases hj:j=n
   ·rw[if_pos hj] at gj;cases gj
   ·rw[if_neg hi] at gi;rw[if_neg hj] at gj;rw[zA8 _ _ hi] at ai;rw[zA8 _ _ hj] at aj
    exact H.oinj _ _ _ _ _ _ _ _ _ _ hij gi gj ai aj
theorem HR.turn {φ:Ren}{h:Heap}{w0 w w':World}(H:HR φ h w0 w){id b sh sz:Nat}{c:Array Value}{e:TypeId}{fz:Nat×Nat}{cs cs':List Value}{ro:Bool}
  (hg:h.get id=some (.cells cs e false)) (hat:φ id=some (b,sh,sz)) (hos:w'.os=w.os) (hout:w'.output=w.output) (htape:w'.tape=w.tape) (hsize:w'.heap.size=w.heap.size)
  (hother:∀ k,k≠b→w'.heap[k]?=w.heap[k]?) (hb:w0.heap.size≤b) (hblk:w'.heap[b]?=some (.cells c (e / 2) fz)) (hex:e % 2=1→sh=0)
  (hc:c.size=sz) (hfit:sh+cs'.length≤sz) (hcell:∀ i,i < cs'.length→VR φ (cs'.getD i und) (c.getD (sh+i) und))
  (hfz:ro=false→∀ o,o < sz→¬ (fz.1≤o∧o < fz.2)):
  HR φ (h.set id (.cells cs' e ro)) w0 w':=by
 refine⟨hos.trans H.os,hout.trans H.output,htape.trans H.tape,by rw[hsize];exact H.size,fun k hk=>?_,fun id b' sh' sz' q=>by rw[hsize];exact H.dom _ _ _ _ q,fun j cj ej rj q=>?_,fun i j ci ei cj ej ro' bi si zi bj sj zj hij gi gj ai aj=>?_,fun j es q=>?_,fun i j ei ej bi si zi bj sj zj hij gi gj ai aj=>?_⟩
 ·rw[hother k (by omega)];exact H.old k hk
 ·rw[Heap.get_set] at q
  by_cases hj:j=id
  ·subst hj;rw[if_pos rfl] at q;cases q
   exact⟨b,sh,sz,c,fz,hat,hblk,hex,hc,hfit,hcell,fun hr=>⟨hb,hfz hr⟩⟩
  ·rw[if_neg hj] at q
   obtain⟨b',sh',sz',c',fz',k⟩:=H.cells _ _ _ _ q
   refine⟨b',sh',sz',c',fz',k.at_,?_,k.exact_,k.size,k.fit,k.cell,k.mine⟩
   rw[hother b' (Ne.symm (H.inj _ _ _ _ _ _ _ _ _ _ _ _ _ (Ne.symm hj) hg q hat k.at_))];exact k.blk
 ·rw[Heap.get_set] at gi gj
  have gi':∃ c',h.get i=some (.cells c' ei false):=by
   by_cases q:i=id
   ·subst q;rw[if_pos rfl] at gi;cases gi;exact⟨_,hg⟩
   ·rw[if_neg q] at gi;exact⟨_,gi⟩
  have gj':∃ c' r',h.get j=some (.cells c' ej r'):=by
   by_cases q:j=id
   ·subst q;rw[if_pos rfl] at gj;cases gj;exact⟨_,_,hg⟩
   ·rw[if_neg q] at gj;exact⟨_,_,gj⟩
  obtain⟨_,gi'⟩:=gi';obtain⟨_,_,gj'⟩:=gj'
  exact H.inj _ _ _ _ _ _ _ _ _ _ _ _ _ hij gi' gj' ai aj
 ·rw[Heap.get_set] at q
  by_cases hid:j=id
  ·rw[if_pos hid] at q;cases q
  ·rw[if_neg hid] at q
   obtain⟨b',sh',sz',O,k⟩:=H.obs _ _ q
   refine⟨b',sh',sz',O,k.at_,?_,k.zero,k.mine,k.ob⟩
   rw[hother b' fun hb'=>?_];exact k.blk
   obtain⟨b2,sh2,sz2,c2,fz2,k2⟩:=H.cells _ _ _ _ hg
   have:=k2.at_;rw[hat] at this;cases this
   have:=k.blk;rw[hb',k2.blk] at this;cases this
   exact k.ob.not_cells
 ·rw[Heap.get_set] at gi gj
  by_cases hi:i=id
  ·rw[if_pos hi] at gi;cases gi
  ·by_cases hj:j=id
   ·rw[if_pos hj] at gj;cases gj
   ·rw[if_neg hi] at gi;rw[if_neg hj] at gj
    exact H.oinj _ _ _ _ _ _ _ _ _ _ hij gi gj ai aj
theorem HR.obNew {φ:Ren}{h:Heap}{w0 w w':World}(H:HR φ h w0 w){n:Nat}{o:Ob}{O:Obj}(hn:φ n=none)(hos:w'.os=w.os)(hout:w'.output=w.output)(htape:w'.tape=w.tape)
  (hheap:w'.heap=w.heap.push O) (ho:ObR φ o O):HR (upd φ n (w.heap.size,0,0)) (h.set n (.ob o)) w0 w':=by
 have hsz:w'.heap.size=w.heap.size+1:=by rw[hheap];simp
 have hold:∀ k,k < w.heap.size→w'.heap[k]?=w.heap[k]?:=fun k hk=>by rw[hheap,Array.getElem?_push];rw[if_neg (by omega)]
 have hnew:w'.heap[w.heap.size]?=some O:=by rw[hheap];simp
 refine⟨hos.trans H.os,hout.trans H.output,htape.trans H.tape,by have:=H.size;omega,fun k hk=>?_,fun id b' sh' sz' q=>?_,fun id cs' e' ro' q=>?_,fun i j ci ei cj ej ro' bi si zi bj sj zj hij gi gj ai aj=>?_,fun id o' q=>?_,fun i j ei ej bi si zi bj sj zj hij gi gj ai aj=>?_⟩
 ·rw[hold k (Nat.lt_of_lt_of_le hk H.size)];exact H.old k hk
 ·by_cases hid:id=n
  ·subst hid;rw[zBe] at q;cases q;omega
  ·rw[zA8 _ _ hid] at q;have:=H.dom _ _ _ _ q;omega
 ·rw[Heap.get_set] at q
  by_cases hid:id=n
  ·rw[if_pos hid] at q;cases q
  ·rw[if_neg hid] at q
   obtain⟨b',sh',sz',c',fz',k⟩:=H.cells _ _ _ _ q
   exact⟨b',sh',sz',c',fz',by rw[zA8 _ _ hid];exact k.at_,by rw[hold _ (H.dom _ _ _ _ k.at_)];exact k.blk,k.exact_,k.size,k.fit,fun i hi=>(k.cell i hi).mono (Le.upd hn _),k.mine⟩
 ·rw[Heap.get_set] at gi gj
  by_cases hi:i=n
  ·rw[if_pos hi] at gi;cases gi
  ·by_cases hj:j=n
   ·rw[if_pos hj] at gj;cases gj
   ·rw[if_neg hi] at gi;rw[if_neg hj] at gj;rw[zA8 _ _ hi] at ai;rw[zA8 _ _ hj] at aj
    exact H.inj _ _ _ _ _ _ _ _ _ _ _ _ _ hij gi gj ai aj
 ·rw[Heap.get_set] at q
  by_cases hid:id=n
  ·subst hid;rw[if_pos rfl] at q;cases q
   exact⟨_,_,_,_,zBe _ _ _,hnew,rfl,H.size,ho.mono (Le.upd hn _)⟩
  ·rw[if_neg hid] at q
   obtain⟨b',sh',sz',O',k⟩:=H.obs _ _ q
   exact⟨b',sh',sz',O',by rw[zA8 _ _ hid];exact k.at_,by rw[hold _ (H.dom _ _ _ _ k.at_)];exact k.blk,k.zero,k.mine,k.ob.mono (Le.upd hn _)⟩
 ·rw[Heap.get_set] at gi gj
  by_cases hi:i=n
  ·subst hi;rw[zBe] at ai;cases ai
   rw[if_neg (Ne.symm hij)] at gj;rw[zA8 _ _ (Ne.symm hij)] at aj
   have:=H.dom _ _ _ _ aj;omega
  ·rw[if_neg hi] at gi;rw[zA8 _ _ hi] at ai
   by_cases hj:j=n
   ·subst hj;rw[zBe] at aj;cases aj
    have:=H.dom _ _ _ _ ai;omega
   ·rw[if_neg hj] at gj;rw[zA8 _ _ hj] at aj
    exact H.oinj _ _ _ _ _ _ _ _ _ _ hij gi gj ai aj
theorem HR.obTurn {φ:Ren}{h:Heap}{w0 w w':World}(H:HR φ h w0 w){id b sh sz:Nat}{o o':Ob}{O:Obj}
  (hg:h.get id=some (.ob o)) (hat:φ id=some (b,sh,sz)) (hos:w'.os=w.os) (hout:w'.output=w.output) (htape:w'.tape=w.tape)
  (hheap:w'.heap=w.heap.setIfInBounds b O) (ho:ObR φ o' O):HR φ (h.set id (.ob o')) w0 w':=by
 obtain⟨b2,sh2,sz2,O2,k2⟩:=H.obs _ _ hg
 have e2:=k2.at_;rw[hat] at e2;cases e2
 have hlt:=H.dom _ _ _ _ hat
 have hsz:w'.heap.size=w.heap.size:=by rw[hheap];simp
 have hoth:∀ k,k≠b→w'.heap[k]?=w.heap[k]?:=fun k hk=>by rw[hheap];simp[Ne.symm hk]
 have hnew:w'.heap[b]?=some O:=by rw[hheap];simp[hlt]
 have hb:=k2.mine
 refine⟨hos.trans H.os,hout.trans H.output,htape.trans H.tape,by rw[hsz];exact H.size,fun k hk=>?_,fun id b' sh' sz' q=>by rw[hsz];exact H.dom _ _ _ _ q,fun j cj ej rj q=>?_,fun i j ci ei cj ej ro' bi si zi bj sj zj hij gi gj ai aj=>?_,fun j oj q=>?_,fun i j ei ej bi si zi bj sj zj hij gi gj ai aj=>?_⟩
 ·rw[hoth k (by omega)];exact H.old k hk
 ·rw[Heap.get_set] at q
  by_cases hj:j=id
  ·rw[if_pos hj] at q;cases q
  ·rw[if_neg hj] at q
   obtain⟨b',sh',sz',c',fz',k⟩:=H.cells _ _ _ _ q
   refine⟨b',sh',sz',c',fz',k.at_,?_,k.exact_,k.size,k.fit,k.cell,k.mine⟩
   rw[hoth b' fun hb'=>?_];exact k.blk
   have:=k.blk;rw[hb',k2.blk] at this;cases this
   exact k2.ob.not_cells
 ·rw[Heap.get_set] at gi gj
  by_cases hi:i=id
  ·rw[if_pos hi] at gi;cases gi
  ·by_cases hj:j=id
   ·rw[if_pos hj] at gj;cases gj
   ·rw[if_neg hi] at gi;rw[if_neg hj] at gj
    exact H.inj _ _ _ _ _ _ _ _ _ _ _ _ _ hij gi gj ai aj
 ·rw[Heap.get_set] at q
  by_cases hj:j=id
  ·subst hj;rw[if_pos rfl] at q;cases q
   exact⟨_,_,_,_,hat,hnew,k2.zero,hb,ho⟩
  ·rw[if_neg hj] at q
   obtain⟨b',sh',sz',O',k⟩:=H.obs _ _ q
   refine⟨b',sh',sz',O',k.at_,?_,k.zero,k.mine,k.ob⟩
   rw[hoth b' (H.oinj _ _ _ _ _ _ _ _ _ _ hj q hg k.at_ hat)];exact k.blk
 ·rw[Heap.get_set] at gi gj
  have gi':∃ e',h.get i=some (.ob e'):=by
   by_cases q:i=id
   ·subst q;exact⟨_,hg⟩
   ·rw[if_neg q] at gi;exact⟨_,gi⟩
  have gj':∃ e',h.get j=some (.ob e'):=by
   by_cases q:j=id
   ·subst q;exact⟨_,hg⟩
   ·rw[if_neg q] at gj;exact⟨_,gj⟩
  obtain⟨_,gi'⟩:=gi';obtain⟨_,gj'⟩:=gj'
  exact H.oinj _ _ _ _ _ _ _ _ _ _ hij gi' gj' ai aj
theorem HR.kill {φ:Ren}{h:Heap}{w0 w:World}(H:HR φ h w0 w)(id:Nat):HR φ (h.set id .dead) w0 w:=by
 refine H.same (fun j cs t ro g=>?_) fun j es g=>?_
 ·rw[Heap.get_set] at g
  by_cases q:j=id
  ·rw[if_pos q] at g;cases g
  ·rwa [if_neg q] at g
 ·rw[Heap.get_set] at g
  by_cases q:j=id
  ·rw[if_pos q] at g;cases g
  ·rwa [if_neg q] at g
theorem HR.forget {φ φ':Ren}{h h':Heap}{w0 w w':World}(H:HR φ h w0 w)(H':HR φ' h' w0 w')(hle:Le φ φ')
  (e:∀ id cs t ro,h.get id=some (.cells cs t ro)→h'.get id=some (.cells cs t ro)) (em:∀ id o,h.get id=some (.ob o)→h'.get id=some (.ob o)):HR φ h w0 w':=by
 refine⟨H'.os,H'.output,H'.tape,H'.size,H'.old,fun id b sh sz q=>H'.dom _ _ _ _ (hle _ _ q),fun id cs t ro g=>?_,H.inj,fun id es g=>?_,H.oinj⟩
 ·obtain⟨b,sh,sz,c,fz,k⟩:=H.cells _ _ _ _ g
  obtain⟨b',sh',sz',c',fz',k'⟩:=H'.cells _ _ _ _ (e _ _ _ _ g)
  have q:=k'.at_
  rw[hle _ _ k.at_] at q;cases q
  exact⟨b,sh,sz,c',fz',k.at_,k'.blk,k'.exact_,k'.size,k'.fit,fun i hi=>(k.cell i hi).back hle (k'.cell i hi),k'.mine⟩
 ·obtain⟨b,sh,sz,O,k⟩:=H.obs _ _ g
  obtain⟨b',sh',sz',O',k'⟩:=H'.obs _ _ (em _ _ g)
  have q:=k'.at_
  rw[hle _ _ k.at_] at q;cases q
  exact⟨b,sh,sz,O',k.at_,k'.blk,k'.zero,k'.mine,k.ob.back hle k'.ob⟩
end Go.Det
section
namespace Go.Det
variable {P:Program}
theorem zFw {α:Type}{m:Sem α}{a:α}(h:zEe P m=some a)(w:World):m.run P w=.ok a w:=by
 induction m generalizing w with
 |pure x=>simp only[zEe] at h;cases h;rfl
 |program k ih=>simp only[zEe] at h;exact ih _ h w
 |mark m k ih=>simp only[zEe] at h;exact ih h w
 |_=>simp[zEe] at h
def Gives (P:Program)(w0:World)(φ:Ren)(lo:Nat)(s':St)(v:Value):Result Next→Prop
 |.ok (.value v') w'=>∃ φ',Ext φ φ' lo s'.next∧VR φ' v v'∧HR φ' s'.h w0 w'
 |.ok .skip w'=>∃ φ',Ext φ φ' lo s'.next∧VR φ' v undef∧HR φ' s'.h w0 w'
 |.ok (.enter f aso) w1=>Calls P f aso w1 fun e w'=>∃ v' φ',e=.returned v'∧Ext φ φ' lo s'.next∧VR φ' v v'∧HR φ' s'.h w0 w'
 |_=>False
theorem Gives.wp {w0 w:World}{φ:Ren}{lo:Nat}{s':St}{v:Value}{o:Oper}{a:Act}{next:Act→World→Prop}{Q:Exit→Act→World→Prop}
  (h:Gives P w0 φ lo s' v ((execOp a.eval o).run P w))
  (k:∀ φ' v' w',Ext φ φ' lo s'.next→VR φ' v v'→HR φ' s'.h w0 w'→next (a.put o.dst v') w'):o.wp P a w next Q:=by
 unfold Oper.wp
 revert h
 generalize (execOp a.eval o).run P w=r
 intro h
 cases r with
 |halt x w'=>exact h.elim
 |ok n w'=>
  cases n with
  |value v'=>obtain⟨φ',e,q,H⟩:=h;exact k φ' v' w' e q H
  |skip=>obtain⟨φ',e,q,H⟩:=h;exact k φ' undef w' e q H
  |enter f aso=>
   refine Calls.mono (R:=fun e w'=>∃ v' φ',e=.returned v'∧Ext φ φ' lo s'.next∧VR φ' v v'∧HR φ' s'.h w0 w') h ?_
   rintro e w' ⟨v',φ',rfl,q1,q2,q3⟩
   exact k φ' v' w' q1 q2 q3
  |_=>exact h.elim
theorem zAw {w0 w:World}{φ:Ren}{s:St}{lo:Nat}{v v':Value}{m:Sem Value}(H:HR φ s.h w0 w)(hv:VR φ v v')(hr:m.run P w=.ok v' w):
  Gives P w0 φ lo s v ((do pure (Next.value (← m)):Sem Next).run P w):=by
 rw[Sem.run_bind,hr]
 exact⟨φ,Ext.refl _ _ _,hv,H⟩
theorem zHd {φ:Ren}{b:Bool}{v':Value}(h:VR φ (.bool b) v'):v'=.bool b:=by cases h;rfl
theorem zGr {φ:Ren}{k:IntKind}{n:Int}{v':Value}(h:VR φ (.int k n) v'):v'=.int k n:=by cases h;rfl
theorem zC7 {φ:Ren}{s:ByteArray}{v':Value}(h:VR φ (.string s) v'):v'=.string s:=by cases h;rfl
section
variable {w0 w:World} {φ:Ren} {l:zAz} {s s':St} {v:Value} {ρ:Operand→Value} {lo:Nat}
theorem zQz {x:Operand} (h:zK3 x l s=some (v,s')) (H:HR φ s.h w0 w) (hx:VR φ (evalO l x) (ρ x)):
    Gives P w0 φ lo s' v (Result.ok (Next.value (ρ x)) w):=by
  simp only[zK3,Option.some.injEq,Prod.mk.injEq] at h
  obtain⟨rfl,rfl⟩:=h
  exact⟨φ,Ext.refl _ _ _,hx,H⟩
theorem zYc {c a b:Operand} (h:zIe c a b l s=some (v,s')) (H:HR φ s.h w0 w) (hc:VR φ (evalO l c) (ρ c)) (ha:VR φ (evalO l a) (ρ a)) (hb:VR φ (evalO l b) (ρ b)):
    Gives P w0 φ lo s' v ((do pure (.value (if ← asBool (ρ c) then ρ a else ρ b)) : Sem Next).run P w) := by
  unfold zIe at h
  split at h
  · rename_i t ht
    rw[ht] at hc
    have:=zHd hc
    cases t <;> simp only [Option.some.injEq, Prod.mk.injEq] at h <;> obtain ⟨rfl, rfl⟩ := h <;> simp [this, asBool, Gives]
    · exact ⟨φ, Ext.refl _ _ _, hb, H⟩
    · exact ⟨φ, Ext.refl _ _ _, ha, H⟩
  · cases h
theorem zIj {a b:IntKind}(h:zGd a b=true):a=b:=by cases a<;>cases b<;>simp_all [zGd]
theorem zWj {op:BinOp} {k:IntKind} {a b:Int} {r:Value} (h:zEg op k a b=some r) (t:TypeId) (x y:Operand) (w:World):
    (do eqGuard op t x y (.int k a) (.int k b); binOp op t (.int k a) (.int k b) : Sem Value).run P w = .ok r w := by
  cases op <;> simp only [zEg] at h <;> first
    | (cases h; simp [eqGuard, binOp, Op.intArith, Op.intCmp]; done)
    | (cases h; simp [eqGuard, binOp, Op.intBits, zB2, orI, yF2, zX3]; done)
    | (split at h
       · cases h
       · rename_i hd
         cases h
         have hd:=of_decide_eq_false hd
         simp[eqGuard,binOp,Op.intDiv,hd])
    | (cases h; done)
theorem zQ0 {op:BinOp} {k k':IntKind} {a b:Int} {r:Value} (h:zEq op k a b=some r) (t:TypeId) (x y:Operand) (w:World):
    (do eqGuard op t x y (.int k a) (.int k' b); binOp op t (.int k a) (.int k' b) : Sem Value).run P w = .ok r w := by
  cases op <;> simp only [zEq] at h <;> first
    | (split at h
       · cases h
       · rename_i hd
         cases h
         have hd:=of_decide_eq_false hd
         simp[eqGuard,binOp,Op.shift,hd,zD3,zBm])
    | (cases h; done)
theorem zWk {op:BinOp} {a b:ByteArray} {r:Value} (h:zJx op a b=some r) (t:TypeId) (x y:Operand) (w:World):
    (do eqGuard op t x y (.string a) (.string b); binOp op t (.string a) (.string b) : Sem Value).run P w = .ok r w := by
  cases op <;> simp only [zJx] at h <;> first
    | (split at h
       · rename_i hd
         cases h
         have hd:=Nat.le_of_ble_eq_true hd
         have hd2:¬ ((a.size+b.size:Nat):Int) > IntKind.i64.max:=by
           have : IntKind.i64.max = 9223372036854775807 := by decide
           omega
         simp only[eqGuard,binOp,Op.stringOp,if_neg hd2]
         simp
       · cases h)
    | (cases h; simp [eqGuard, binOp, Op.stringOp, zK1, yM7, ByteArray.toList_eq]; done)
    | (cases h; done)
theorem zS6 {op:BinOp} {a b:ByteArray} {r:Value} (h:zJx op a b=some r) (φ:Ren):VR φ r r:=by
  cases op <;> simp only [zJx] at h <;> first
    | (split at h
       · cases h; exact .string _
       · cases h)
    | (cases h; exact .bool _)
    | (cases h; done)
theorem zO5 {op:BinOp} {k:IntKind} {a b:Int} {r:Value} (h:zEq op k a b=some r) (φ:Ren):VR φ r r:=by
  cases op <;> simp only [zEq] at h <;> first
    | (split at h
       · cases h
       · cases h; exact .int _ _)
    | (cases h; done)
theorem zS7 {op:BinOp} {k:IntKind} {a b:Int} {r:Value} (h:zEg op k a b=some r) (φ:Ren):VR φ r r:=by
  cases op <;> simp only [zEg] at h <;> first
    | (cases h; exact .bool _)
    | (cases h; exact .int _ _)
    | (split at h
       · cases h
       · cases h; exact .int _ _)
    | (cases h; done)
theorem zH3:zBw [] [] []=some true:=rfl
theorem zDt:∀ {ks ls:List Nat} {a b:List Value} {r:Bool},zBw (ks++ls) a b=some r→
  ∃ a1 a2 b1 b2 r1 r2,a=a1++a2∧b=b1++b2∧a1.length=ks.length∧b1.length=ks.length∧zBw ks a1 b1=some r1∧zBw ls a2 b2=some r2∧r=(r1&&r2)
 |[],ls,a,b,r,h=>⟨[],a,[],b,true,r,rfl,rfl,rfl,rfl,rfl,h,by simp⟩
 |k::ks,ls,a,b,r,h=>by
  rw[List.cons_append] at h
  unfold zBw at h
  split at h
  ·rename_i e;cases e
  ·rename_i ks' k1 x s k2 y t e
   cases e
   split at h
   ·rename_i hk
    split at h
    ·rename_i r' hr
     cases h
     obtain⟨a1,a2,b1,b2,r1,r2,rfl,rfl,e1,e2,e3,e4,rfl⟩:=zDt hr
     exact⟨_::a1,a2,_::b1,b2,_,r2,rfl,rfl,by simp[e1],by simp[e2],by rw[zBw,hk,e3],e4,by rw[Bool.and_assoc]⟩
    ·cases h
   ·cases h
  ·rename_i ks' x s y t e
   cases e
   split at h
   ·rename_i r' hr
    cases h
    obtain⟨a1,a2,b1,b2,r1,r2,rfl,rfl,e1,e2,e3,e4,rfl⟩:=zDt hr
    exact⟨_::a1,a2,_::b1,b2,_,r2,rfl,rfl,by simp[e1],by simp[e2],by rw[zBw,e3],e4,by rw[Bool.and_assoc]⟩
   ·cases h
  ·rename_i ks' x s y t e
   cases e
   split at h
   ·rename_i r' hr
    cases h
    obtain⟨a1,a2,b1,b2,r1,r2,rfl,rfl,e1,e2,e3,e4,rfl⟩:=zDt hr
    exact⟨_::a1,a2,_::b1,b2,_,r2,rfl,rfl,by simp[e1],by simp[e2],by rw[zBw,e3],e4,by rw[Bool.and_assoc]⟩
   ·cases h
  ·cases h
def zK7 (P:Program)(d:Nat)(t:TypeId)(ks:List Nat):Prop:=
 ∀ (xa xb x1 ya yb y1:List Value) (r:Bool) (w:World),xa.length=ya.length→x1.length=ks.length→y1.length=ks.length→zBw ks x1 y1=some r→
  ∃ u v,(part t ⟨xa++(x1++xb)⟩ xa.length).run P w=.ok u w∧(part t ⟨ya++(y1++yb)⟩ xa.length).run P w=.ok v w∧(Op.equalIn d t u v).run P w=.ok r w
theorem zGs {d:Nat}{sh:TypeId→Option (List Nat)}(hsh:∀ t ks,sh t=some ks→zK7 P d t ks):∀ (fs:List Field) (off:Nat) (ks:List Nat),zEh P sh off fs=some ks→
  ∀ (xa x1 ya y1:List Value) (r:Bool) (w:World),xa.length=off→ya.length=off→zBw ks x1 y1=some r→(Op.eqFields d ⟨xa++x1⟩ ⟨ya++y1⟩ fs).run P w=.ok r w
 |[],off,ks,h,xa,x1,ya,y1,r,w,hx,hy,e=>by
  simp only[zEh,Option.some.injEq] at h
  subst h
  unfold zBw at e
  split at e
  ·cases e;simp[Op.eqFields]
  ·rename_i q;cases q
  ·rename_i q;cases q
  ·rename_i q;cases q
  ·cases e
 |f::fs,off,ks,h,xa,x1,ya,y1,r,w,hx,hy,e=>by
  unfold zEh at h
  split at h
  case h_2=>cases h
  rename_i hn
  rw[Bool.and_eq_true] at hn
  have hoff:=Nat.eq_of_beq_eq_true hn.2
  have hname:f.name≠ "_":=by simpa using hn.1
  split at h
  case h_2=>cases h
  rename_i ks1 h1
  split at h
  case h_2=>cases h
  rename_i m hm
  split at h
  case h_2=>cases h
  rename_i hl
  have hl:=Nat.eq_of_beq_eq_true hl
  split at h
  case h_2=>cases h
  rename_i ks2 h2
  cases h
  obtain⟨a1,a2,b1,b2,r1,r2,rfl,rfl,e1,e2,e3,e4,rfl⟩:=zDt e
  obtain⟨u,v,q1,q2,q3⟩:=hsh _ _ h1 xa a2 a1 ya b2 b1 r1 w (by rw[hx,hy]) e1 e2 e3
  rw[hx] at q1 q2
  have ih:=zGs hsh fs (off+m) ks2 h2 (xa++a1) a2 (ya++b1) b2 r2 w (by simp;omega) (by simp;omega) e4
  rw[List.append_assoc,List.append_assoc] at ih
  simp only[Op.eqFields,if_pos hname,Sem.run_bind,hoff,q1,q2,q3,Result.andThen_ok]
  cases r1
  ·simp
  ·simpa using ih
theorem zUr {t:TypeId}{fs:Array Field}{n:Nat}(ht:P.underlying t=some (.struct fs))(hn:zGi P t=some n)(xa x1 xb:List Value)(h:x1.length=n)(w:World):
  (part t ⟨xa++(x1++xb)⟩ xa.length).run P w=.ok (.agg ⟨x1⟩) w:=by
 have e1:(isAgg t).run P w=.ok true w:=by simp[isAgg,run_underlying ht]
 have e2:(sizeOf t).run P w=.ok n w:=by
  unfold zGi at hn
  split at hn
  ·rename_i i hi;cases hn;simp[sizeOf,typeInfo,hi]
  ·cases hn
 have e3:(⟨xa++(x1++xb)⟩:Array Value).extract xa.length (xa.length+n)=⟨x1⟩:=by
  apply Array.ext'
  simp[← h]
 simp only[part,Sem.run_bind,e1,Result.andThen_ok,if_true,e2,e3,Sem.run_pure]
 try rfl
theorem zQ1 {t:TypeId} (ht:(zGl P t)=some false) (xa xb:List Value) (v:Value) (w:World):
    (part t ⟨xa++([v]++xb)⟩ xa.length).run P w=.ok v w:=by
  have e1:(isAgg t).run P w=.ok false w:=by
    unfold zGl at ht
    split at ht <;> first
      | (cases ht; done)
      | (rename_i d hn1 hn2 hd
         simp only[isAgg,Sem.run_bind,run_underlying hd,Result.andThen_ok]
         cases d <;> first | rfl | exact absurd rfl (fun e => hn1 _ e) | exact absurd rfl (fun e => hn2 _ _ e))
  simp[part,e1]
theorem zGt {D:Nat}{t:TypeId}{k:Nat}(ht:zGl P t=some false)
  (h:∀ x y r w,zBw [k] [x] [y]=some r→(Op.equalIn D t x y).run P w=.ok r w):zK7 P D t [k]:=by
 intro xa xb x1 ya yb y1 r w hl h1 h2 e
 match x1,y1,h1,h2 with
 |[x],[y],_,_=>
  refine⟨x,y,zQ1 ht xa xb x w,?_,h x y r w e⟩
  rw[hl];exact zQ1 ht ya yb y w
theorem zM5 {D d:Nat}{t:TypeId}{fs:Array Field}{ks:List Nat}{sh:TypeId→Option (List Nat)}(ht:P.underlying t=some (.struct fs))(hst:P.stoodInHeld t=false)
  (hs:zGi P t=some ks.length) (hf:zEh P sh 0 fs.toList=some ks) (hsh:∀ t ks,sh t=some ks→zK7 P D t ks) (hD:d=D+1):zK7 P d t ks:=by
 subst hD
 intro xa xb x1 ya yb y1 r w hl h1 h2 e
 refine⟨.agg ⟨x1⟩,.agg ⟨y1⟩,zUr ht hs xa x1 xb h1 w,by rw[hl];exact zUr ht hs ya y1 yb h2 w,?_⟩
 have hfs:P.fieldsOf t=fs:=by unfold Program.fieldsOf;rw[ht]
 rw[run_equalIn_struct w D t ⟨x1⟩ ⟨y1⟩ (by rw[hfs];exact ht) hst,hfs]
 exact zGs hsh fs.toList 0 ks hf [] x1 [] y1 r w rfl rfl e
theorem zK8 {t:TypeId}{D:TypeDesc}(h:P.underlying t=some D)(h1:∀ fs,D≠.struct fs)(h2:∀ n e,D≠.array n e):zGl P t=some false:=by
 unfold zGl
 rw[h]
 cases D<;>first|rfl|exact absurd rfl (h1 _)|exact absurd rfl (h2 _ _)
theorem zH4 {k:Nat} {x y:Value} {r:Bool} (h:zBw [k] [x] [y]=some r):
    (k=0∧∃ q a b,x=.int q a∧y=.int q b∧r=(a==b))∨(k=1∧∃ a b,x=.bool a∧y=.bool b∧r=(a==b))∨(k=2∧∃ a b,x=.string a∧y=.string b∧r=zK1 a b):=by
  unfold zBw at h
  split at h
  · rename_i q _ _; cases q
  · rename_i e1 e2 e3
    cases e1;cases e2;cases e3
    split at h
    · rename_i hk
      have hk:=zIj hk
      subst hk
      rw[zH3] at h
      cases h
      exact .inl ⟨rfl, _, _, _, rfl, rfl, by simp⟩
    · cases h
  · rename_i e1 e2 e3
    cases e1;cases e2;cases e3
    rw[zH3] at h
    cases h
    exact .inr (.inl ⟨rfl, _, _, rfl, rfl, by simp⟩)
  · rename_i e1 e2 e3
    cases e1;cases e2;cases e3
    rw[zH3] at h
    cases h
    exact .inr (.inr ⟨rfl, _, _, rfl, rfl, by simp⟩)
  · cases h
theorem zFx {f g:TypeId→Option (List Nat)}(hfg:∀ t ks m,f t=some ks→zGi P t=some m→Nat.beq m ks.length=true→g t=some ks):∀ (fs:List Field) (off:Nat) (ks:List Nat),zEh P f off fs=some ks→zEh P g off fs=some ks
 |[],off,ks,h=>h
 |x::fs,off,ks,h=>by
  unfold zEh at h ⊢
  split at h
  case h_2=>cases h
  split at h
  case h_2=>cases h
  rename_i ks1 h1
  split at h
  case h_2=>cases h
  rename_i m hm
  split at h
  case h_2=>cases h
  rename_i hl
  split at h
  case h_2=>cases h
  rename_i ks2 h2
  rw[hfg _ _ _ h1 hm hl]
  simp only[hl,zFx hfg fs _ _ h2]
  exact h
theorem zK9:∀ (d D:Nat),d≤D→∀ (t:TypeId) (ks:List Nat),zHz P d t=some ks→(∀ fs,P.underlying t=some (.struct fs)→zGi P t=some ks.length)→zK7 P D t ks
  | 0, _, _, t, ks, h, _ => by cases h
  | d + 1, 0, hD, t, ks, h, _ => by omega
  | d + 1, D + 1, hD, t, ks, h, hs => by
    unfold zHz at h
    split at h
    · rename_i hu
      cases h
      refine zGt (zK8 hu (fun _ => by simp) (fun _ _ => by simp)) fun x y r w e => ?_
      rcases zH4 e with ⟨q, _⟩ | ⟨_, a, b, rfl, rfl, rfl⟩ | ⟨q, _⟩
      · cases q
      · exact run_equalIn_bool' w D t a b hu
      · cases q
    · rename_i k hu
      cases h
      refine zGt (zK8 hu (fun _ => by simp) (fun _ _ => by simp)) fun x y r w e => ?_
      rcases zH4 e with ⟨_, k2, a, b, rfl, rfl, rfl⟩ | ⟨q, _⟩ | ⟨q, _⟩
      · exact run_equalIn_int w D t k2 k a b hu
      · cases q
      · cases q
    · rename_i hu
      cases h
      refine zGt (zK8 hu (fun _ => by simp) (fun _ _ => by simp)) fun x y r w e => ?_
      rcases zH4 e with ⟨q, _⟩ | ⟨q, _⟩ | ⟨_, a, b, rfl, rfl, rfl⟩
      · cases q
      · cases q
      · rw [run_equalIn_string w D t a b hu, ByteArray.toList_eq, ByteArray.toList_eq]; rfl
    · rename_i fs hu
      split at h
      · cases h
      · rename_i hst
        refine zM5 hu hst (hs fs hu) (sh := fun t => match zHz P d t, zGi P t with | some ks, some m => (match Nat.beq m ks.length with | true => some ks | false => none) | _, _ => none) ?_ ?_ rfl
        · refine zFx ?_ _ _ _ h
          intro t ks m h1 h2 h3
          simp only[h1,h2,h3]
        · intro t' ks' h'
          split at h'
          case h_2 => cases h'
          rename_i ks2 m h1 h2
          split at h'
          case h_2 => cases h'
          rename_i h3
          cases h'
          exact zK9 d D (by omega) t' ks' h1 fun _ _ => by rw [h2, Nat.eq_of_beq_eq_true h3]
    · cases h
theorem zDm {φ:Ren}{id off:Nat}{v':Value}(h:VR φ (.pointer (some ⟨id,off,none⟩)) v'):
  ∃ b sh sz,φ id=some (b,sh,sz)∧v'=.pointer (some ⟨b,sh+off,none⟩):=by
 cases h with|ptr _ _ b sh sz e=>exact⟨b,sh,sz,e,rfl⟩
theorem zLa {φ:Ren}{a:Addr}{v':Value}(h:VR φ (.pointer (some a)) v'):∃ a',v'=.pointer (some a'):=by
 cases h;exact⟨_,rfl⟩
theorem zIk {φ:Ren}{v':Value}(h:VR φ (.pointer none) v'):v'=.pointer none:=by cases h;rfl
theorem zLb {φ:Ren}{v':Value}(h:VR φ emp v'):∃ a c,v'=.slice a 0 c:=by
 generalize hv:emp=V at h
 cases h<;>first|exact⟨_,_,rfl⟩|(simp[und] at hv;done)
theorem zHe {φ:Ren}{n c:Nat}{v':Value}(h:VR φ (.slice none n c) v'):v'=.slice none n c:=by cases h;rfl
theorem zQ2 {φ:Ren}{a:Addr}{n c:Nat}{v':Value}(h:VR φ (.slice (some a) n c) v'):∃ a' c',v'=.slice (some a') n c':=by
 generalize hv:Value.slice (some a) n c=V at h
 cases h<;>first|(cases hv;exact⟨_,_,rfl⟩)|(simp[und] at hv;done)
theorem zIl {φ:Ren}{v':Value}(h:VR φ (.map none) v'):v'=.map none:=by cases h;rfl
theorem zQ3 {φ:Ren}{a:Nat}{v':Value}(h:VR φ (.map (some a)) v'):∃ a',v'=.map (some a'):=by cases h;exact⟨_,rfl⟩
theorem zLc {φ:Ren}{v':Value}(h:VR φ .nilFunc v'):v'=.nilFunc:=by cases h;rfl
theorem zKi {φ:Ren}{fn:Fn}{a c:Array Value}{v':Value}(h:VR φ (.func fn a c) v'):∃ a' c',v'=.func fn a' c'∧VRL φ a.toList a'.toList∧VRL φ c.toList c'.toList:=by
 cases h with|func _ a a' c c' e1 e2 e3 e4=>exact⟨⟨a'⟩,⟨c'⟩,rfl,⟨e1,e2⟩,⟨e3,e4⟩⟩
theorem zJz {φ:Ren}{v':Value}(h:VR φ .nilIface v'):v'=.nilIface:=by cases h;rfl
theorem zQ4 {φ:Ren}{t:TypeId}{x v':Value}(h:VR φ (.iface t x) v'):∃ x',v'=.iface t x'∧VR φ x x':=by cases h with|iface _ _ x' q=>exact⟨x',rfl,q⟩
theorem zYd {φ:Ren}{a:Array Value}{v':Value}(h:VR φ (.agg a) v'):∃ a',v'=.agg a'∧VRL φ a.toList a'.toList:=by
 cases h with|agg a a' e q=>exact⟨⟨a'⟩,rfl,e,q⟩
theorem zYe {φ:Ren}{x:Value}{xs:List Value}{v':Value}(h:VR φ (.tuple ⟨x::xs⟩) v'):∃ a',v'=.tuple a'∧VRL φ (x::xs) a'.toList:=by
 cases h with|tuple a a' e q=>exact⟨⟨a'⟩,rfl,e,q⟩
theorem zYf {t:TypeId}{a b a' b':Value}{r:Bool}(h:yHd (typ P t) a b=some r)(ha:VR φ a a')(hb:VR φ b b')(op:BinOp)(x y:Operand)(w:World):
  (eqGuard op t x y a' b').run P w=.ok () w∧(Op.equal t a' b').run P w=.ok r w∧
   binOp .eql t a' b'=(do pure (.bool (← Op.equal t a' b')))∧binOp .neq t a' b'=(do pure (.bool (!(← Op.equal t a' b')))):=by
 unfold yHd typ at h
 split at h<;>(try split at h)<;>simp only[Option.some.injEq,reduceCtorEq] at h<;>subst h<;>
  (first
   |(obtain⟨_,rfl⟩:=zLa ha;obtain rfl:=zIk hb)
   |(obtain rfl:=zIk ha;obtain⟨_,rfl⟩:=zLa hb)
   |(obtain⟨_,_,rfl⟩:=zQ2 ha;obtain rfl:=zHe hb)
   |(obtain rfl:=zHe ha;obtain⟨_,_,rfl⟩:=zQ2 hb)
   |(obtain⟨_,rfl⟩:=zQ3 ha;obtain rfl:=zIl hb)
   |(obtain rfl:=zIl ha;obtain⟨_,rfl⟩:=zQ3 hb)
   |(obtain rfl:=zLc ha;obtain⟨_,_,rfl,_⟩:=zKi hb)
   |(obtain⟨_,_,rfl,_⟩:=zKi ha;obtain rfl:=zLc hb)
   |(obtain⟨_,rfl,_⟩:=zQ4 ha;obtain rfl:=zJz hb)
   |(obtain rfl:=zJz ha;obtain⟨_,rfl,_⟩:=zQ4 hb))<;>
  refine⟨?_,?_,rfl,rfl⟩<;>
  first
   |(cases op<;>simp[eqGuard];done)
   |(rw[show ∀ a b,Op.equal t a b=Op.equalIn (9999+1) t a b from fun _ _=>rfl,Op.equalIn,Sem.run_bind,run_underlying (by assumption)];rfl)
theorem zQ5 {t:TypeId}{a b a' b':Value}{r:Bool}(h:yHe P t a b=some r)(ha:VR φ a a')(hb:VR φ b b')(op:BinOp)(x y:Operand)(w:World):
  (eqGuard op t x y a' b').run P w=.ok () w∧(Op.equal t a' b').run P w=.ok r w∧
   binOp .eql t a' b'=(do pure (.bool (← Op.equal t a' b')))∧binOp .neq t a' b'=(do pure (.bool (!(← Op.equal t a' b')))):=by
 unfold yHe at h
 split at h
 ·rename_i i o j p
  split at h
  ·rename_i hij
   have hij:i=j:=Nat.eq_of_beq_eq_true hij
   subst hij
   split at h
   ·rename_i e ht
    split at h
    ·rename_i n hn
     split at h
     ·cases h
     ·rename_i hn0
      simp only[Option.some.injEq] at h
      obtain⟨b1,sh,sz,e1,rfl⟩:=zDm ha
      obtain⟨b2,sh2,sz2,e2,rfl⟩:=zDm hb
      rw[e1] at e2;cases e2
      refine⟨by cases op<;>simp[eqGuard],?_,rfl,rfl⟩
      have hs:(sizeOf e).run P w=.ok n w:=by
       unfold zGi at hn
       split at hn
       ·rename_i i hi;cases hn;simp[sizeOf,typeInfo,hi]
       ·cases hn
      rw[show ∀ a b,Op.equal t a b=Op.equalIn (9999+1) t a b from fun _ _=>rfl,Op.equalIn,Sem.run_bind,run_underlying ht]
      have hn0:n≠0:=by rintro rfl;simp at hn0
      simp only[Result.andThen_ok,Sem.run_bind,hs,Sem.run_ite,if_pos hn0,sameAddr,beq_self_eq_true,if_true,← h]
      simp
      rw[Bool.eq_iff_iff];simp
    ·cases h
   ·cases h
  ·cases h
 ·exact zYf h ha hb op x y w
theorem zWl (n:Int):bits .and .i64 n 255=n % 256:=by
 have h255:(BitVec.ofInt 64 255).toNat=2 ^ 8 - 1:=by decide
 have key:(BitVec.ofInt 64 n &&& BitVec.ofInt 64 255).toNat=(n % ((2 ^ 64:Nat):Int)).toNat % 2 ^ 8:=by
  rw[BitVec.toNat_and,BitVec.toNat_ofInt,h255,Nat.and_two_pow_sub_one_eq_mod]
 show IntKind.i64.wrap ((BitVec.ofInt 64 n &&& BitVec.ofInt 64 255).toNat:Nat)=n % 256
 rw[key,IntKind.wrap_i64]
 omega
theorem zQ6 (n:Int){k:Nat}(hk:k≤15):bits .and .i64 n ((2 ^ k - 1:Nat):Int)=n % ((2 ^ k:Nat):Int):=by
 have hM:(BitVec.ofInt 64 ((2 ^ k - 1:Nat):Int)).toNat=2 ^ k - 1:=by
  rw[BitVec.toNat_ofInt]
  have:2 ^ k≤2 ^ 15:=Nat.pow_le_pow_right (by omega) hk
  omega
 have key:(BitVec.ofInt 64 n &&& BitVec.ofInt 64 ((2 ^ k - 1:Nat):Int)).toNat=(n % ((2 ^ 64:Nat):Int)).toNat % 2 ^ k:=by
  rw[BitVec.toNat_and,BitVec.toNat_ofInt,hM,Nat.and_two_pow_sub_one_eq_mod]
 show IntKind.i64.wrap ((BitVec.ofInt 64 n &&& BitVec.ofInt 64 ((2 ^ k - 1:Nat):Int)).toNat:Nat)=_
 rw[key,IntKind.wrap_i64]
 have hd:k=0∨k=1∨k=2∨k=3∨k=4∨k=5∨k=6∨k=7∨k=8∨k=9∨k=10∨k=11∨k=12∨k=13∨k=14∨k=15:=by omega
 rcases hd with rfl|rfl|rfl|rfl|rfl|rfl|rfl|rfl|rfl|rfl|rfl|rfl|rfl|rfl|rfl|rfl<;>simp only[Nat.reducePow]<;>omega
theorem zDx:∀ {ks:List Nat} {a b:List Value} {r:Bool},zBw ks a b=some r→zEd a=true∧zEd b=true
 |[],a,b,r,h=>by
  unfold zBw at h
  split at h
  ·exact⟨rfl,rfl⟩
  ·rename_i q;cases q
  ·rename_i q;cases q
  ·rename_i q;cases q
  ·cases h
 |k::ks,a,b,r,h=>by
  unfold zBw at h
  split at h
  ·rename_i q;cases q
  ·rename_i e
   cases e
   split at h
   ·split at h
    ·rename_i hr
     obtain⟨q1,q2⟩:=zDx hr
     exact⟨by simp[zEd,zGk,q1],by simp[zEd,zGk,q2]⟩
    ·cases h
   ·cases h
  ·rename_i e
   cases e
   split at h
   ·rename_i hr
    obtain⟨q1,q2⟩:=zDx hr
    exact⟨by simp[zEd,zGk,q1],by simp[zEd,zGk,q2]⟩
   ·cases h
  ·rename_i e
   cases e
   split at h
   ·rename_i hr
    obtain⟨q1,q2⟩:=zDx hr
    exact⟨by simp[zEd,zGk,q1],by simp[zEd,zGk,q2]⟩
   ·cases h
  ·cases h
theorem zQ7 {t:TypeId}{a b:List Value}{r:Bool}(h:zWb P t a b=some r)(w:World):
  (Op.equalIn 10000 t (.agg ⟨a⟩) (.agg ⟨b⟩)).run P w=.ok r w∧P.eqGuardType P.depth t=false∧zEd a=true∧zEd b=true:=by
 unfold zWb at h
 split at h
 case h_2=>cases h
 rename_i fs hu
 split at h
 ·cases h
 rename_i hg
 rw[Bool.or_eq_false_iff] at hg
 split at h
 case h_2=>cases h
 rename_i ks hk
 refine⟨?_,hg.2,(zDx h).1,(zDx h).2⟩
 have hfs:P.fieldsOf t=fs:=by unfold Program.fieldsOf;rw[hu]
 show(Op.equalIn (9999+1) t (.agg ⟨a⟩) (.agg ⟨b⟩)).run P w=.ok r w
 rw[run_equalIn_struct w 9999 t ⟨a⟩ ⟨b⟩ (by rw[hfs];exact hu) hg.1,hfs]
 refine zGs (sh:=fun t=>match zHz P 11 t,zGi P t with|some ks,some m=>(match Nat.beq m ks.length with|true=>some ks|false=>none)|_,_=>none) ?_ fs.toList 0 ks ?_ [] a [] b r w rfl rfl h
 ·intro t' ks' h'
  split at h'
  case h_2=>cases h'
  rename_i ks2 m h1 h2
  split at h'
  case h_2=>cases h'
  rename_i h3
  cases h'
  exact zK9 11 9999 (by decide) t' ks' h1 fun _ _=>by rw[h2,Nat.eq_of_beq_eq_true h3]
 ·refine zFx ?_ _ _ _ hk
  intro t ks m h1 h2 h3
  simp only[h1,h2,h3]
theorem yDc {op:BinOp} {t:TypeId} {x y:Operand} (h:yC9 P op t x y l s=some (v,s')) (H:HR φ s.h w0 w) (hx:VR φ (evalO l x) (ρ x)) (hy:VR φ (evalO l y) (ρ y)):
    Gives P w0 φ lo s' v ((do pure (.value (← (do eqGuard op t x y (ρ x) (ρ y); binOp op t (ρ x) (ρ y)))) : Sem Next).run P w) := by
  unfold yC9 ofV at h
  split at h
  case h_2 => cases h
  rename_i r hr
  simp only[Option.some.injEq,Prod.mk.injEq] at h
  obtain⟨rfl,rfl⟩:=h
  revert hx hy hr
  generalize evalO l x=a
  generalize evalO l y=b
  generalize ρ x=a'
  generalize ρ y=b'
  intro ha hb hr
  have hS : ∀ {a b a' b' : Value} {r : Value}, VR φ a a' → VR φ b b' → yM8 P op t x y a b = some r → Gives P w0 φ lo s r ((do pure (.value (← (do eqGuard op t x y a' b'; binOp op t a' b'))) : Sem Next).run P w) := by
    intro a b a' b' r ha hb h
    unfold yM8 at h
    split at h
    · rename_i hf
      simp only[Bool.and_eq_true] at hf
      split at h
      · rename_i r' hr'
        split at h
        · rename_i hfr
          cases h
          rw[zCj hf.1 ha,zCj hf.2 hb]
          exact zAw H (zCi hfr φ) (zFw hr' w)
        · cases h
      · cases h
    · split at h
      · rename_i r' hr'
        cases h
        obtain⟨q1,q2,q3,q4⟩:=zQ5 hr' ha hb .eql x y w
        refine zAw H (.bool _) ?_
        rw[Sem.run_bind,q1,Result.andThen_ok,q3,Sem.run_bind,q2];rfl
      · rename_i r' hr'
        cases h
        obtain⟨q1,q2,q3,q4⟩:=zQ5 hr' ha hb .neq x y w
        refine zAw H (.bool _) ?_
        rw[Sem.run_bind,q1,Result.andThen_ok,q4,Sem.run_bind,q2];rfl
      · cases h
  unfold zUm at hr
  split at hr
  · rename_i c n
    obtain ⟨m, rfl, hm⟩ : ∃ m, a' = .int .i64 m ∧ yF6 c m := by cases ha with | mark _ m hm => exact ⟨m, rfl, hm⟩
    rw[zGr hb]
    unfold zX4 at hr
    split at hr
    · split at hr
      · rename_i hbig
        have hbig:=Nat.le_of_ble_eq_true hbig
        split at hr
        case h_2 => cases hr
        rename_i hc
        rw[Bool.and_eq_true,Bool.and_eq_true] at hc
        obtain⟨hn,hc,hle⟩:=hc
        have hn:=of_decide_eq_true hn
        have hn:n=((2 ^ (c / 2 % 65536 - 256) - 1:Nat):Int):=hn
        subst hn
        have hc:=Nat.eq_of_beq_eq_true hc
        have hle:=Nat.le_of_ble_eq_true hle
        cases hr
        refine zAw H (v' := .int .i64 (bits .and .i64 m ((2 ^ (c / 2 % 65536 - 256) - 1 : Nat) : Int))) ?_ (by simp [eqGuard, binOp, Op.intBits, bits])
        rw [zQ6 m (by omega)]
        rcases hm with ⟨_, h2, _⟩ | ⟨h1, _⟩ | ⟨_, _, h3⟩
        · omega
        · omega
        · rw [h3]; exact .int _ _
      rename_i hbig
      have hbig:c / 2 % 65536 < 256:=by
        rcases Nat.lt_or_ge (c / 2 % 65536) 256 with q | q
        · exact q
        · exact absurd (Nat.ble_eq_true_of_le q) (by rw [hbig]; simp)
      split at hr
      case h_2 => cases hr
      rename_i hc
      rw[Bool.and_eq_true] at hc
      obtain⟨hn,hc⟩:=hc
      obtain rfl:=of_decide_eq_true hn
      have hc:=Nat.eq_of_beq_eq_true hc
      cases hr
      refine zAw H (v' := .int .i64 (bits .and .i64 m 255)) (.mark _ _ ?_) (by simp [eqGuard, binOp, Op.intBits, bits])
      rw[zWl]
      rcases hm with ⟨_, _, h2⟩ | ⟨h1, _⟩ | ⟨_, h1, _⟩
      · right; left
        refine ⟨by omega, by omega, ?_⟩
        rw [show (c + 1) / 2 = c / 2 by omega, show (c + 1) / 131072 = c / 131072 by omega]
        exact h2
      · omega
      · omega
    · split at hr
      case h_2 => cases hr
      rename_i hc
      rw[Bool.and_eq_true,Bool.and_eq_true] at hc
      obtain⟨hn,hc,hd⟩:=hc
      obtain rfl:=of_decide_eq_true hn
      have hc:=Nat.eq_of_beq_eq_true hc
      have hd:=Nat.le_of_ble_eq_true hd
      cases hr
      rcases hm with ⟨h1, _⟩ | ⟨_, h1, h2⟩ | ⟨h1, _⟩
      · omega
      · refine zAw H (v' := .int .i64 (m.tmod ((c / 2 % 65536 : Nat) : Int))) ?_ ?_
        · rw [Int.tmod_eq_emod_of_nonneg h1, h2]; exact .int _ _
        · have hne : ¬ ((c / 2 % 65536 : Nat) : Int) = 0 := by omega
          simp only[eqGuard,binOp,Op.intDiv,hne,if_false]
          rfl
      · omega
    · cases hr
  · rename_i k m k' n
    rw[zGr ha,zGr hb]
    split at hr
    · rename_i v hv
      cases hr
      exact zAw H (zO5 hv φ) (zQ0 hv t x y w)
    · split at hr
      · rename_i hk
        rw[← zIj hk]
        exact zAw H (zS7 hr φ) (zWj hr t x y w)
      · cases hr
  · rename_i p q
    split at hr
    · rename_i v hv
      cases hr
      rw[zC7 ha,zC7 hb]
      exact zAw H (zS6 hv φ) (zWk hv t x y w)
    · exact hS ha hb hr
  · rename_i p q
    split at hr
    · rename_i v hv
      cases hr
      obtain⟨p⟩:=p
      obtain⟨q⟩:=q
      unfold zUl at hv
      split at hv
      · split at hv
        case h_2 => cases hv
        rename_i r hr
        cases hv
        obtain⟨h1,h2,h3,h4⟩:=zQ7 hr w
        rw[zCj (v:=.agg ⟨p⟩) h3 ha,zCj (v:=.agg ⟨q⟩) h4 hb]
        refine zAw H (.bool _) ?_
        rw[Sem.run_bind,run_eqGuard_agg w _ t x y _ _ h2,Result.andThen_ok,run_eql_struct,h1];rfl
      · split at hv
        case h_2 => cases hv
        rename_i r hr
        cases hv
        obtain⟨h1,h2,h3,h4⟩:=zQ7 hr w
        rw[zCj (v:=.agg ⟨p⟩) h3 ha,zCj (v:=.agg ⟨q⟩) h4 hb]
        refine zAw H (.bool _) ?_
        rw[Sem.run_bind,run_eqGuard_agg w _ t x y _ _ h2,Result.andThen_ok,run_neq_struct,h1];rfl
      · cases hv
    · exact hS ha hb hr
  · exact hS ha hb hr
theorem yHj {op:UnOp} {x:Operand} (h:yHg P op x l s=some (v,s')) (H:HR φ s.h w0 w) (hx:VR φ (evalO l x) (ρ x)):
    Gives P w0 φ lo s' v ((do pure (.value (← Op.unary op (ρ x))) : Sem Next).run P w) := by
  unfold yHg at h
  split at h
  · rename_i hf
    split at h
    · rename_i r hr
      split at h
      · rename_i hfr
        simp only[Option.some.injEq,Prod.mk.injEq] at h
        obtain⟨rfl,rfl⟩:=h
        rw[zCj hf hx]
        exact zAw H (zCi hfr φ) (zFw hr w)
      · cases h
    · cases h
  · cases h
theorem zIm {t:TypeId} {x:Operand} (h:zBz P t x l s=some (v,s')) (H:HR φ s.h w0 w) (hx:VR φ (evalO l x) (ρ x)):
    Gives P w0 φ lo s' v ((do pure (.value (← Instr.makeInterface t (ρ x))) : Sem Next).run P w) := by
  unfold zBz typ at h
  split at h
  · rename_i d hd
    split at h
    · cases h
    · rename_i hni
      simp only[Option.some.injEq,Prod.mk.injEq] at h
      obtain⟨rfl,rfl⟩:=h
      refine zAw H (.iface _ _ _ hx) ?_
      unfold Instr.makeInterface
      rw[Sem.run_bind,run_underlying hd]
      cases d <;> first | rfl | exact absurd rfl (hni _)
  · cases h
theorem zKj {xs:List Operand} (h:∀ x∈xs,VR φ (evalO l x) (ρ x)):VRL φ (zE6 l xs) (xs.map ρ):=by
  induction xs with
  | nil => exact VRL.nil φ
  | cons x t ih => exact VRL.cons (h x (by simp)) (ih fun y hy => h y (by simp [hy]))
theorem zYg {xs:List (Nat×Operand)} (h:∀ x∈xs,VR φ (evalO l x.2) (ρ x.2)):
    (zFf l xs).map (·.1) = xs.map (·.1) ∧ VRL φ ((zFf l xs).map (·.2)) (xs.map fun x => ρ x.2) := by
  induction xs with
  | nil => exact ⟨rfl, VRL.nil φ⟩
  | cons x t ih =>
    obtain ⟨i1, i2⟩ := ih fun y hy => h y (by simp [hy])
    obtain⟨i,x⟩:=x
    exact ⟨by simp [zFf, i1], VRL.cons (h (i, x) (by simp)) i2⟩
theorem zO6 {fn:Fn} {a b:Array Operand} (h:zHa fn a b l s=some (v,s')) (H:HR φ s.h w0 w) (ha:∀ x∈a.toList,VR φ (evalO l x) (ρ x)) (hb:∀ x∈b.toList,VR φ (evalO l x) (ρ x)):
    Gives P w0 φ lo s' v ((do pure (.value (← Instr.makeFunc fn (a.map ρ) (b.map ρ))) : Sem Next).run P w) := by
  simp only[zHa,Option.some.injEq,Prod.mk.injEq] at h
  obtain⟨rfl,rfl⟩:=h
  have h1:=zKj ha
  have h2:=zKj hb
  obtain⟨a⟩:=a
  obtain⟨b⟩:=b
  exact zAw H (v' := Value.func fn ⟨a.map ρ⟩ ⟨b.map ρ⟩) (.func fn _ _ _ _ h1.1 h1.2 h2.1 h2.2) (by simp [Instr.makeFunc])
theorem zQ8 {t:Operand} {i:Nat} (h:zDd t i l s=some (v,s')) (H:HR φ s.h w0 w) (hx:VR φ (evalO l t) (ρ t)):
    Gives P w0 φ lo s' v ((do pure (.value (← Instr.extract (ρ t) i)) : Sem Next).run P w) := by
  unfold zDd at h
  split at h
  · rename_i vs hv
    split at h
    · cases h
    · rename_i x xs hxs
      obtain⟨vs⟩:=vs
      simp only at hxs;subst hxs
      rw[hv] at hx
      obtain⟨a',ha',q⟩:=zYe hx
      unfold ofV at h
      split at h
      · rename_i r hr
        simp only[Option.some.injEq,Prod.mk.injEq] at h
        obtain⟨rfl,rfl⟩:=h
        have hnth:∀ {l:List Value} {i:Nat} {r:Value},nth l i=some r→l[i]?=some r:=by
          intro l
          induction l with
          | nil => intro i r h; simp [nth] at h
          | cons a t ih => intro i r h; cases i with | zero => simpa [nth] using h | succ i => simpa using ih (by simpa [nth] using h)
        have hr:=hnth hr
        have hi:i < (x::xs).length:=by
          rcases Nat.lt_or_ge i (x :: xs).length with q | q
          · exact q
          · rw [List.getElem?_eq_none q] at hr; cases hr
        have hv1:=q.2 i
        have hi' : i < a'.toList.length := by rw [← q.1]; exact hi
        rw[List.getD_eq_getElem?_getD,hr,List.getD_eq_getElem?_getD,List.getElem?_eq_getElem hi'] at hv1
        refine zAw H hv1 ?_
        rw[ha']
        simp only[Instr.extract]
        rw [show a'[i]? = some (a'.toList[i]) by rw [← Array.getElem?_toList, List.getElem?_eq_getElem hi']]
        rfl
      · cases h
  · cases h
theorem zO7 {x:Operand} (h:zCu x l s=some (v,s')) (H:HR φ s.h w0 w) (hx:VR φ (evalO l x) (ρ x)) {o:Oper} (ho:o.op=.nilCheck x):
    Gives P w0 φ lo s' v ((execOp ρ o).run P w):=by
  unfold zCu at h
  split at h
  · rename_i a hv
    split at h
    · rename_i a
      simp only[Option.some.injEq,Prod.mk.injEq] at h
      obtain⟨rfl,rfl⟩:=h
      rw[hv] at hx
      obtain⟨a',e⟩:=zLa hx
      have hx':=hx
      rw[e] at hx'
      simp only[execOp,ho,e]
      exact⟨φ,Ext.refl _ _ _,hx',H⟩
    · cases h
  · rename_i f a b hv
    split at h
    · rename_i f
      simp only[Option.some.injEq,Prod.mk.injEq] at h
      obtain⟨rfl,rfl⟩:=h
      rw[hv] at hx
      obtain⟨a',b',e,q1,q2⟩:=zKi hx
      have hx':=hx
      rw[e] at hx'
      simp only[execOp,ho,e]
      exact⟨φ,Ext.refl _ _ _,hx',H⟩
    · cases h
  · cases h
end
end Go.Det
end
section
namespace Go.Det
variable {P:Program}
section
variable {w0 w:World} {φ:Ren} {l:zAz} {s s':St} {v:Value} {ρ:Operand→Value} {lo:Nat}
theorem zB1 {t:TypeId}{n:Nat}(h:zGi P t=some n)(w:World):(sizeOf t).run P w=.ok n w:=by
 unfold zGi at h
 split at h
 ·rename_i i hi;cases h;simp[sizeOf,typeInfo,hi]
 ·cases h
theorem zWm {t:TypeId}{n:Nat}(h:zGi P t=some n):P.cellsOf t=n:=by
 unfold zGi at h
 split at h
 ·rename_i i hi;cases h;simp[Program.cellsOf,hi]
 ·cases h
theorem zCl {t:TypeId}{z:Value}(h:zCx P t=some z)(w:World):(zeroValue t).run P w=.ok z w:=by
 unfold zCx at h
 split at h
 ·rename_i i hi
  split at h
  ·rename_i z' hz
   split at h
   ·cases h;simp[zeroValue,typeInfo,hi,hz]
   ·cases h
  ·cases h
 ·cases h
theorem zC6 {t:TypeId}{z:Value}(h:zCx P t=some z):∃ i,P.info? t=some i∧i.zero=some z∧(zA9 z).length=i.size∧zGg z=true:=by
 unfold zCx at h
 split at h
 ·rename_i i hi
  split at h
  ·rename_i z' hz
   split at h
   ·rename_i q
    cases h
    simp only[Bool.and_eq_true] at q
    exact⟨i,hi,hz,Nat.eq_of_beq_eq_true q.2,q.1⟩
   ·cases h
  ·cases h
 ·cases h
theorem zLd {t:TypeId}{z:Value}(h:zCx P t=some z):zGg z=true:=(zC6 h).choose_spec.2.2.2
theorem zC8 {t:TypeId} {b:Bool} (h:zGl P t=some b) (w:World):(isAgg t).run P w=.ok b w:=by
  unfold zGl at h
  split at h <;> first
    | (cases h; rename_i hd; simp [isAgg, run_underlying hd]; done)
    | (rename_i d hn1 hn2 hd; cases h
       simp only[isAgg,Sem.run_bind,run_underlying hd,Result.andThen_ok]
       split
       · exact absurd hd (by rename_i q; rw [q]; exact hn1 _)
       · exact absurd hd (by rename_i q; rw [q]; exact hn2 _ _)
       · rfl)
    | cases h
theorem zDe {x x':Value}{n:Nat}(h:zIb x=some n)(hx:VR φ x x'):∃ k,x'=.int k (n:Int):=by
 unfold zIb at h
 split at h
 ·rename_i k m
  split at h
  ·rename_i hm
   simp only[Option.some.injEq] at h
   exact⟨k,by rw[zGr hx];congr 1;omega⟩
  ·cases h
 ·cases h
theorem zC1 (b o n:Nat):(⟨b,o,none⟩:Addr).add n=⟨b,o+n,none⟩:=by unfold Addr.add;split<;>simp_all
theorem zM6 {t:TypeId} {x:Operand} {f:Nat} (h:zFq P t x f l s=some (v,s')) (H:HR φ s.h w0 w) (hx:VR φ (evalO l x) (ρ x)):
    Gives P w0 φ lo s' v ((do pure (.value (← Instr.fieldAt t (ρ x) f)) : Sem Next).run P w) := by
  unfold zFq ofV at h
  split at h
  case h_2 => cases h
  rename_i r hr
  simp only[Option.some.injEq,Prod.mk.injEq] at h
  obtain⟨rfl,rfl⟩:=h
  unfold zNi typ at hr
  split at hr
  case h_2 => cases hr
  rename_i fs id off ht hv
  split at hr
  case h_2 => cases hr
  rename_i fd hfd
  split at hr
  case h_2 => cases hr
  rename_i n hn
  split at hr
  · cases hr
  rename_i hn0
  simp only[Option.some.injEq] at hr
  subst hr
  rw[hv] at hx
  obtain⟨b,sh,sz,e,hp⟩:=zDm hx
  have hn0 : n ≠ 0 := by rintro rfl; simp at hn0
  refine zAw H (.ptr _ _ b sh sz e) ?_
  simp only[Instr.fieldAt,Sem.run_bind,run_underlying ht,Result.andThen_ok,hfd,hp,Instr.sureAddr,Sem.run_pure,fieldPlace,zB1 hn,Sem.run_ite,if_neg hn0,zC1,Nat.add_assoc]
theorem zM7 {t:TypeId} {x i:Operand} (h:zFr P t x i l s=some (v,s')) (H:HR φ s.h w0 w) (hx:VR φ (evalO l x) (ρ x)) (hi:VR φ (evalO l i) (ρ i)):
    Gives P w0 φ lo s' v ((do pure (.value (← Instr.indexAt t (ρ x) (ρ i))) : Sem Next).run P w) := by
  unfold zFr ofV at h
  split at h
  case h_2 => cases h
  rename_i r hr
  simp only[Option.some.injEq,Prod.mk.injEq] at h
  obtain⟨rfl,rfl⟩:=h
  unfold zFe typ at hr
  split at hr
  · rename_i elem id off n c j ht hv hj
    split at hr
    case h_2 => cases hr
    rename_i size hs
    split at hr
    · cases hr
    rename_i hle
    simp only[Option.some.injEq] at hr
    subst hr
    have hlt : j < n := by simpa using hle
    obtain⟨k,hk⟩:=zDe hj hi
    rw[hv] at hx
    generalize hV:Value.slice (some ⟨id,off,none⟩) n c=V at hx
    have:∃ b sh sz c',φ id=some (b,sh,sz)∧ρ x=.slice (some ⟨b,sh+off,none⟩) n c':=by
      revert hx
      generalize ρ x=X
      intro hx
      cases hx <;> first | (cases hV; exact ⟨_, _, _, _, by assumption, rfl⟩) | (simp [und] at hV; done)
    obtain⟨b,sh,sz,c',e,hp⟩:=this
    refine zAw H (.ptr _ _ b sh sz e) ?_
    have hr : (0 : Int) ≤ (j : Int) ∧ (j : Int) < (n : Int) := by omega
    simp only[Instr.indexAt,hk,asIntOf,Sem.run_bind,Sem.run_pure,Result.andThen_ok,run_underlying ht,hp]
    simp only[hr,and_self,if_true,Sem.run_bind,zB1 hs,Result.andThen_ok,Sem.run_pure,zC1,Nat.add_assoc,Int.toNat_natCast]
  · rename_i n elem id off j ht hv hj
    split at hr
    case h_2 => cases hr
    rename_i size hs
    split at hr
    · cases hr
    rename_i hle
    simp only[Option.some.injEq] at hr
    subst hr
    have hlt : j < n := by simpa using hle
    obtain⟨k,hk⟩:=zDe hj hi
    rw[hv] at hx
    obtain⟨b,sh,sz,e,hp⟩:=zDm hx
    refine zAw H (.ptr _ _ b sh sz e) ?_
    have hr : (0 : Int) ≤ (j : Int) ∧ (j : Int) < (n : Int) := by omega
    simp only[Instr.indexAt,hk,asIntOf,Sem.run_bind,Sem.run_pure,Result.andThen_ok,run_underlying ht,hp,Instr.sureAddr]
    simp only[hr,and_self,if_true,Sem.run_bind,zB1 hs,Result.andThen_ok,Sem.run_pure,zC1,Nat.add_assoc,Int.toNat_natCast]
  · cases hr
theorem zUs {t:TypeId}{cs:List Value}{cs':Array Value}{off:Nat}{r:Value}(h:yC8 P t cs off=some r)(hc:VRL φ cs cs'.toList)(w:World):
  ∃ r',(part t cs' off).run P w=.ok r' w∧VR φ r r':=by
 unfold yC8 at h
 split at h
 ·rename_i hb
  split at h
  ·rename_i n hn
   split at h
   ·rename_i q hq
    cases h
    rw[zB8] at hq
    obtain⟨rfl,hle⟩:=zB3 hq
    refine⟨.agg (cs'.extract off (off+n)),?_,?_⟩
    ·simp[part,zC8 hb,zB1 hn]
    ·have:=(hc.drop off).take n
     have e:(cs'.extract off (off+n))=⟨(cs'.toList.drop off).take n⟩:=by
      apply Array.ext'
      simp[Array.toList_extract]
     rw[e];exact VR.agg_of this
   ·cases h
  ·cases h
 ·rename_i hb
  split at h
  ·rename_i v t' hv
   cases h
   rw[zB8] at hv
   have hd:=hc.drop off
   rw[hv] at hd
   obtain⟨v',t'',e,q,_⟩:=hd.head
   refine⟨v',?_,q⟩
   have:cs'[off]?=some v':=by
    rw[← Array.getElem?_toList,show cs'.toList[off]?=(cs'.toList.drop off)[0]? by rw[List.getElem?_drop];rfl,e];rfl
   simp[part,zC8 hb,this]
  ·cases h
 ·cases h
theorem zWn {t:TypeId} {x:Operand} {f:Nat} (h:zOz P t x f l s=some (v,s')) (H:HR φ s.h w0 w) (hx:VR φ (evalO l x) (ρ x)):
    Gives P w0 φ lo s' v ((do pure (.value (← Instr.field t (ρ x) f)) : Sem Next).run P w) := by
  unfold zOz ofV at h
  split at h
  case h_2 => cases h
  rename_i r hr
  simp only[Option.some.injEq,Prod.mk.injEq] at h
  obtain⟨rfl,rfl⟩:=h
  unfold yF0 typ at hr
  split at hr
  case h_2 => cases hr
  rename_i fs cs ht hv
  split at hr
  case h_2 => cases hr
  rename_i fd hfd
  rw[hv] at hx
  obtain⟨a',ha,q⟩:=zYd hx
  obtain⟨r',e,q'⟩:=zUs hr q w
  refine zAw H q' ?_
  simp[Instr.field,run_underlying ht,hfd,ha,asAgg,e]
theorem zWo {t:TypeId} {x i:Operand} (h:zO0 P t x i l s=some (v,s')) (H:HR φ s.h w0 w) (hx:VR φ (evalO l x) (ρ x)) (hi:VR φ (evalO l i) (ρ i)):
    Gives P w0 φ lo s' v ((do pure (.value (← Instr.index t (ρ x) (ρ i))) : Sem Next).run P w) := by
  unfold zO0 ofV at h
  split at h
  case h_2 => cases h
  rename_i r hr
  simp only[Option.some.injEq,Prod.mk.injEq] at h
  obtain⟨rfl,rfl⟩:=h
  unfold zQm typ at hr
  split at hr
  · rename_i n elem cs j ht hv hj
    split at hr
    case h_2 => cases hr
    rename_i size hs
    split at hr
    · cases hr
    rename_i hle
    have hlt : j < n := by simpa using hle
    obtain⟨k,hk⟩:=zDe hj hi
    rw[hv] at hx
    obtain⟨a',ha,q⟩:=zYd hx
    obtain⟨r',e,q'⟩:=zUs hr q w
    refine zAw H q' ?_
    have hr : (0 : Int) ≤ (j : Int) ∧ (j : Int) < (n : Int) := by omega
    simp only[Instr.index,hk,asIntOf,Sem.run_bind,Sem.run_pure,Result.andThen_ok,run_underlying ht,ha]
    simp only[hr,and_self,if_true,Sem.run_bind,zB1 hs,Result.andThen_ok,Int.toNat_natCast,e]
  · rename_i b j ht hv hj
    split at hr
    · rename_i x' t' hd
      cases hr
      rw[zB8] at hd
      obtain⟨k,hk⟩:=zDe hj hi
      rw[hv] at hx
      have hs:=zC7 hx
      have hd0 : (b.data.toList.map fun x => Value.int .u8 x.toNat)[j]? = some r := by
        rw [show (b.data.toList.map fun x => Value.int .u8 x.toNat)[j]? = ((b.data.toList.map fun x => Value.int .u8 x.toNat).drop j)[0]? by rw [List.getElem?_drop]; rfl, hd]; rfl
      rw[List.getElem?_map] at hd0
      obtain⟨y,hy,rfl⟩:=Option.map_eq_some_iff.1 hd0
      refine zAw H (.int _ _) ?_
      have hb:b[j]?=some y:=by
        rw[Array.getElem?_toList] at hy
        exact hy
      simp only[Instr.index,hk,asIntOf,Sem.run_bind,Sem.run_pure,Result.andThen_ok,run_underlying ht,hs]
      simp[hb]
    · cases hr
  · cases hr
end
end Go.Det
end
section
namespace Go.Det
variable {P:Program}
section
variable {w0 w:World} {φ:Ren} {l:zAz} {s s':St} {v:Value} {ρ:Operand→Value} {lo:Nat}
def OR (φ:Ren)(a b:Option Value):Prop:=match a,b with
 |none,none=>True
 |some v,some v'=>VR φ v v'
 |_,_=>False
theorem zLe {a a':Option Value}{d n:Nat}(h:bound a d=some n)(k:OR φ a a'):(a=none∧a'=none∧n=d)∨∃ q,a'=some (.int q (n:Int))∧∃ v,a=some v:=by
 cases a with
 |none=>cases a' with
  |none=>simp only[bound,Option.some.injEq] at h;exact .inl ⟨rfl,rfl,h.symm⟩
  |some v=>exact k.elim
 |some v=>cases a' with
  |none=>exact k.elim
  |some v'=>obtain⟨q,e⟩:=zDe (show zIb v=some n from h) k;exact .inr ⟨q,by rw[e],v,rfl⟩
theorem zBo {q:IntKind}{n y:Nat}(h:n≤y)(code:BoundsCode)(w:World):(Instr.sliceBound (.int q (n:Int)) y code).run P w=.ok n w:=by
 have:(0:Int)≤(n:Int)∧(n:Int)≤(y:Int):=by omega
 simp only[Instr.sliceBound,asIntOf,Sem.run_bind,Sem.run_pure,Result.andThen_ok,this,and_self,if_true,Int.toNat_natCast]
theorem zFy {lo hi mx lo' hi' mx':Option Value}{len cap cap':Nat}{r:Nat×Nat×Nat}(h:zHy lo hi mx len cap=some r)(hl:OR φ lo lo')(hh:OR φ hi hi')(hm:OR φ mx mx')(hc:cap≤cap')(is:Bool)(w:World):
  (Instr.sliceBounds is len cap' lo' hi' mx').run P w=.ok (r.1,r.2.1,if mx=none then cap' else r.2.2) w∧r.1≤r.2.1∧r.2.1≤cap∧r.2.1≤r.2.2∧r.2.2≤cap∧(mx=none→r.2.2=cap):=by
 unfold zHy at h
 split at h
 ·
  cases mx' with
  |some v=>exact hm.elim
  |none=>
  split at h
  ·rename_i l' h' e1 e2
   split at h
   ·rename_i hle
    simp only[Option.some.injEq] at h
    subst h
    simp only[Bool.and_eq_true,Nat.ble_eq] at hle
    refine⟨?_,hle.1,hle.2,hle.2,Nat.le_refl _,fun _=>rfl⟩
    rcases zLe e1 hl with⟨_,rfl,rfl⟩|⟨q1,rfl,_⟩<;>rcases zLe e2 hh with⟨_,rfl,rfl⟩|⟨q2,rfl,_⟩
    ·simp[Instr.sliceBounds]
    ·simp[Instr.sliceBounds,zBo (Nat.le_trans hle.2 hc)]
    ·simp[Instr.sliceBounds,zBo hle.1]
    ·simp[Instr.sliceBounds,zBo (Nat.le_trans hle.2 hc),zBo hle.1]
   ·cases h
  ·cases h
 ·rename_i mv
  cases mx' with
  |none=>exact hm.elim
  |some mv'=>
  split at h
  ·cases h
  ·rename_i hv
   cases hi' with
   |none=>exact hh.elim
   |some hv'=>
   split at h
   ·rename_i m h' l' e1 e2 e3
    split at h
    ·rename_i hle
     simp only[Option.some.injEq] at h
     subst h
     simp only[Bool.and_eq_true,Nat.ble_eq] at hle
     obtain⟨k1,k2,k3⟩:=hle
     obtain⟨q1,rfl⟩:=zDe e1 hm
     obtain⟨q2,rfl⟩:=zDe e2 hh
     refine⟨?_,k3,Nat.le_trans k2 k1,k2,k1,fun e=>by cases e⟩
     rcases zLe e3 hl with⟨_,rfl,rfl⟩|⟨q3,rfl,_⟩
     ·simp[Instr.sliceBounds,zBo (Nat.le_trans k1 hc),zBo k2]
     ·simp[Instr.sliceBounds,zBo (Nat.le_trans k1 hc),zBo k2,zBo k3]
    ·cases h
   ·cases h
theorem zKk:1099511627776 < zEo:=by unfold zEo;omega
theorem zFz {a a':Option Addr}{size:Nat}{r:Nat×Nat×Nat}{v:Value}(h:zD7 a size r=some v)(hr:r.2.2 < zEo)
  (ha:(a=none∧a'=none)∨∃ id off b sh sz,a=some ⟨id,off,none⟩∧φ id=some (b,sh,sz)∧a'=some ⟨b,sh+off,none⟩):
  VR φ v (.slice (if r.2.2=r.1 then a' else a'.map (·.add (r.1 * size))) (r.2.1 - r.1) (r.2.2 - r.1)):=by
 rcases ha with⟨rfl,rfl⟩|⟨id,off,b,sh,sz,rfl,e,rfl⟩
 ·simp only[zD7,Option.some.injEq] at h
  subst h
  simp only[Option.map_none,ite_self]
  exact .snil _ _ (by omega)
 ·simp only[zD7,Option.some.injEq] at h
  subst h
  by_cases q:r.2.2=r.1
  ·rw[if_pos q,if_pos (by rw[q];exact Nat.beq_refl _)]
   exact .slice _ _ _ _ _ _ _ e (by omega)
  ·rw[if_neg q,if_neg (by intro k;exact q (Nat.eq_of_beq_eq_true k)),Option.map_some,zC1,Nat.add_assoc]
   exact .slice _ _ _ _ _ _ _ e (by omega)
theorem zB0 {a:Option Addr}{n c:Nat}{v':Value}(h:VR φ (.slice a n c) v'):
  (c < zEo∧∃ a',v'=.slice a' n c∧((a=none∧a'=none)∨∃ id off b sh sz,a=some ⟨id,off,none⟩∧φ id=some (b,sh,sz)∧a'=some ⟨b,sh+off,none⟩))∨
  (∃ id off b sh sz es c',a=some ⟨id,off,none⟩∧c=zEo+es∧φ id=some (b,sh,sz)∧0 < es∧sh+off+c' * es=sz∧n≤c'∧v'=.slice (some ⟨b,sh+off,none⟩) n c'):=by
 generalize hV:Value.slice a n c=V at h
 cases h with
 |snil n' c' k=>cases hV;exact .inl ⟨k,none,rfl,.inl ⟨rfl,rfl⟩⟩
 |slice id off b sh sz n' c' e k=>cases hV;exact .inl ⟨k,_,rfl,.inr ⟨id,off,b,sh,sz,rfl,e,rfl⟩⟩
 |sliceU id off b sh sz n' c' es e p q r=>cases hV;exact .inr ⟨id,off,b,sh,sz,es,c',rfl,rfl,e,p,q,r,rfl⟩
 |_=>simp[und] at hV
theorem zWp {elem:TypeId}{x x':Value}{lo hi mx lo' hi' mx':Option Value}{v:Value}{t:TypeId}(h:zS0 P elem x lo hi mx=some v)(ht:P.underlying t=some (.slice elem))
  (hx:VR φ x x') (hl:OR φ lo lo') (hh:OR φ hi hi') (hm:OR φ mx mx') (w:World):∃ v',(Instr.sliceAt t x' lo' hi' mx').run P w=.ok v' w∧VR φ v v':=by
 unfold zS0 at h
 split at h
 case h_2=>cases h
 rename_i a n c
 split at h
 case h_2=>cases h
 rename_i size hs
 have hrun:∀ {a':Option Addr} {n c':Nat} {r:Nat×Nat×Nat},(Instr.sliceBounds true n c' lo' hi' mx').run P w=.ok r w→
   (Instr.sliceAt t (.slice a' n c') lo' hi' mx').run P w=.ok (.slice (if r.2.2=r.1 then a' else a'.map (·.add (r.1 * size))) (r.2.1 - r.1) (r.2.2 - r.1)) w:=by
  intro a' n c' r hr
  simp[Instr.sliceAt,Instr.slice,run_underlying ht,hr,zB1 hs]
 rcases zB0 hx with⟨hc,a',rfl,ha⟩|⟨id,off,b,sh,sz,es,c',rfl,rfl,e,p,q,r',rfl⟩
 ·rw[if_neg (by simp;exact hc)] at h
  split at h
  case h_2=>cases h
  rename_i r hr
  obtain⟨k1,k2,k3,k4,k5,k6⟩:=zFy (P:=P) hr hl hh hm (Nat.le_refl c) true w
  have k1':(Instr.sliceBounds true n c lo' hi' mx').run P w=.ok r w:=by
   rw[k1];congr 1
   by_cases q:mx=none
   ·rw[if_pos q,← k6 q]
   ·rw[if_neg q]
  exact⟨_,hrun k1',zFz h (by omega) ha⟩
 ·rw[if_pos (by simp)] at h
  split at h
  case isFalse=>cases h
  rename_i hc
  simp only[Bool.and_eq_true] at hc
  have hes:es=size:=by have:=Nat.eq_of_beq_eq_true hc.1;omega
  subst hes
  have hn:n≤1099511627776:=by simpa using hc.2
  split at h
  case h_2=>cases h
  rename_i r hr
  obtain⟨k1,k2,k3,k4,k5,k6⟩:=zFy (P:=P) hr hl hh hm r' true w
  split at h
  ·rename_i mv
   rw[if_neg (by simp)] at k1
   exact⟨_,hrun k1,zFz h (by have:=zKk;show r.2.2 < zEo;omega) (.inr ⟨_,_,_,_,_,rfl,e,rfl⟩)⟩
  ·rw[if_pos rfl] at k1
   split at h
   case isFalse=>
    simp only[Option.some.injEq] at h
    subst h
    rename_i hz
    have hz:¬ (r.1=0∨r.1 < n):=by
     intro q;apply hz
     simp only[Bool.or_eq_true,Nat.ble_eq]
     rcases q with q|q
     ·left;rw[q];rfl
     ·exact .inr q
    have h0:r.2.1 - r.1=0:=by omega
    refine⟨_,hrun k1,?_⟩
    simp only[h0]
    refine .emp _ _ fun x hx=>?_
    split at hx
    ·cases hx;rfl
    ·rw[Option.map_some,zC1] at hx;cases hx;rfl
   rename_i hz
   simp only[Option.some.injEq] at h
   subst h
   simp only[Bool.or_eq_true,Nat.ble_eq] at hz
   have hz:r.1=0∨r.1 < n:=by rcases hz with z|z;exact .inl (Nat.eq_of_beq_eq_true z);exact .inr z
   refine⟨_,hrun k1,?_⟩
   have ha:(if c'=r.1 then some (⟨b,sh+off,none⟩:Addr) else(some (⟨b,sh+off,none⟩:Addr)).map (·.add (r.1 * es)))=some ⟨b,sh+(off+r.1 * es),none⟩:=by
    rw[Option.map_some,zC1,Nat.add_assoc]
    by_cases k:c'=r.1
    ·rw[if_pos k]
     have:r.1=0:=by omega
     simp[this]
    ·rw[if_neg k]
   simp only[ha]
   have hle:r.1≤c':=by omega
   refine .sliceU _ _ _ _ _ _ _ _ e p ?_ (by omega)
   have:c' * es=r.1 * es+(c' - r.1) * es:=by rw[← Nat.add_mul];congr 1;omega
   omega
theorem zLf {n:Nat}{elem:TypeId}{x x':Value}{lo hi mx lo' hi' mx':Option Value}{v:Value}{t:TypeId}(h:zKg P n elem x lo hi mx=some v)
  (ht:P.underlying t=some (.array n elem)∨∃ arr,P.underlying t=some (.pointer arr)∧P.underlying arr=some (.array n elem))
  (hx:VR φ x x') (hl:OR φ lo lo') (hh:OR φ hi hi') (hm:OR φ mx mx') (w:World):∃ v',(Instr.sliceAt t x' lo' hi' mx').run P w=.ok v' w∧VR φ v v':=by
 unfold zKg at h
 split at h
 case h_2=>cases h
 rename_i a
 split at h
 ·cases h
 rename_i a
 split at h
 case h_2=>cases h
 rename_i size hs
 split at h
 case isFalse=>cases h
 rename_i hn
 have hn:n≤1099511627776:=by simpa using hn
 split at h
 case h_2=>cases h
 rename_i r hr
 obtain⟨k1,k2,k3,k4,k5,k6⟩:=zFy (P:=P) hr hl hh hm (Nat.le_refl n) false w
 have k1':(Instr.sliceBounds false n n lo' hi' mx').run P w=.ok r w:=by
  rw[k1];congr 1
  by_cases q:mx=none
  ·rw[if_pos q,← k6 q]
  ·rw[if_neg q]
 have:∃ id off b sh sz,a=⟨id,off,none⟩∧φ id=some (b,sh,sz)∧x'=.pointer (some ⟨b,sh+off,none⟩):=by
  cases hx with|ptr id off b sh sz e=>exact⟨id,off,b,sh,sz,rfl,e,rfl⟩
 obtain⟨id,off,b,sh,sz,rfl,e,rfl⟩:=this
 have hv:=zFz h (by have:=zKk;omega) (.inr ⟨id,off,b,sh,sz,rfl,e,rfl⟩)
 refine⟨_,?_,hv⟩
 have hm':(if r.2.2=r.1 then some (⟨b,sh+off,none⟩:Addr) else(some (⟨b,sh+off,none⟩:Addr)).map (·.add (r.1 * size)))=some (if r.2.2=r.1 then⟨b,sh+off,none⟩ else(⟨b,sh+off,none⟩:Addr).add (r.1 * size)):=by
  split<;>rfl
 rcases ht with ht|⟨arr,ht,ht2⟩
 ·simp only[Instr.sliceAt,Sem.run_bind,run_underlying ht,Result.andThen_ok,Instr.sureAddr,Sem.run_pure,k1',zB1 hs,hm']
 ·simp only[Instr.sliceAt,Instr.slice,Sem.run_bind,run_underlying ht,run_underlying ht2,Result.andThen_ok,asAddr,Sem.run_pure,k1',zB1 hs,hm']
theorem zS8 {x x':Value}{lo hi mx lo' hi' mx':Option Value}{v:Value}{t:TypeId}(h:zKf x lo hi mx=some v)(ht:P.underlying t=some .string)
  (hx:VR φ x x') (hl:OR φ lo lo') (hh:OR φ hi hi') (hm:OR φ mx mx') (w:World):∃ v',(Instr.sliceAt t x' lo' hi' mx').run P w=.ok v' w∧VR φ v v':=by
 unfold zKf at h
 split at h
 case h_2=>cases h
 rename_i b
 split at h
 case h_2=>cases h
 cases mx' with
 |some q=>exact hm.elim
 |none=>
 split at h
 case h_2=>cases h
 rename_i r hr
 simp only[Option.some.injEq] at h
 subst h
 obtain⟨k1,_⟩:=zFy (P:=P) hr hl hh (show OR φ none none from trivial) (Nat.le_refl _) false w
 refine⟨_,?_,.string _⟩
 simp[Instr.sliceAt,Instr.slice,run_underlying ht,zC7 hx,k1]
theorem zB4 {x:Option Operand} (h:∀ y,x=some y→VR φ (evalO l y) (ρ y)):OR φ (zC3 l x) (x.map ρ):=by
  cases x with
  | none => trivial
  | some y => exact h y rfl
theorem zWq {t:TypeId} {x:Operand} {lo' hi' mx':Option Operand} (h:zOy P t x lo' hi' mx' l s=some (v,s')) (H:HR φ s.h w0 w) (hx:VR φ (evalO l x) (ρ x))
    (hl:∀ y,lo'=some y→VR φ (evalO l y) (ρ y)) (hh:∀ y,hi'=some y→VR φ (evalO l y) (ρ y)) (hm:∀ y,mx'=some y→VR φ (evalO l y) (ρ y)):
    Gives P w0 φ lo s' v ((do pure (.value (← Instr.sliceAt t (ρ x) (lo'.map ρ) (hi'.map ρ) (mx'.map ρ))) : Sem Next).run P w) := by
  unfold zOy ofV at h
  split at h
  case h_2 => cases h
  rename_i r hr
  simp only[Option.some.injEq,Prod.mk.injEq] at h
  obtain⟨rfl,rfl⟩:=h
  have fin : ∀ {v' : Value}, (Instr.sliceAt t (ρ x) (lo'.map ρ) (hi'.map ρ) (mx'.map ρ)).run P w = .ok v' w → VR φ r v' → Gives P w0 φ lo s r ((do pure (.value (← Instr.sliceAt t (ρ x) (lo'.map ρ) (hi'.map ρ) (mx'.map ρ))) : Sem Next).run P w) := fun e q => zAw H q e
  unfold zUk typ at hr
  split at hr
  · rename_i ht; obtain ⟨v', e, q⟩ := zS8 hr ht hx (zB4 hl) (zB4 hh) (zB4 hm) w; exact fin e q
  · rename_i elem ht; obtain ⟨v', e, q⟩ := zWp hr ht hx (zB4 hl) (zB4 hh) (zB4 hm) w; exact fin e q
  · rename_i arr ht
    split at hr
    · rename_i n elem ht2; obtain ⟨v', e, q⟩ := zLf hr (.inr ⟨arr, ht, ht2⟩) hx (zB4 hl) (zB4 hh) (zB4 hm) w; exact fin e q
    · cases hr
  · rename_i n elem ht; obtain ⟨v', e, q⟩ := zLf hr (.inl ht) hx (zB4 hl) (zB4 hh) (zB4 hm) w; exact fin e q
  · cases hr
end
end Go.Det
end
section
namespace Go.Det
variable {P:Program}
section
variable {w0 w:World} {φ:Ren} {l:zAz} {s s':St} {v:Value} {ρ:Operand→Value} {lo:Nat}
theorem VRL.of_cells {φ:Ren}{v v':Value}(h:VR φ v v')(hne:v≠und):VRL φ (zA9 v) v'.cells.toList:=by
 cases h with
 |any=>exact absurd rfl hne
 |agg a a' e q=>exact⟨e,q⟩
 |_=>exact VRL.cons (by first|exact .skip|exact .bool _|exact .int _ _|exact .string _|exact .pnil|exact .mnil|exact .nilFunc|exact .nilIface|(constructor<;>assumption)) (VRL.nil φ)
theorem cell_at {w:World}{b:Nat}{c:Array Value}{e:TypeId}{fz:Nat×Nat}(hb:w.heap[b]?=some (.cells c e fz))(o:Nat)(h:o < c.size):w.cell? ⟨b,o,none⟩=some (c.getD o und):=by
 simp[World.cell?,hb,Array.getD,h]
theorem VRL.mk' {φ:Ren} {a b:List Value} (h:a.length=b.length) (k:∀ i,i < a.length→VR φ (a.getD i und) (b.getD i und)):VRL φ a b:=by
  refine ⟨h, fun i => ?_⟩
  by_cases q:i < a.length
  · exact k i q
  · rw [List.getD_eq_getElem?_getD, List.getD_eq_getElem?_getD, List.getElem?_eq_none (by omega), List.getElem?_eq_none (by omega)]; exact .any _
theorem zCv {id off n:Nat} {cs:List Value} {e:TypeId} {ro:Bool} {b sh sz:Nat} {c:Array Value} {fz:Nat×Nat} (k:CellsAt φ w0 w id cs e ro b sh sz c fz) (hn:off+n≤cs.length):
    ∃ r',(loadCells ⟨b,sh+off,none⟩ n).run P w=.ok r' w∧VRL φ ((cs.drop off).take n) r'.toList:=by
  have hs : ∀ j, j < n → sh + off + j < c.size := by intro j hj; rw [k.size]; have := k.fit; omega
  refine ⟨_, run_loadCells w ⟨b, sh + off, none⟩ n (fun j => c.getD (sh + off + j) und) (fun j hj => ?_), ?_⟩
  · rw [zC1, cell_at k.blk _ (hs j hj)]
  · refine VRL.mk' (by simp; omega) fun i hi => ?_
    have hi : i < n := by simp at hi; omega
    have := k.cell (off + i) (by omega)
    rw[← Nat.add_assoc] at this
    simp only[List.getD_eq_getElem?_getD,List.getElem?_take_of_lt hi,List.getElem?_drop]
    rw[List.getElem?_map,List.getElem?_range hi]
    simpa [List.getD_eq_getElem?_getD] using this
theorem zYh {t:TypeId} {a:Operand} (h:zQt P t a l s=some (v,s')) (H:HR φ s.h w0 w) (hx:VR φ (evalO l a) (ρ a)):
    Gives P w0 φ lo s' v ((do pure (.value (← Instr.loadAt t (ρ a))) : Sem Next).run P w) ∧ s'.next = s.next := by
  unfold zQt zDw at h
  split at h
  case h_2 => cases h
  rename_i id off hv
  split at h
  case h_2 => cases h
  rename_i cs e ro hg
  rw[hv] at hx
  obtain⟨b,sh,sz,e1,hp⟩:=zDm hx
  obtain⟨b',sh',sz',c,fz,k⟩:=H.cells _ _ _ _ hg
  have:=k.at_;rw[e1] at this;cases this
  split at h
  · rename_i hb
    split at h
    case h_2 => cases h
    rename_i n hn
    split at h
    case h_2 => cases h
    rename_i r hr
    simp only[Option.some.injEq,Prod.mk.injEq] at h
    obtain⟨rfl,rfl⟩:=h
    rw[zB8] at hr
    obtain⟨rfl,hle⟩:=zB3 hr
    by_cases h0:n=0
    · subst h0
      refine⟨zAw (s:=s.read id) H (v':=.agg #[]) ?_ ?_,rfl⟩
      · rw [List.take_zero]; exact VR.agg_of (VRL.nil φ)
      · simp [Instr.loadAt, hp, Instr.sureAddr, loadVar, zC8 hb, zB1 hn, loadCells, loadCellsFrom]
    · obtain ⟨r', hrun, hrel⟩ := zCv (P := P) (n := n) (off := off) k (by simp at hle; omega)
      obtain⟨r'⟩:=r'
      refine⟨zAw (s:=s.read id) H (VR.agg_of hrel) ?_,rfl⟩
      simp[Instr.loadAt,hp,Instr.sureAddr,loadVar,zC8 hb,zB1 hn,hrun]
  · rename_i hb
    split at h
    case h_2 => cases h
    rename_i v1 t1 hd
    simp only[Option.some.injEq,Prod.mk.injEq] at h
    obtain⟨rfl,rfl⟩:=h
    rw[zB8] at hd
    have hlt:off < cs.length:=by
      rcases Nat.lt_or_ge off cs.length with q | q
      · exact q
      · rw [List.drop_eq_nil_of_le q] at hd; cases hd
    have hv1:cs.getD off und=v1:=by
      rw [List.getD_eq_getElem?_getD, show cs[off]? = (cs.drop off)[0]? by rw [List.getElem?_drop]; rfl, hd]; rfl
    have hc:=k.cell off hlt
    rw[hv1] at hc
    refine⟨zAw (s:=s.read id) H hc ?_,rfl⟩
    have hcell := cell_at k.blk (sh + off) (by rw [k.size]; have := k.fit; omega)
    simp[Instr.loadAt,hp,Instr.sureAddr,loadVar,zC8 hb,hcell]
  · cases h
theorem yDd {cs:List Value}{cs':Array Value}{E e:TypeId}(hE:E / 2=e)(H:HR φ s.h w0 w)(hn:φ s.next=none)(hc:VRL φ cs cs'.toList):
  HR (upd φ s.next (w.heap.size,0,cs'.size)) (s.new (.cells cs E false)).h w0 { w with heap:=w.heap.push (.cells cs' e) }:=by
 refine H.adopt (w':={ w with heap:=w.heap.push (.cells cs' e) }) hn rfl rfl rfl (by simp) (fun k hk hk2=>?_) H.size (fz:=(0,0)) (c:=cs') ?_ (fun _=>rfl) ?_ rfl ?_ (fun i hi=>?_) (fun _ o _=>by simp) (fun O q=>by rw[Array.getElem?_eq_none (Nat.le_refl _)] at q;cases q)
 ·show(w.heap.push _)[k]?=w.heap[k]?
  rw[Array.getElem?_push,if_neg (by omega)]
 ·show(w.heap.push _)[w.heap.size]?=_
  rw[Array.getElem?_push,if_pos rfl,hE]
 ·intro j cj ej rj bj sj zj g a
  have:=H.dom _ _ _ _ a
  omega
 ·have:=hc.1;simp at this;omega
 ·have:=hc.2 i
  rw[Nat.zero_add]
  simpa [List.getD_eq_getElem?_getD,Array.getD_eq_getD_getElem?] using this
theorem zDn {e:TypeId}{z:Value}(h:zCx P e=some z)(φ:Ren):VRL φ (zA9 z) z.cells.toList:=by
 have hf:=zLd h
 refine VRL.of_cells (zD9 hf φ) ?_
 rintro rfl
 simp[und,zGg,zGk] at hf
theorem zIn {cs:List Value}{cs':Array Value}{E e:TypeId}{m:Sem Value}{f:Addr→Value}(hE:E / 2=e)(H:HR φ s.h w0 w)(hn:φ s.next=none)(hc:VRL φ cs cs'.toList)
  (hm:m.run P w=.ok (f ⟨w.heap.size,0,none⟩) { w with heap:=w.heap.push (.cells cs' e) })
  (hv:VR (upd φ s.next (w.heap.size,0,cs'.size)) v (f ⟨w.heap.size,0,none⟩)):
  Gives P w0 φ s.next (s.new (.cells cs E false)) v ((do pure (.value (← m)):Sem Next).run P w):=by
 rw[Sem.run_bind,hm]
 exact⟨_,Ext.upd hn _,hv,yDd hE H hn hc⟩
theorem zWr {e:TypeId}(h:zK4 P e l s=some (v,s'))(H:HR φ s.h w0 w)(hf:∀ id,s.next≤id→id < s'.next→φ id=none):
  Gives P w0 φ s.next s' v ((do pure (.value (← Instr.alloc e true (.tuple #[]))):Sem Next).run P w):=by
 unfold zK4 at h
 split at h
 case h_2=>cases h
 rename_i z hz
 simp only[Option.some.injEq,Prod.mk.injEq] at h
 obtain⟨rfl,rfl⟩:=h
 have hn:φ s.next=none:=hf _ (Nat.le_refl _) (Nat.lt_succ_self _)
 refine zIn (E:=2 * e+1) (e:=e) (f:=fun a=>.pointer (some a)) (zYa e) H hn (zDn hz φ) ?_ (.ptr _ _ w.heap.size 0 _ (zBe _ _ _))
 simp[Instr.alloc,zCl hz,newVar,newRow]
theorem yDe {e:TypeId} {x:Operand} (h:zWf e x l s=some (v,s')) (H:HR φ s.h w0 w) (hf:∀ id,s.next≤id→id < s'.next→φ id=none) (hx:VR φ (evalO l x) (ρ x)):
    Gives P w0 φ s.next s' v ((do pure (.value (← Instr.box e (ρ x))) : Sem Next).run P w) := by
  unfold zWf at h
  split at h
  case isFalse => cases h
  rename_i hu
  simp only[Option.some.injEq,Prod.mk.injEq] at h
  obtain⟨rfl,rfl⟩:=h
  have hn:φ s.next=none:=hf _ (Nat.le_refl _) (Nat.lt_succ_self _)
  refine zIn (E := 2 * e + 1) (e := e) (f := fun a => .pointer (some a)) (zYa e) H hn (VRL.of_cells hx ?_) ?_ (.ptr _ _ w.heap.size 0 _ (zBe _ _ _))
  · intro q; rw [q] at hu; simp [zV9, und] at hu
  · simp [Instr.box, newVar, newRow]
end
end Go.Det
end
section
namespace Go.Det
variable {P:Program}
section
variable {w0 w:World} {φ:Ren} {l:zAz} {s s':St} {v:Value} {ρ:Operand→Value} {lo:Nat}
theorem zLg {t:TypeId}{n:Nat}(h:zGi P t=some n):∃ i,P.info? t=some i∧i.size=n:=by
 unfold zGi at h
 split at h
 ·rename_i i hi;cases h;exact⟨i,hi,rfl⟩
 ·cases h
theorem zLh:∀ {fs:List Field} {r:List (Nat×Nat)},zKz P fs=some r→fs.mapM (fun f=>(P.info? f.type).map fun i=>(f.offset,i.size))=some r
 |[],r,h=>by simp only[zKz,Option.some.injEq] at h;subst h;rfl
 |f::t,r,h=>by
  unfold zKz at h
  split at h
  ·rename_i n r' hn hr
   cases h
   obtain⟨i,hi,rfl⟩:=zLg hn
   simp[List.mapM_cons,hi,zLh hr]
  ·cases h
theorem yDf {v:Value}(h:zV9 v=false):v≠und:=by rintro rfl;simp[zV9,und] at h
theorem zQ9 (off:Nat):∀ (ws:List Value) (k:Nat) (cells:Array Value),off+k+ws.length≤cells.size→
  ((ws.zipIdx k).foldl (fun cs (x:Value×Nat)=>cs.setIfInBounds (off+x.2) x.1) cells).size=cells.size∧
  ∀ i,((ws.zipIdx k).foldl (fun cs (x:Value×Nat)=>cs.setIfInBounds (off+x.2) x.1) cells).getD i und=if off+k≤i∧i < off+k+ws.length then ws.getD (i - (off+k)) und else cells.getD i und
 |[],k,cells,_=>⟨rfl,fun i=>by rw[if_neg (by simp only[List.length_nil];omega)];rfl⟩
 |x::ws,k,cells,h=>by
  simp only[List.length_cons] at h
  obtain⟨h1,h2⟩:=zQ9 off ws (k+1) (cells.setIfInBounds (off+k) x) (by simp;omega)
  refine⟨by simpa using h1,fun i=>?_⟩
  rw[List.zipIdx_cons,List.foldl_cons,h2 i]
  by_cases q:off+(k+1)≤i∧i < off+(k+1)+ws.length
  ·rw[if_pos q,if_pos (by simp;omega),show i - (off+k)=i - (off+(k+1))+1 by omega];rfl
  ·rw[if_neg q]
   by_cases q2:i=off+k
   ·subst q2
    rw[if_pos (by simp),Nat.sub_self]
    simp[Array.getD,show off+k < cells.size by omega]
   ·rw[if_neg (by simp;omega)]
    simp[Array.getD_eq_getD_getElem?,Array.getElem?_setIfInBounds_ne (Ne.symm q2)]
theorem zO8 {place:Nat→Option (Nat×Nat)}:∀ {parts:List (Nat×Value)} {parts':List (Nat×Value)} {cells r:List Value} {cells':Array Value},zQn place cells parts=some r→
    parts.map (·.1)=parts'.map (·.1)→VRL φ (parts.map (·.2)) (parts'.map (·.2))→VRL φ cells cells'.toList→∃ r',Instr.fill place cells' parts'=some r'∧VRL φ r r'.toList
  | [], parts', cells, r, cells', h, h1, _, h3 => by
    simp only[zQn,Option.some.injEq] at h
    subst h
    have : parts' = [] := by simpa using h1.symm
    subst this
    exact⟨cells',rfl,h3⟩
  | (i, v) :: rest, parts', cells, r, cells', h, h1, h2, h3 => by
    cases parts' with
    | nil => simp at h1
    | cons p rest' =>
    obtain⟨i',v'⟩:=p
    simp only[List.map_cons,List.cons.injEq] at h1
    obtain⟨rfl,h1⟩:=h1
    obtain⟨_,_,e,hv,ht⟩:=h2.head
    simp only[List.map_cons,List.cons.injEq] at e
    obtain⟨rfl,rfl⟩:=e
    unfold zQn at h
    split at h
    · cases h
    · rename_i off size hp
      split at h
      · rename_i hc
        simp only[Bool.and_eq_true,Bool.not_eq_true'] at hc
        have hsz:=Nat.eq_of_beq_eq_true hc.1
        have hcv:=VRL.of_cells hv (yDf hc.2)
        split at h
        · rename_i c hl
          obtain⟨_,hle⟩:=zGq hl
          have hlen : v'.cells.size = size := by have := hcv.1; simp at this; omega
          have hcl : cells.length = cells'.size := by have := h3.1; simpa using this
          obtain ⟨p1, p2⟩ := zQ9 off v'.cells.toList 0 cells' (by simp; omega)
          have hfold : (v'.cells.zipIdx.foldl (fun cs (x : Value × Nat) => cs.setIfInBounds (off + x.2) x.1) cells') = ((v'.cells.toList.zipIdx 0).foldl (fun cs (x : Value × Nat) => cs.setIfInBounds (off + x.2) x.1) cells') := by
            rw[← Array.foldl_toList];simp
          have hrel : VRL φ c ((v'.cells.toList.zipIdx 0).foldl (fun cs (x : Value × Nat) => cs.setIfInBounds (off + x.2) x.1) cells').toList := by
            refine VRL.mk' ((zH2 hl).trans (hcl.trans (p1.symm.trans Array.length_toList.symm))) fun j hj => ?_
            have e1:=zQy hl j
            have e2:=p2 j
            rw[e1]
            rw [show ((v'.cells.toList.zipIdx 0).foldl (fun cs (x : Value × Nat) => cs.setIfInBounds (off + x.2) x.1) cells').toList.getD j und = ((v'.cells.toList.zipIdx 0).foldl (fun cs (x : Value × Nat) => cs.setIfInBounds (off + x.2) x.1) cells').getD j und by
              simp[List.getD_eq_getElem?_getD,Array.getD_eq_getD_getElem?],e2]
            by_cases q:off≤j∧j < off+(zA9 v).length
            · rw [if_pos q, if_pos (by simp; omega)]
              exact hcv.2 _
            · rw [if_neg q, if_neg (by simp; omega)]
              have:=h3.2 j
              simpa [List.getD_eq_getElem?_getD,Array.getD_eq_getD_getElem?] using this
          obtain⟨r',hr',q⟩:=zO8 h h1 ht hrel
          refine⟨r',?_,q⟩
          simp only[Instr.fill,hp]
          rw [if_neg (by simp; omega)]
          rw[← hr',← hfold]
        · cases h
      · cases h
theorem zYi {α:Type}:∀ (l:List α) (i:Nat),nth l i=l[i]?
 |[],_=>rfl
 |_::_,0=>rfl
 |_::t,i+1=>by rw[nth,zYi t i];rfl
theorem zUt {parts:Array (Nat×Operand)} (h:∀ x∈parts.toList,VR φ (evalO l x.2) (ρ x.2)):
    (zFf l parts.toList).map (·.1) = ((parts.map fun (i, x) => (i, ρ x)).toList).map (·.1) ∧ VRL φ ((zFf l parts.toList).map (·.2)) (((parts.map fun (i, x) => (i, ρ x)).toList).map (·.2)) := by
  obtain⟨h1,h2⟩:=zYg h
  rw[Array.toList_map,List.map_map,List.map_map]
  exact⟨h1,h2⟩
theorem zWs {t:TypeId} {parts:Array (Nat×Operand)} (h:zOx P t parts l s=some (v,s')) (H:HR φ s.h w0 w) (hx:∀ x∈parts.toList,VR φ (evalO l x.2) (ρ x.2)):
    Gives P w0 φ lo s' v ((do pure (.value (← Instr.build t (parts.map fun (i, x) => (i, ρ x)))) : Sem Next).run P w) := by
  unfold zOx ofV at h
  split at h
  case h_2 => cases h
  rename_i r hr
  simp only[Option.some.injEq,Prod.mk.injEq] at h
  obtain⟨rfl,rfl⟩:=h
  obtain⟨p1,p2⟩:=zUt (φ:=φ) hx
  unfold yF1 typ at hr
  split at hr
  case h_2 => cases hr
  rename_i z hz
  obtain⟨it,hit,hz0,hzs,hzf⟩:=zC6 hz
  split at hr
  · rename_i fs ht
    split at hr
    case h_2 => cases hr
    rename_i pl hpl
    split at hr
    case h_2 => cases hr
    rename_i cs hcs
    simp only[Option.some.injEq] at hr
    subst hr
    have hcs:zQn (pl.toArray[·]?) (zA9 z) (zFf l parts.toList)=some cs:=by
      have : nth pl = (pl.toArray[·]?) := by funext i; rw [zYi]; simp
      rw[← this];exact hcs
    obtain⟨r',e,q⟩:=zO8 hcs p1 p2 (zDn hz φ)
    obtain⟨r'⟩:=r'
    refine zAw H (VR.agg_of q) (run_build w t _ _ ?_)
    simp only[Program.built,hit,ht,hz0,zLh hpl]
    exact e
  · rename_i n elem ht
    split at hr
    case h_2 => cases hr
    rename_i size hs
    split at hr
    case h_2 => cases hr
    rename_i cs hcs
    simp only[Option.some.injEq] at hr
    subst hr
    obtain⟨ie,hie,rfl⟩:=zLg hs
    obtain⟨r',e,q⟩:=zO8 hcs p1 p2 (zDn hz φ)
    obtain⟨r'⟩:=r'
    refine zAw H (VR.agg_of q) (run_build w t _ _ ?_)
    simp only[Program.built,hit,ht,hz0,hie]
    exact e
  · cases hr
theorem zC0 (z:List Value):∀ n,(zCb z n).length=n * z.length
 |0=>by simp[zCb]
 |n+1=>by rw[zCb,List.length_append,zC0 z n,Nat.add_mul];omega
theorem zJ0 (z:List Value):∀ n i,i < n * z.length→(zCb z n).getD i und=z.getD (i % z.length) und
 |0,i,h=>by simp at h
 |n+1,i,h=>by
  rw[zCb,List.getD_eq_getElem?_getD]
  by_cases q:i < z.length
  ·rw[List.getElem?_append_left q,Nat.mod_eq_of_lt q,List.getD_eq_getElem?_getD]
  ·have q:z.length≤i:=by omega
   rw[List.getElem?_append_right q,← List.getD_eq_getElem?_getD,zJ0 z n (i - z.length) (by rw[Nat.add_mul] at h;omega),Nat.mod_eq_sub_mod q]
theorem zKl {e:TypeId} {z:Value} {ie:TypeInfo} (hz:zCx P e=some z) (hie:P.info? e=some ie) (φ:Ren) (n:Nat):
    VRL φ (zCb (zA9 z) n) ((Array.range (n * ie.size)).map (z.cells[· % z.cells.size]!)).toList := by
  obtain⟨ie',h1,h2,h3,h4⟩:=zC6 hz
  rw[hie] at h1;cases h1
  have hc:=zDn hz φ
  have hlen : z.cells.size = ie.size := by have := hc.1; simp at this; omega
  refine VRL.mk' (by rw [zC0, h3]; simp) fun i hi => ?_
  rw[zC0] at hi
  rw[zJ0 _ _ _ hi]
  have hpos:0 < ie.size:=by
    rcases Nat.eq_zero_or_pos ie.size with q | q
    · rw [h3, q] at hi; simp at hi
    · exact q
  have hm:i % ie.size < ie.size:=Nat.mod_lt _ hpos
  have:=hc.2 (i % (zA9 z).length)
  rw[h3] at this ⊢
  rw[h3] at hi
  have e1 : (((Array.range (n * ie.size)).map (z.cells[· % z.cells.size]!)).toList).getD i und = z.cells.toList.getD (i % ie.size) und := by
    rw[List.getD_eq_getElem?_getD,Array.getElem?_toList,Array.getElem?_map,Array.getElem?_range,if_pos hi]
    simp[hlen,List.getD_eq_getElem?_getD,hm]
  rw[e1];exact this
theorem zLi {t:TypeId} {n:Nat} {parts:Array (Nat×Operand)} (h:zCq P t n parts l s=some (v,s')) (H:HR φ s.h w0 w) (hf:∀ id,s.next≤id→id < s'.next→φ id=none)
    (hx:∀ x∈parts.toList,VR φ (evalO l x.2) (ρ x.2)):
    Gives P w0 φ s.next s' v ((do pure (.value (← Instr.buildSlice t n (parts.map fun (i, x) => (i, ρ x)))) : Sem Next).run P w) := by
  unfold zCq zFp typ at h
  split at h
  case h_2 => cases h
  rename_i elem ht
  split at h
  case h_2 => cases h
  rename_i size z hs hz
  split at h
  case isFalse => cases h
  rename_i hb
  simp only[Bool.and_eq_true,Nat.ble_eq] at hb
  split at h
  case h_2 => cases h
  rename_i cs hcs
  simp only[Option.some.injEq,Prod.mk.injEq] at h
  obtain⟨rfl,rfl⟩:=h
  have hn:φ s.next=none:=hf _ (Nat.le_refl _) (Nat.lt_succ_self _)
  obtain⟨p1,p2⟩:=zUt (φ:=φ) hx
  obtain⟨ie,hie,rfl⟩:=zLg hs
  obtain⟨r',e,q⟩:=zO8 hcs p1 p2 (zKl hz hie φ n)
  obtain⟨ie',h1,h2,h3,h4⟩:=zC6 hz
  rw[hie] at h1;cases h1
  have hcap:n < zEo:=by
    have:=zKk
    have:n≤n * ie.size:=Nat.le_mul_of_pos_right _ hb.2
    omega
  refine zIn (E := 2 * elem + 1) (e := elem) (f := fun a => .slice (some a) n n) (zYa elem) H hn q ?_ (.slice _ _ w.heap.size 0 _ _ _ (zBe _ _ _) hcap)
  have hsmall : ¬ n * ie.size > 2 ^ 24 := by omega
  by_cases h0:n * ie.size=0
  · have hzero : (Array.range (n * ie.size)).map (z.cells[· % z.cells.size]!) = (#[] : Array Value) := by rw [h0]; simp
    rw[hzero] at e
    have e2 : ∀ zz : Array Value, (Array.range (n * ie.size)).map (zz[· % zz.size]!) = (#[] : Array Value) := by intro zz; rw [h0]; simp
    simp only[Instr.buildSlice,Sem.run_bind,run_underlying ht,Result.andThen_ok,zB1 hs,Sem.run_ite,if_neg hsmall,if_pos h0,Sem.run_pure,e2,e,newRow,run_newObj]
  · simp only [Instr.buildSlice, Sem.run_bind, run_underlying ht, Result.andThen_ok, zB1 hs, Sem.run_ite, if_neg hsmall, if_neg h0, Sem.run_pure, zCl hz, e, newRow, run_newObj]
theorem zM8 {t:TypeId}{n c:Operand}(h:zC4 P t n c l s=some (v,s'))(H:HR φ s.h w0 w)(hf:∀ id,s.next≤id→id < s'.next→φ id=none)
  (hn':VR φ (evalO l n) (ρ n)) (hc':VR φ (evalO l c) (ρ c)):
  Gives P w0 φ s.next s' v ((do pure (.value (← Instr.makeSlice t (ρ n) (ρ c))):Sem Next).run P w):=by
 unfold zC4 zG9 typ at h
 split at h
 case h_2=>cases h
 rename_i elem k m ht hk hm
 split at h
 case h_2=>cases h
 rename_i ei hei
 split at h
 case h_2=>cases h
 rename_i z hz
 split at h
 case isFalse=>cases h
 rename_i hb
 simp only[Bool.and_eq_true,Nat.ble_eq] at hb
 simp only[Option.some.injEq,Prod.mk.injEq] at h
 obtain⟨rfl,rfl⟩:=h
 have hn:φ s.next=none:=hf _ (Nat.le_refl _) (Nat.lt_succ_self _)
 obtain⟨q1,e1⟩:=zDe hk hn'
 obtain⟨q2,e2⟩:=zDe hm hc'
 have hcap:m < zEo:=by have:=zKk;omega
 refine zIn (E:=2 * elem+1) (e:=elem) (f:=fun a=>.slice (some a) k m) (zYa elem) H hn (zKl hz hei φ m) ?_ (.slice _ _ w.heap.size 0 _ _ _ (zBe _ _ _) hcap)
 have w1:IntKind.i64.wrap (k:Int)=(k:Int):=by unfold IntKind.wrap;simp[IntKind.signed,IntKind.bits];omega
 have w2:IntKind.i64.wrap (m:Int)=(m:Int):=by unfold IntKind.wrap;simp[IntKind.signed,IntKind.bits];omega
 have hb2:(ei.bytes:Int) * (m:Int)≤1099511627776:=by
  have h:=hb.2
  rw[Nat.mul_comm] at h
  have:((ei.bytes * m:Nat):Int)≤1099511627776:=by omega
  simpa using this
 have c1:¬ ((m:Int) < 0||(ei.bytes:Int) * (m:Int) > 2 ^ 48)=true:=by simp;omega
 simp only[Instr.makeSlice,Sem.run_bind,run_underlying ht,Result.andThen_ok,e1,e2,asInt,asIntOf,Sem.run_pure,typeInfo,run_program,hei,w1,w2]
 have hsz:(sizeOf elem).run P w=.ok ei.size w:=by simp[sizeOf,typeInfo,hei]
 rw[if_neg (by simp;omega)]
 simp only[Sem.run_bind,run_askRoom,Result.andThen_ok,hsz,Int.toNat_natCast,Sem.run_ite,Sem.run_pure,zCl hz,newRow,run_newObj]
 by_cases h0:m * ei.size=0
 ·have e2:∀ f:Nat→Value,(Array.range 0).map f=#[]:=by intro f;simp
  rw[if_pos h0,h0];simp only[e2]
 ·rw[if_neg h0]
theorem zWt {φ:Ren}{v v':Value}(h:yPa v=true)(k:VR φ v v'):v'.oneCell'=true:=by
 cases k<;>first|rfl|(simp[yPa,und] at h;done)
theorem zYj {φ:Ren}{ws ws':List Value}(h:zV8 ws=true)(k:VRL φ ws ws'):∀ v∈ws',v.oneCell'=true:=by
 induction ws generalizing ws' with
 |nil=>rw[k.of_nil];intro v hv;cases hv
 |cons x t ih=>
  obtain⟨x',t',rfl,hx,ht⟩:=k.head
  simp only[zV8,Bool.and_eq_true] at h
  intro v hv
  cases hv with
  |head=>exact zWt h.1 hx
  |tail _ q=>exact ih h.2 ht v q
theorem zF0 (b:Nat)(e:TypeId)(fz:Nat×Nat):∀ (vs:List Value) (o:Nat) (c:Array Value) (w:World),w.heap[b]?=some (.cells c e fz)→o+vs.length≤c.size→
  ∃ c',(w.setCells b o vs).heap[b]?=some (.cells c' e fz)∧c'.size=c.size∧(∀ i,c'.getD i und=if o≤i∧i < o+vs.length then vs.getD (i - o) und else c.getD i und)∧
   (∀ k,k≠b→(w.setCells b o vs).heap[k]?=w.heap[k]?)∧(w.setCells b o vs).heap.size=w.heap.size∧(w.setCells b o vs).os=w.os∧(w.setCells b o vs).output=w.output∧(w.setCells b o vs).tape=w.tape
 |[],o,c,w,h,_=>⟨c,h,rfl,fun i=>by rw[if_neg (by simp only[List.length_nil];omega)],fun _ _=>rfl,rfl,rfl,rfl,rfl⟩
 |v::vs,o,c,w,h,hl=>by
  simp only[List.length_cons] at hl
  have h1:(w.setCell ⟨b,o,none⟩ v).heap[b]?=some (.cells (c.setIfInBounds o v) e fz):=by
   simp[World.setCell,Array.getElem?_modify,h]
  obtain⟨c',q1,q2,q3,q4,q5,q6,q7,q8⟩:=zF0 b e fz vs (o+1) _ _ h1 (by simp;omega)
  refine⟨c',q1,by simpa using q2,fun i=>?_,fun k hk=>?_,?_,q6,q7,q8⟩
  ·rw[q3 i]
   by_cases p:o+1≤i∧i < o+1+vs.length
   ·rw[if_pos p,if_pos (by simp only[List.length_cons];omega),show i - o=i - (o+1)+1 by omega];rfl
   ·rw[if_neg p]
    by_cases p2:i=o
    ·subst p2
     rw[if_pos (by simp only[List.length_cons];omega),Nat.sub_self]
     simp[Array.getD,show i < c.size by omega]
    ·rw[if_neg (by simp only[List.length_cons];omega)]
     simp[Array.getD_eq_getD_getElem?,Array.getElem?_setIfInBounds_ne (Ne.symm p2)]
  ·exact(q4 k hk).trans (by simp[World.setCell,Array.getElem?_modify,Ne.symm hk])
  ·exact q5.trans (by simp[World.setCell])
theorem zD6 {id off b sh sz:Nat}{cs cs' ws ws':List Value}{e:TypeId}{c:Array Value}{fz:Nat×Nat}(H:HR φ s.h w0 w)(hg:s.h.get id=some (.cells cs e false))(k:CellsAt φ w0 w id cs e false b sh sz c fz)
  (hp:zUj cs off ws=some cs') (ho:zV8 ws=true) (hw:VRL φ ws ws'):
  (storeCells ⟨b,sh+off,none⟩ ws').run P w=.ok () (w.setCells b (sh+off) ws')∧HR φ (s.write id (.cells cs' e false)).h w0 (w.setCells b (sh+off) ws'):=by
 obtain⟨_,hle⟩:=zGq hp
 have hl:=hw.1
 have hfit:=k.fit
 have hsz:=k.size
 obtain⟨hmine,hfz⟩:=k.mine rfl
 refine⟨?_,?_⟩
 ·have:=run_storeCells_cells (P:=P) b (sh+off) ws' 0 w (fun j hj=>?_) (fun j hj=>?_) (zYj ho hw)
  ·simpa using this
  ·rw[cell_at k.blk _ (by omega)];rfl
  ·simp only[World.frozen?,k.blk]
   have:=hfz (sh+off+0+j) (by omega)
   simpa using this
 ·obtain⟨c',q1,q2,q3,q4,q5,q6,q7,q8⟩:=zF0 b (e / 2) fz ws' (sh+off) c w k.blk (by omega)
  refine H.turn hg k.at_ q6 q7 q8 q5 q4 hmine q1 k.exact_ (q2.trans hsz) (by rw[zH2 hp];exact hfit) (fun i hi=>?_) (fun _=>hfz)
  rw[zH2 hp] at hi
  rw[zQy hp,q3]
  by_cases p:off≤i∧i < off+ws.length
  ·rw[if_pos p,if_pos (by omega),show sh+i - (sh+off)=i - off by omega];exact hw.2 _
  ·rw[if_neg p,if_neg (by omega)];exact k.cell i hi
theorem zWu {t:TypeId} {a x:Operand} (h:zGo P t a x l s=some (v,s')) (H:HR φ s.h w0 w) (ha:VR φ (evalO l a) (ρ a)) (hx:VR φ (evalO l x) (ρ x)):
    Gives P w0 φ lo s' v ((do Instr.storeAt t (ρ a) (ρ x); pure .skip : Sem Next).run P w) := by
  unfold zGo at h
  split at h
  case h_2 => cases h
  rename_i s1 hs1
  simp only[Option.some.injEq,Prod.mk.injEq] at h
  obtain⟨rfl,rfl⟩:=h
  unfold zNg at hs1
  split at hs1
  case h_2 => cases hs1
  rename_i id off hv
  split at hs1
  case h_2 => cases hs1
  rename_i cs e hg
  split at hs1
  case h_2 => cases hs1
  rename_i n hn
  simp only at hs1
  split at hs1
  case isFalse => cases hs1
  rename_i hc
  simp only[Bool.and_eq_true] at hc
  split at hs1
  case h_2 => cases hs1
  rename_i cs' hp
  simp only[Option.some.injEq] at hs1
  subst hs1
  rw[hv] at ha
  obtain⟨b,sh,sz,e1,hpt⟩:=zDm ha
  obtain⟨b',sh',sz',c,fz,k⟩:=H.cells _ _ _ _ hg
  have:=k.at_;rw[e1] at this;cases this
  have hne:evalO l x≠und:=by
    intro q
    rw[q] at hc
    simp[zA9,und,zV8,yPa] at hc
  have hw:=VRL.of_cells hx hne
  obtain⟨q1,q2⟩:=zD6 (P:=P) H hg k hp hc.2 hw
  have hlen : (ρ x).cells.size = n := by have := hw.1; have := Nat.eq_of_beq_eq_true hc.1; simp at *; omega
  have hrun:(Instr.storeAt t (ρ a) (ρ x)).run P w=.ok () (w.setCells b (sh+off) (ρ x).cells.toList):=by
    simp only[Instr.storeAt,hpt,Instr.sureAddr,Sem.run_bind,Sem.run_pure,Result.andThen_ok,storeVar,zB1 hn,Sem.run_ite,hlen,ne_eq,not_true_eq_false,if_false,q1]
  rw[Sem.run_bind,hrun]
  exact⟨φ,Ext.refl _ _ _,.any _,q2⟩
end
end Go.Det
end
section
namespace Go.Det
variable {P:Program}
section
variable {w0 w:World} {φ:Ren} {l:zAz} {s s':St} {v:Value} {ρ:Operand→Value} {lo:Nat}
theorem zO9 {x x':Value}{m:Nat}(h:yFz x=some m)(hx:VR φ x x')(w:World):(Builtin.lenOf x').run P w=.ok m w:=by
 unfold yFz at h
 split at h
 ·cases h;obtain⟨a,c,rfl⟩:=zLb hx;rfl
 ·rename_i a n c
  cases h
  rcases zB0 hx with⟨_,a',rfl,_⟩|⟨_,_,_,_,_,_,_,_,_,_,_,_,_,rfl⟩<;>rfl
 ·cases h;rw[zC7 hx];rfl
 ·cases h
theorem zH5 {size n:Nat} {x x':Value} {r:List Value×St} (h:zBu s size n x=some r) (H:HR φ s.h w0 w) (hx:VR φ x x'):
    ∃ cs':Array Value,(Builtin.firstCells size n x').run P w=.ok cs' w∧VRL φ r.1 cs'.toList∧r.2.h=s.h∧r.2.next=s.next∧r.1.length=n * size:=by
  unfold zBu at h
  split at h
  · rename_i id off n' c
    have hx':∃ b sh sz c',φ id=some (b,sh,sz)∧x'=.slice (some ⟨b,sh+off,none⟩) n' c':=by
      rcases zB0 hx with ⟨_, a', rfl, h2⟩ | ⟨id', off', b, sh, sz, es, c', e1, _, e3, _, _, _, rfl⟩
      · rcases h2 with ⟨q, _⟩ | ⟨id', off', b, sh, sz, q, e, rfl⟩
        · cases q
        · cases q; exact ⟨b, sh, sz, _, e, rfl⟩
      · cases e1; exact ⟨b, sh, sz, c', e3, rfl⟩
    obtain⟨b,sh,sz,c',e,rfl⟩:=hx'
    split at h
    · rename_i h0
      cases h
      have h0:=Nat.eq_of_beq_eq_true h0
      exact ⟨#[], by simp [Builtin.firstCells, h0, loadCells, loadCellsFrom], VRL.nil φ, rfl, rfl, by simp [h0]⟩
    · rename_i h0
      split at h
      case h_2 => cases h
      rename_i cs e' ro hg
      split at h
      case h_2 => cases h
      rename_i r' hr
      cases h
      rw[zB8] at hr
      obtain⟨rfl,hle⟩:=zB3 hr
      have h0 : n * size ≠ 0 := by intro q; simp [q] at h0
      obtain⟨b',sh',sz',c2,fz,k⟩:=H.cells _ _ _ _ hg
      have:=k.at_;rw[e] at this;cases this
      obtain ⟨cs', q1, q2⟩ := zCv (P := P) (n := n * size) (off := off) k (by simp at hle; omega)
      exact ⟨cs', q1, q2, rfl, rfl, by simp at hle ⊢; omega⟩
  · rename_i n' c
    split at h
    case isFalse => cases h
    rename_i h0
    cases h
    rw[zHe hx]
    exact ⟨#[], rfl, VRL.nil φ, rfl, rfl, by simp [Nat.eq_of_beq_eq_true h0]⟩
  · split at h
    case isFalse => cases h
    rename_i h0
    cases h
    have h0:=Nat.eq_of_beq_eq_true h0
    obtain⟨a,c,rfl⟩:=zLb hx
    cases a with
    | none => exact ⟨#[], rfl, VRL.nil φ, rfl, rfl, by simp [h0]⟩
    | some a => exact ⟨#[], by simp [Builtin.firstCells, h0, loadCells, loadCellsFrom], VRL.nil φ, rfl, rfl, by simp [h0]⟩
  · rename_i b
    split at h
    case isFalse => cases h
    rename_i hs
    have hs:=Nat.eq_of_beq_eq_true hs
    split at h
    case h_2 => cases h
    rename_i r' hr
    cases h
    obtain⟨rfl,hle⟩:=zB3 hr
    rw[zC7 hx]
    subst hs
    refine ⟨_, rfl, ?_, rfl, rfl, by rw [List.length_take, Nat.mul_one]; omega⟩
    have : ((b.extract 0 n).data.map fun x => Value.int .u8 x.toNat).toList = (b.data.toList.map fun x => Value.int .u8 x.toNat).take n := by
      simp[ByteArray.data_extract]
    rw[this]
    refine VRL.mk' rfl fun i hi => ?_
    have hi2 : i < n := by simp at hi; omega
    have hi3 : i < b.data.toList.length := by simp at hi ⊢; omega
    rw[List.getD_eq_getElem?_getD,List.getElem?_take_of_lt hi2,List.getElem?_map,List.getElem?_eq_getElem hi3]
    exact .int _ _
  · cases h
theorem zRa (newLen:Nat):∀ rounds c,Builtin.growBy newLen rounds c≤max c (2 * newLen+192)
 |0,c=>Nat.le_max_left _ _
 |r+1,c=>by
  unfold Builtin.growBy
  split
  ·exact Nat.le_max_left _ _
  ·have:=zRa newLen r (c+(c+768) / 4)
   omega
theorem zLj {need c:Nat}(h:c < need):Builtin.nextslicecap need c≤2 * need+192:=by
 unfold Builtin.nextslicecap
 have:=zRa need 4 c
 split
 ·omega
 ·split<;>omega
def zS9 (P:Program)(argTypes:Array TypeId):Prop:=argTypes[1]?=none∨∃ xT d,argTypes[1]?=some xT∧P.underlying xT=some d∧∀ k,d≠.int k
theorem zPa {argTypes:Array TypeId}{type sT elem:TypeId}{base:Option Addr}{n c m:Nat}{x:Value}{ei:TypeInfo}{new:Array Value}
  (h0:argTypes[0]?=some sT) (hu:P.underlying sT=some (.slice elem)) (hei:P.info? elem=some ei) (hz:zS9 P argTypes)
  (hc:(Builtin.lenOf x).run P w=.ok m w) (ha:(Builtin.firstCells ei.size m x).run P w=.ok new w) (hle:n+m≤c):
  (Builtin.append_ argTypes type #[.slice base n c,x]).run P w=
   (match base with|some a=>(storeCells (a.add (n * ei.size)) new.toList).run P w|none=>.ok () w).andThen fun _ w'=>.ok (.slice base (n+m) c) w':=by
 have hsz:(sizeOf elem).run P w=.ok ei.size w:=by simp[sizeOf,typeInfo,hei]
 unfold Builtin.append_
 simp only[h0,List.getElem?_toArray,List.getElem?_cons_zero,List.getElem?_cons_succ,Sem.run_bind,run_underlying hu,Result.andThen_ok,hsz]
 rcases hz with h1|⟨xT,d,h1,h2,h3⟩
 ·rw[h1]
  simp only[Sem.run_bind,Sem.run_pure,Result.andThen_ok,Bool.false_eq_true,if_false,hc,Bool.not_false,if_true,if_pos hle,ha]
  cases base<;>simp
 ·rw[h1]
  simp only[Sem.run_bind,Sem.run_pure,Result.andThen_ok,run_underlying h2,Bool.false_eq_true,if_false,hc,Bool.not_false,if_true,if_pos hle,ha]
  cases base<;>simp
theorem zM9 {argTypes:Array TypeId}{type sT elem:TypeId}{base:Option Addr}{n c m:Nat}{x z:Value}{ei:TypeInfo}{new old:Array Value}
  (h0:argTypes[0]?=some sT) (hu:P.underlying sT=some (.slice elem)) (hei:P.info? elem=some ei) (hz:zS9 P argTypes)
  (hc:(Builtin.lenOf x).run P w=.ok m w) (hle:¬ n+m≤c) (hmax:¬ ((n+m:Nat):Int) > IntKind.i64.max) (hbig:¬ Builtin.nextslicecap (n+m) c * ei.bytes > 2 ^ 48)
  (ha:(Builtin.firstCells ei.size m x).run P { w with drawn:=w.drawn+1 }=.ok new { w with drawn:=w.drawn+1 })
  (ho:(Builtin.firstCells ei.size n (.slice base n c)).run P { w with drawn:=w.drawn+1 }=.ok old { w with drawn:=w.drawn+1 })
  (hzero:∀ w,(zeroValue elem).run P w=.ok z w):∃ k,n+m≤k∧
  (Builtin.append_ argTypes type #[.slice base n c,x]).run P w=
   .ok (.slice (some ⟨w.heap.size,0,none⟩) (n+m) k) { w with drawn:=w.drawn+1,heap:=w.heap.push (.cells (old++new++Builtin.zeroCells z.cells (k - (n+m))) elem) }:=by
 have hsz:(sizeOf elem).run P w=.ok ei.size w:=by simp[sizeOf,typeInfo,hei]
 have hti:∀ w,(typeInfo elem).run P w=.ok ei w:=by intro w;simp[typeInfo,hei]
 have hch:(choose (.appendCap (n+m) c elem)).run P w=.ok ((Question.appendCap (n+m) c elem).cut (w.tape w.drawn (.appendCap (n+m) c elem))) { w with drawn:=w.drawn+1 }:=by
  rw[run_choose];rfl
 refine⟨(Question.appendCap (n+m) c elem).cut (w.tape w.drawn (.appendCap (n+m) c elem)),by simp only[Question.cut];omega,?_⟩
 unfold Builtin.append_
 simp only[h0,List.getElem?_toArray,List.getElem?_cons_zero,List.getElem?_cons_succ,Sem.run_bind,run_underlying hu,Result.andThen_ok,hsz]
 rcases hz with h1|⟨xT,d,h1,h2,h3⟩
 ·rw[h1]
  simp only[Sem.run_bind,Sem.run_pure,Result.andThen_ok,Bool.false_eq_true,if_false,hc,Bool.not_false,if_true,if_neg hle,hti,if_neg (fun q=>hmax (And.left q)),if_neg hbig,hch,run_askRoom,ha,ho,hzero,newRow,run_newObj]
 ·rw[h1]
  simp only[Sem.run_bind,Sem.run_pure,Result.andThen_ok,run_underlying h2,Bool.false_eq_true,if_false,hc,Bool.not_false,if_true,if_neg hle,hti,if_neg (fun q=>hmax (And.left q)),if_neg hbig,hch,run_askRoom,ha,ho,hzero,newRow,run_newObj]
theorem zNa {argTypes:Array TypeId}{type sT xT elem:TypeId}{base:Option Addr}{n c m:Nat}{q k:IntKind}{ei:TypeInfo}{z:Value}
  (h0:argTypes[0]?=some sT) (hu:P.underlying sT=some (.slice elem)) (hei:P.info? elem=some ei) (h1:argTypes[1]?=some xT) (h2:P.underlying xT=some (.int k))
  (hm:m < 1048576) (hmb:m * ei.bytes≤1099511627776) (hzero:∀ w,(zeroValue elem).run P w=.ok z w) (hle:n+m≤c):
  (Builtin.append_ argTypes type #[.slice base n c,.int q (m:Int)]).run P w=
   (match base with|some a=>(storeCells (a.add (n * ei.size)) (if m * ei.size=0 then(#[]:Array Value) else Builtin.zeroCells z.cells m).toList).run P w|none=>.ok () w).andThen fun _ w'=>.ok (.slice base (n+m) c) w':=by
 have hsz:(sizeOf elem).run P w=.ok ei.size w:=by simp[sizeOf,typeInfo,hei]
 have hti:∀ w,(typeInfo elem).run P w=.ok ei w:=by intro w;simp[typeInfo,hei]
 have w1:IntKind.i64.wrap (m:Int)=(m:Int):=by unfold IntKind.wrap;simp[IntKind.signed,IntKind.bits];omega
 have c1:¬ ((m:Int) < 0):=by omega
 have c2:¬ ((m:Int) * (ei.bytes:Int) > 2 ^ 48):=by
  have:((m * ei.bytes:Nat):Int)≤1099511627776:=by omega
  have:(m:Int) * (ei.bytes:Int)≤1099511627776:=by simpa using this
  omega
 unfold Builtin.append_
 simp only[h0,List.getElem?_toArray,List.getElem?_cons_zero,List.getElem?_cons_succ,Sem.run_bind,run_underlying hu,Result.andThen_ok,hsz]
 rw[h1]
 simp only[Sem.run_bind,Sem.run_pure,Result.andThen_ok,run_underlying h2,if_true,asInt,asIntOf,w1,if_neg c1,hti,if_neg c2,Int.toNat_natCast,Bool.not_true,Bool.false_eq_true,if_false,if_pos hle]
 by_cases h4:m * ei.size=0
 ·simp only[if_pos h4,Sem.run_pure,Result.andThen_ok];cases base<;>simp
 ·simp only[if_neg h4,Sem.run_bind,hzero,Sem.run_pure,Result.andThen_ok];cases base<;>simp
theorem zLk {argTypes:Array TypeId}{type sT xT elem:TypeId}{base:Option Addr}{n c m:Nat}{q k:IntKind}{ei:TypeInfo}{z:Value}{old:Array Value}
  (h0:argTypes[0]?=some sT) (hu:P.underlying sT=some (.slice elem)) (hei:P.info? elem=some ei) (h1:argTypes[1]?=some xT) (h2:P.underlying xT=some (.int k))
  (hm:m < 1048576) (hmb:m * ei.bytes≤1099511627776) (hzero:∀ w,(zeroValue elem).run P w=.ok z w) (hle:¬ n+m≤c)
  (hmax:¬ ((n+m:Nat):Int) > IntKind.i64.max) (hbig:¬ Builtin.nextslicecap (n+m) c * ei.bytes > 2 ^ 48)
  (ho:(Builtin.firstCells ei.size n (.slice base n c)).run P { w with drawn:=w.drawn+1 }=.ok old { w with drawn:=w.drawn+1 }):∃ k,n+m≤k∧
  (Builtin.append_ argTypes type #[.slice base n c,.int q (m:Int)]).run P w=
   .ok (.slice (some ⟨w.heap.size,0,none⟩) (n+m) k) { w with drawn:=w.drawn+1,heap:=w.heap.push (.cells (old++(if m * ei.size=0 then(#[]:Array Value) else Builtin.zeroCells z.cells m)++Builtin.zeroCells z.cells (k - (n+m))) elem) }:=by
 have hsz:(sizeOf elem).run P w=.ok ei.size w:=by simp[sizeOf,typeInfo,hei]
 have hti:∀ w,(typeInfo elem).run P w=.ok ei w:=by intro w;simp[typeInfo,hei]
 have w1:IntKind.i64.wrap (m:Int)=(m:Int):=by unfold IntKind.wrap;simp[IntKind.signed,IntKind.bits];omega
 have c1:¬ ((m:Int) < 0):=by omega
 have c2:¬ ((m:Int) * (ei.bytes:Int) > 2 ^ 48):=by
  have:((m * ei.bytes:Nat):Int)≤1099511627776:=by omega
  have:(m:Int) * (ei.bytes:Int)≤1099511627776:=by simpa using this
  omega
 have hch:(choose (.appendCap (n+m) c elem)).run P w=.ok ((Question.appendCap (n+m) c elem).cut (w.tape w.drawn (.appendCap (n+m) c elem))) { w with drawn:=w.drawn+1 }:=by
  rw[run_choose];rfl
 refine⟨(Question.appendCap (n+m) c elem).cut (w.tape w.drawn (.appendCap (n+m) c elem)),by simp only[Question.cut];omega,?_⟩
 unfold Builtin.append_
 simp only[h0,List.getElem?_toArray,List.getElem?_cons_zero,List.getElem?_cons_succ,Sem.run_bind,run_underlying hu,Result.andThen_ok,hsz]
 rw[h1]
 simp only[Sem.run_bind,Sem.run_pure,Result.andThen_ok,run_underlying h2,if_true,asInt,asIntOf,w1,if_neg c1,hti,if_neg c2,Int.toNat_natCast,Bool.not_true,Bool.false_eq_true,if_false,if_neg hle,if_neg (fun q=>hmax (And.left q)),if_neg hbig,hch,run_askRoom,ho]
 by_cases h4:m * ei.size=0
 ·simp only[if_pos h4,Sem.run_bind,Sem.run_pure,Result.andThen_ok,hzero,newRow,run_newObj]
 ·simp only[if_neg h4,Sem.run_bind,hzero,Sem.run_pure,Result.andThen_ok,newRow,run_newObj]
end
end Go.Det
end
section
namespace Go.Det
variable {P:Program}
section
variable {w0 w:World} {φ:Ren} {l:zAz} {s s':St} {v:Value} {ρ:Operand→Value} {lo:Nat}
structure AppRun (P:Program) (argTypes:Array TypeId) (type elem:TypeId) (size bytes:Nat) (φ:Ren) (n m:Nat) (ws:List Value) (x':Value) (w:World):Prop where
 len:ws.length=m * size
 inn:∀ (base:Option Addr) (c:Nat),n+m≤c→∃ new:Array Value,VRL φ ws new.toList∧
  (Builtin.append_ argTypes type #[.slice base n c,x']).run P w=
   (match base with|some a=>(storeCells (a.add (n * size)) new.toList).run P w|none=>.ok () w).andThen fun _ w'=>.ok (.slice base (n+m) c) w'
 new:∀ (base:Option Addr) (c:Nat) (z:Value) (old:Array Value),¬ n+m≤c→¬ ((n+m:Nat):Int) > IntKind.i64.max→¬ Builtin.nextslicecap (n+m) c * bytes > 2 ^ 48→(∀ w,(zeroValue elem).run P w=.ok z w)→
  (Builtin.firstCells size n (.slice base n c)).run P { w with drawn:=w.drawn+1 }=.ok old { w with drawn:=w.drawn+1 }→
  ∃ (k:Nat) (new:Array Value),n+m≤k∧VRL φ ws new.toList∧(Builtin.append_ argTypes type #[.slice base n c,x']).run P w=
   .ok (.slice (some ⟨w.heap.size,0,none⟩) (n+m) k) { w with drawn:=w.drawn+1,heap:=w.heap.push (.cells (old++new++Builtin.zeroCells z.cells (k - (n+m))) elem) }
theorem zTa {argTypes:Array TypeId}{sT:TypeId}{rest:List TypeId}(ha:argTypes.toList=sT::rest)(h:zG8 P rest=some false):zS9 P argTypes:=by
 unfold zG8 typ at h
 cases rest with
 |nil=>left;rw[← Array.getElem?_toList,ha];rfl
 |cons xT t=>
  right
  simp only at h
  split at h
  ·cases h
  ·rename_i d hd hn
   exact⟨xT,d,by rw[← Array.getElem?_toList,ha];rfl,by assumption,fun k q=>hd k (by rw[← q])⟩
  ·cases h
theorem zRb {argTypes:Array TypeId}{sT:TypeId}{rest:List TypeId}(ha:argTypes.toList=sT::rest)(h:zG8 P rest=some true):∃ xT k,argTypes[1]?=some xT∧P.underlying xT=some (.int k):=by
 unfold zG8 typ at h
 cases rest with
 |nil=>cases h
 |cons xT t=>
  simp only at h
  split at h
  ·rename_i k hk;exact⟨xT,k,by rw[← Array.getElem?_toList,ha];rfl,hk⟩
  ·cases h
  ·cases h
theorem zYk {argTypes:Array TypeId}{type sT elem:TypeId}{rest:List TypeId}{ei:TypeInfo}{zeros:Bool}{n:Nat}{x x':Value}{r:Nat×List Value×St}
  (ha:argTypes.toList=sT::rest) (hu:P.underlying sT=some (.slice elem)) (hei:P.info? elem=some ei) (hz:zG8 P rest=some zeros)
  (h:zGm P s elem ei.size ei.bytes zeros x=some r) (H:HR φ s.h w0 w) (hx:VR φ x x'):
  AppRun P argTypes type elem ei.size ei.bytes φ n r.1 r.2.1 x' w∧r.2.2.h=s.h∧r.2.2.next=s.next:=by
 have h0:argTypes[0]?=some sT:=by rw[← Array.getElem?_toList,ha];rfl
 unfold zGm at h
 split at h
 ·
  obtain⟨xT,k,h1,h2⟩:=zRb ha hz
  split at h
  case h_2=>cases h
  rename_i q m
  split at h
  case isFalse=>cases h
  rename_i hm
  split at h
  case h_2=>cases h
  rename_i z hzz
  split at h
  case isFalse=>cases h
  rename_i hb
  cases h
  have hb:m.toNat * ei.bytes≤1099511627776:=by simpa using hb
  have hm1:m.toNat < 1048576:=by omega
  have hm2:((m.toNat:Nat):Int)=m:=by omega
  have hx:x'=.int q (m.toNat:Int):=by rw[zGr hx,hm2]
  subst hx
  obtain⟨ie,e1,e2,e3,e4⟩:=zC6 hzz
  rw[hei] at e1;cases e1
  have hlen:z.cells.size=ei.size:=by have:=(zDn hzz φ).1;simp at this;omega
  have hrel:VRL φ (zCb (zA9 z) m.toNat) (if m.toNat * ei.size=0 then(#[]:Array Value) else Builtin.zeroCells z.cells m.toNat).toList:=by
   by_cases q0:m.toNat * ei.size=0
   ·rw[if_pos q0]
    have:zCb (zA9 z) m.toNat=[]:=List.eq_nil_of_length_eq_zero (by rw[zC0,e3,q0])
    rw[this];exact VRL.nil φ
   ·rw[if_neg q0]
    have:=zKl hzz hei φ m.toNat
    unfold Builtin.zeroCells
    rw[hlen]
    rw[hlen] at this
    exact this
  refine⟨⟨by rw[zC0,e3],fun base c hle=>⟨_,hrel,zNa h0 hu hei h1 h2 hm1 hb (zCl hzz) hle⟩,fun base c z' old hle hmax hbig hz' ho=>?_⟩,rfl,rfl⟩
  obtain⟨k',q1,q2⟩:=zLk (type:=type) h0 hu hei h1 h2 hm1 hb hz' hle hmax hbig ho
  have:z'=z:=by have a:=hz' w;rw[zCl hzz w] at a;cases a;rfl
  subst this
  exact⟨k',_,q1,hrel,q2⟩
 ·
  have hno:=zTa ha hz
  split at h
  case h_2=>cases h
  rename_i m hm
  split at h
  case h_2=>cases h
  rename_i r' hr
  cases h
  obtain⟨cs',q1,q2,q3,q4,q5⟩:=zH5 (P:=P) hr H hx
  refine⟨⟨q5,fun base c hle=>⟨cs',q2,zPa h0 hu hei hno (zO9 hm hx w) q1 hle⟩,fun base c z old hle hmax hbig hz' ho=>?_⟩,q3,q4⟩
  obtain⟨cs2,p1,p2,_⟩:=zH5 (P:=P) hr (H.drawn (w.drawn+1)) hx
  obtain⟨k',e1,e2⟩:=zM9 (type:=type) h0 hu hei hno (zO9 hm hx w) hle hmax hbig p1 ho hz'
  exact⟨k',cs2,e1,p2,e2⟩
theorem yHk:¬ ((1099511627776:Nat):Int) > IntKind.i64.max:=by simp[IntKind.max,IntKind.signed,IntKind.bits]
theorem zTb {elem:TypeId}{size k n m:Nat}{old ws:List Value}{old' new:Array Value}{z:Value}{ei:TypeInfo}(hzz:zCx P elem=some z)(hei:P.info? elem=some ei)(hsz:ei.size=size)
  (hold:VRL φ old old'.toList) (hnew:VRL φ ws new.toList) (hl1:old.length=n * size) (hl2:ws.length=m * size) (hk:n+m≤k) (hpos:0 < size)
  (H:HR φ s.h w0 w) (hn:φ s.next=none):
  ∃ φ',Ext φ φ' s.next (s.next+1)∧VR φ' (.slice (some ⟨s.next,0,none⟩) (n+m) (zEo+size)) (.slice (some ⟨w.heap.size,0,none⟩) (n+m) k)∧
   HR φ' (s.h.set s.next (.cells (old++ws) (2 * elem) false)) w0 { w with drawn:=w.drawn+1,heap:=w.heap.push (.cells (old'++new++Builtin.zeroCells z.cells (k - (n+m))) elem) }:=by
 obtain⟨ie,e1,e2,e3,e4⟩:=zC6 hzz
 rw[hei] at e1;cases e1
 have hzl:z.cells.size=size:=by have:=(zDn hzz φ).1;simp at this;omega
 have ho:=hold.1
 have hw:=hnew.1
 simp only[Array.length_toList] at ho hw
 have hsize:(old'++new++Builtin.zeroCells z.cells (k - (n+m))).size=k * size:=by
  simp only[Array.size_append,Builtin.zeroCells,Array.size_map,Array.size_range,hzl]
  have:k * size=n * size+m * size+(k - (n+m)) * size:=by rw[← Nat.add_mul,← Nat.add_mul];congr 1;omega
  omega
 have hap:=hold.append hnew
 have hfit:(old++ws).length≤k * size:=by
  rw[List.length_append,hl1,hl2,← Nat.add_mul];exact Nat.mul_le_mul_right _ hk
 refine⟨_,Ext.upd hn (w.heap.size,0,k * size),?_,?_⟩
 ·exact .sliceU s.next 0 w.heap.size 0 (k * size) (n+m) k size (zBe _ _ _) hpos (by omega) hk
 ·refine HR.adopt (H.drawn (w.drawn+1)) (c:=old'++new++Builtin.zeroCells z.cells (k - (n+m))) (fz:=(0,0)) hn rfl rfl rfl (by simp) (fun j hj _=>?_) H.size ?_ (fun _=>rfl) (fun j cj ej rj bj sj zj g a=>?_) hsize (by omega) (fun i hi=>?_) (fun _ o _=>by simp) (fun O q=>by rw[Array.getElem?_eq_none (show w.heap.size≤w.heap.size from Nat.le_refl _)] at q;cases q)
  ·show(w.heap.push _)[j]?=w.heap[j]?
   rw[Array.getElem?_push,if_neg (by have:j < w.heap.size:=hj;omega)]
  ·show(w.heap.push _)[w.heap.size]?=_
   rw[Array.getElem?_push,if_pos rfl,zS5]
  ·have:=H.dom _ _ _ _ a;omega
  ·have:=hap.2 i
   rw[Nat.zero_add]
   have e:(old'++new++Builtin.zeroCells z.cells (k - (n+m))).getD i und=(old'.toList++new.toList).getD i und:=by
    have hi2:i < (old'.toList++new.toList).length:=by rw[← hap.1];exact hi
    rw[Array.getD_eq_getD_getElem?,List.getD_eq_getElem?_getD,← Array.getElem?_toList,Array.toList_append,Array.toList_append,List.getElem?_append_left hi2]
   rw[e];exact this
theorem zNb {size c:Nat}(w:World):(Builtin.firstCells size 0 (.slice none 0 c)).run P w=.ok #[] w:=rfl
theorem zBa {w':World}{v':Value}{φ':Ren}{m:Sem Value}(hr:m.run P w=.ok v' w')(he:Ext φ φ' lo s'.next)(hv:VR φ' v v')(H':HR φ' s'.h w0 w'):
  Gives P w0 φ lo s' v ((do pure (Next.value (← m)):Sem Next).run P w):=by
 rw[Sem.run_bind,hr]
 exact⟨φ',he,hv,H'⟩
theorem zUu {id off b sh sz n c' size:Nat}{cs old:List Value}{e:TypeId}{ro:Bool}(H:HR φ s.h w0 w)(hg:s.h.get id=some (.cells cs e ro))(hat:φ id=some (b,sh,sz))
  (h:zFd (n * size) (zGj off cs)=some old):∃ old':Array Value,(Builtin.firstCells size n (.slice (some ⟨b,sh+off,none⟩) n c')).run P w=.ok old' w∧VRL φ old old'.toList∧old.length=n * size:=by
 rw[zB8] at h
 obtain⟨rfl,hle⟩:=zB3 h
 by_cases h0:n * size=0
 ·refine⟨#[],?_,?_,?_⟩
  ·simp[Builtin.firstCells,h0,loadCells,loadCellsFrom]
  ·rw[h0];exact VRL.nil φ
  ·rw[h0];rfl
 ·obtain⟨b',sh',sz',c2,fz,k⟩:=H.cells _ _ _ _ hg
  have:=k.at_;rw[hat] at this;cases this
  obtain⟨cs',q1,q2⟩:=zCv (P:=P) (n:=n * size) (off:=off) k (by simp at hle;omega)
  exact⟨cs',q1,q2,by simp at hle ⊢;omega⟩
theorem zIo {argTypes:Array TypeId}{type elem:TypeId}{id off b sh sz n m c c' size bytes:Nat}{cs ws:List Value}{e:TypeId}{x':Value}{r:Value×St}
  (h:zCk s id off (off+n * size) (n+m) c cs e ws=some r) (H:HR φ s.h w0 w) (hg:s.h.get id=some (.cells cs e false)) (hat:φ id=some (b,sh,sz))
  (ha:AppRun P argTypes type elem size bytes φ n m ws x' w) (ho:zV8 ws=true) (hle:n+m≤c')
  (hv:VR φ (.slice (some ⟨id,off,none⟩) (n+m) c) (.slice (some ⟨b,sh+off,none⟩) (n+m) c')):
  Gives P w0 φ lo r.2 r.1 ((do pure (Next.value (← Builtin.append_ argTypes type #[.slice (some ⟨b,sh+off,none⟩) n c',x'])):Sem Next).run P w)∧r.2.next=s.next:=by
 unfold zCk at h
 split at h
 case h_2=>cases h
 rename_i cs' hp
 cases h
 obtain⟨b',sh',sz',c2,fz,k⟩:=H.cells _ _ _ _ hg
 have:=k.at_;rw[hat] at this;cases this
 obtain⟨new,q1,q2⟩:=ha.inn (some ⟨b,sh+off,none⟩) c' hle
 obtain⟨p1,p2⟩:=zD6 (P:=P) H hg k hp ho q1
 refine⟨zBa (w':=w.setCells b (sh+(off+n * size)) new.toList) (v':=.slice (some ⟨b,sh+off,none⟩) (n+m) c') ?_ (Ext.refl _ _ _) hv p2,rfl⟩
 rw[q2]
 show Result.andThen ((storeCells ((⟨b,sh+off,none⟩:Addr).add (n * size)) new.toList).run P w) _=_
 rw[zC1,Nat.add_assoc,p1];rfl
theorem yDg {argTypes:Array TypeId}{type elem:TypeId}{size bytes n m c:Nat}{ws:List Value}{base:Option Addr}{S x' z:Value}{ei:TypeInfo}{r:Value×St}
  (h:zQj s elem size base n c m ws=some r) (H:HR φ s.h w0 w) (hx:VR φ (.slice base n c) S) (hm0:m≠0) (hpos:0 < size)
  (ha:AppRun P argTypes type elem size bytes φ n m ws x' w) (ho:zV8 ws=true) (hbytes:(n+m) * bytes≤1099511627776) (hmax:n+m≤1099511627776)
  (hzz:zCx P elem=some z) (hei:P.info? elem=some ei) (hsz:ei.size=size) (hf:∀ id,s.next≤id→id < r.2.next→φ id=none):
  Gives P w0 φ s.next r.2 r.1 ((do pure (Next.value (← Builtin.append_ argTypes type #[S,x'])):Sem Next).run P w)∧s.next≤r.2.next:=by
 have hmax':¬ ((n+m:Nat):Int) > IntKind.i64.max:=by have:=yHk;omega
 have hbig:∀ {c':Nat},¬ n+m≤c'→¬ Builtin.nextslicecap (n+m) c' * bytes > 2 ^ 48:=by
  intro c' hc
  have h1:=zLj (need:=n+m) (c:=c') (by omega)
  have h2:Builtin.nextslicecap (n+m) c' * bytes≤(2 * (n+m)+192) * bytes:=Nat.mul_le_mul_right _ h1
  have h3:(2 * (n+m)+192) * bytes=2 * ((n+m) * bytes)+192 * bytes:=by rw[Nat.add_mul,Nat.mul_assoc]
  have h4:bytes≤(n+m) * bytes:=Nat.le_mul_of_pos_left _ (by omega)
  omega
 unfold zQj at h
 split at h
 ·
  split at h
  case isFalse=>cases h
  rename_i hc
  simp only[Bool.and_eq_true] at hc
  obtain rfl:=Nat.eq_of_beq_eq_true hc.1
  obtain rfl:=Nat.eq_of_beq_eq_true hc.2
  cases h
  rw[zHe hx]
  have hn:φ s.next=none:=hf _ (Nat.le_refl _) (Nat.lt_succ_self _)
  have hle:¬ 0+m≤0:=by omega
  obtain⟨k,new,p1,p2,p3⟩:=ha.new none 0 z #[] hle hmax' (hbig hle) (zCl hzz) (zNb _)
  obtain⟨φ',e1,e2,e3⟩:=zTb (n:=0) (m:=m) (old:=[]) (old':=#[]) hzz hei hsz (VRL.nil φ) p2 (by simp) ha.len p1 hpos H hn
  have e4:VR φ' (zNh s elem size m [] ws).1 (.slice (some ⟨w.heap.size,0,none⟩) (0+m) k):=by
   rw[Nat.zero_add] at e2 ⊢;exact e2
  exact⟨zBa p3 e1 e4 e3,Nat.le_succ _⟩
 ·rename_i id off
  split at h
  case h_2=>cases h
  rename_i cs e ro hg
  rcases zB0 hx with⟨hc,a',rfl,h2⟩|⟨id',off',b,sh,sz,es,c',e1,rfl,hat,p,q,r',rfl⟩
  ·
   rcases h2 with⟨q,_⟩|⟨id',off',b,sh,sz,q,hat,rfl⟩
   ·cases q
   cases q
   rw[if_neg (by simp;exact hc)] at h
   split at h
   ·rename_i hle
    have hle:n+m≤c:=by simpa using hle
    split at h
    case isFalse=>cases h
    rename_i hro
    have hro:ro=false:=by simpa using hro
    subst hro
    obtain⟨g,hn'⟩:=zIo (P:=P) (lo:=s.next) h H hg hat ha ho hle (.slice _ _ _ _ _ _ _ hat hc)
    exact⟨g,by omega⟩
   ·rename_i hle
    have hle:¬ n+m≤c:=by simpa using hle
    split at h
    case h_2=>cases h
    rename_i old hold
    cases h
    have hn:φ s.next=none:=hf _ (Nat.le_refl _) (Nat.lt_succ_self _)
    obtain⟨old',o1,o2,o3⟩:=zUu (P:=P) (c':=c) (H.drawn (w.drawn+1)) hg hat hold
    obtain⟨k,new,p1,p2,p3⟩:=ha.new _ c z old' hle hmax' (hbig hle) (zCl hzz) o1
    obtain⟨φ',e1,e2,e3⟩:=zTb (n:=n) (m:=m) hzz hei hsz o2 p2 o3 ha.len p1 hpos H hn
    exact⟨zBa p3 e1 e2 e3,Nat.le_succ _⟩
  ·
   cases e1
   rw[if_pos (by simp)] at h
   split at h
   case isFalse=>cases h
   rename_i hcc
   simp only[Bool.and_eq_true,Bool.not_eq_true'] at hcc
   have:es=size:=by have:=Nat.eq_of_beq_eq_true hcc.1;omega
   subst this
   obtain⟨hcc1,rfl,hee⟩:=hcc
   have hee:=Nat.eq_of_beq_eq_true hee
   subst hee
   obtain⟨b',sh',sz',c2,fz,k⟩:=H.cells _ _ _ _ hg
   have:=k.at_;rw[hat] at this;cases this
   have hfit:=k.fit
   split at h
   ·rename_i hin
    have hin:off+(n+m) * es≤cs.length:=by simpa using hin
    have hle:n+m≤c':=by
     have:(n+m) * es≤c' * es:=by omega
     exact Nat.le_of_mul_le_mul_right this hpos
    obtain⟨g,hn'⟩:=zIo (P:=P) (lo:=s.next) h H hg hat ha ho hle (.sliceU _ _ _ _ _ _ _ _ hat hpos q hle)
    exact⟨g,by omega⟩
   ·split at h
    case h_2=>cases h
    rename_i old hold
    cases h
    have hn:φ s.next=none:=hf _ (Nat.le_refl _) (Nat.lt_succ_self _)
    have Hk:=H.kill id
    have hne:∀ j cj ej rj bj sj zj,(s.h.set id .dead).get j=some (.cells cj ej rj)→φ j=some (bj,sj,zj)→bj≠b:=by
     intro j cj ej rj bj sj zj g a
     rw[Heap.get_set] at g
     by_cases q:j=id
     ·rw[if_pos q] at g;cases g
     ·rw[if_neg q] at g;exact Ne.symm (H.inj _ _ _ _ _ _ _ _ _ _ _ _ _ (Ne.symm q) hg g hat a)
    by_cases hle:n+m≤c'
    ·
     obtain⟨new,q1,q2⟩:=ha.inn (some ⟨b,sh+off,none⟩) c' hle
     have hnl:new.toList.length=m * es:=by rw[← q1.1];exact ha.len
     have hroom:sh+off+n * es+m * es≤sz:=by
      have:(n+m) * es≤c' * es:=Nat.mul_le_mul_right _ hle
      rw[Nat.add_mul] at this;omega
     obtain⟨hmine,hfz⟩:=k.mine rfl
     have hsz2:=k.size
     have hst:=run_storeCells_cells (P:=P) b (sh+off+n * es) new.toList 0 w (fun j hj=>by rw[cell_at k.blk _ (by omega)];rfl)
      (fun j hj=>by simp only[World.frozen?,k.blk];have:=hfz (sh+off+n * es+0+j) (by omega);simpa using this) (zYj ho q1)
     obtain⟨c3,s1,s2,s3,s4,s5,s6,s7,s8⟩:=zF0 b _ fz new.toList (sh+off+n * es) c2 w k.blk (by omega)
     rw[zB8] at hold
     obtain⟨rfl,hol⟩:=zB3 hold
     have hol1:((cs.drop off).take (n * es)).length=n * es:=by rw[List.length_take];omega
     have HA:=HR.adopt (e:=2 * elem) (n:=s.next) (sh:=sh+off) (cs:=(cs.drop off).take (n * es)++ws) (ro:=false) Hk hn s6 s7 s8 (by rw[s5];exact Nat.le_refl _) (fun j hj hjb=>s4 j hjb) hmine s1 (fun q=>absurd q (zYb elem)) hne (s2.trans hsz2)
      (by rw[List.length_append,hol1,ha.len];omega) (fun i hi=>by
       rw[s3]
       by_cases pi:i < n * es
       ·rw[if_neg (by omega),List.getD_eq_getElem?_getD,List.getElem?_append_left (by omega),List.getElem?_take_of_lt pi,List.getElem?_drop,← List.getD_eq_getElem?_getD]
        have hlt:off+i < cs.length:=by simp only[List.length_drop] at hol;omega
        have:=k.cell (off+i) hlt
        rw[← Nat.add_assoc] at this;exact this
       ·rw[List.length_append,hol1,ha.len] at hi
        rw[if_pos (by omega),List.getD_eq_getElem?_getD,List.getElem?_append_right (by omega),← List.getD_eq_getElem?_getD,hol1,show sh+off+i - (sh+off+n * es)=i - n * es by omega]
        exact q1.2 _) (fun _=>hfz) (fun O q=>by rw[show w.heap[b]?=_ from k.blk] at q;cases q;exact⟨_,_,_,rfl⟩)
     refine⟨zBa (w':=w.setCells b (sh+off+n * es) new.toList) (v':=.slice (some ⟨b,sh+off,none⟩) (n+m) c') ?_ (Ext.upd hn _) ?_ HA,Nat.le_succ _⟩
     ·rw[q2]
      simp only[zC1]
      simp only[Nat.add_zero] at hst
      rw[hst];rfl
     ·have:=VR.sliceU (φ:=upd φ s.next (b,sh+off,sz)) s.next 0 b (sh+off) sz (n+m) c' es (zBe _ _ _) hpos (by omega) hle
      rw[Nat.add_zero] at this;exact this
    ·obtain⟨old',o1,o2,o3⟩:=zUu (P:=P) (c':=c') (H.drawn (w.drawn+1)) hg hat hold
     obtain⟨k2,new,p1,p2,p3⟩:=ha.new _ c' z old' hle hmax' (hbig hle) (zCl hzz) o1
     obtain⟨φ',e1,e2,e3⟩:=zTb (s:=s.write id .dead) (n:=n) (m:=m) hzz hei hsz o2 p2 o3 ha.len p1 hpos Hk hn
     exact⟨zBa p3 e1 e2 e3,Nat.le_succ _⟩
 ·cases h
end
end Go.Det
end
section
namespace Go.Det
variable {P:Program}
section
variable {w0 w:World} {φ:Ren} {l:zAz} {s s':St} {v:Value} {ρ:Operand→Value} {lo:Nat}
theorem VRL.two {a b:Value}{l':List Value}(h:VRL φ [a,b] l'):∃ a' b',l'=[a',b']∧VR φ a a'∧VR φ b b':=by
 obtain⟨a',t,rfl,ha,ht⟩:=h.head
 obtain⟨b',t',rfl,hb,ht'⟩:=ht.head
 rw[ht'.of_nil];exact⟨a',b',rfl,ha,hb⟩
theorem VRL.one {a:Value}{l':List Value}(h:VRL φ [a] l'):∃ a',l'=[a']∧VR φ a a':=by
 obtain⟨a',t,rfl,ha,ht⟩:=h.head
 rw[ht.of_nil];exact⟨a',rfl,ha⟩
theorem zWv {argTypes:Array TypeId}{type:TypeId}{args:List Value}{args':Array Value}{r:Value×St}(h:zJa P s argTypes args=some r)(H:HR φ s.h w0 w)
  (hx:VRL φ args args'.toList) (hf:∀ id,s.next≤id→id < r.2.next→φ id=none):
  Gives P w0 φ s.next r.2 r.1 ((do pure (Next.value (← Builtin.append_ argTypes type args')):Sem Next).run P w)∧s.next≤r.2.next:=by
 unfold zJa typ at h
 split at h
 case h_2=>cases h
 rename_i sT rest base n c x ha
 split at h
 case h_2=>cases h
 rename_i elem hu
 split at h
 case h_2=>cases h
 rename_i ei zeros hei hz
 split at h
 case h_2=>cases h
 rename_i q hq
 obtain⟨m,ws,s1⟩:=q
 obtain⟨S,x',e,hS,hx'⟩:=hx.two
 obtain⟨args'⟩:=args'
 simp only at e;subst e
 obtain⟨hrun,hh,hn⟩:=zYk (type:=type) (n:=n) ha hu hei hz hq H hx'
 simp only at hh hn hrun h
 have H1:HR φ s1.h w0 w:=by rw[hh];exact H
 unfold zQk at h
 split at h
 ·rename_i hm
  have hm:=Nat.eq_of_beq_eq_true hm
  subst hm
  split at h
  case isFalse=>cases h
  rename_i hc
  cases h
  have hws:ws=[]:=List.eq_nil_of_length_eq_zero (by rw[hrun.len];simp)
  subst hws
  refine⟨?_,by show s.next≤s1.next;omega⟩
  have hle:∀ {b':Option Addr} {c':Nat},S=.slice b' n c'→n≤c'→Gives P w0 φ s.next s1 (.slice base n c) ((do pure (Next.value (← Builtin.append_ argTypes type #[S,x'])):Sem Next).run P w):=by
   intro b' c' e hle
   subst e
   obtain⟨new,q1,q2⟩:=hrun.inn b' c' hle
   have hnew:new.toList=[]:=q1.of_nil
   refine zBa (w':=w) (v':=.slice b' n c') ?_ (Ext.refl _ _ _) hS H1
   rw[q2,hnew]
   cases b'<;>rfl
  simp only[Bool.or_eq_true,Nat.ble_eq] at hc
  rcases zB0 hS with⟨k1,a',e,_⟩|⟨_,_,_,_,_,_,c',_,_,_,_,_,k,e⟩
  ·exact hle e (by rcases hc with q|q<;>omega)
  ·exact hle e k
 ·rename_i hm
  have hm:m≠0:=by intro q;subst q;simp at hm
  split at h
  case isFalse=>cases h
  rename_i hc
  simp only[Bool.and_eq_true,Nat.ble_eq] at hc
  split at h
  case h_2=>cases h
  rename_i z hzz
  obtain⟨g,g2⟩:=yDg (P:=P) (argTypes:=argTypes) (type:=type) (bytes:=ei.bytes) h H1 hS hm hc.1 hrun hc.2.2.1 hc.2.1 hc.2.2.2 hzz hei rfl (fun id a b=>hf id (by omega) b)
  rw[hn] at g g2
  exact⟨g,g2⟩
theorem yDh {argTypes:Array TypeId}{type:TypeId}{args:List Value}{args':Array Value}{r:Value×St}(h:zWa P s argTypes args=some r)(H:HR φ s.h w0 w)
  (hx:VRL φ args args'.toList):
  Gives P w0 φ lo r.2 r.1 ((do pure (Next.value (← Builtin.copy_ argTypes type args')):Sem Next).run P w)∧r.2.next=s.next:=by
 unfold zWa typ at h
 split at h
 case h_2=>cases h
 rename_i dT rest base n c x ha
 split at h
 case h_2=>cases h
 rename_i elem hu
 split at h
 case h_2=>cases h
 rename_i size m hsz hm
 split at h
 case h_2=>cases h
 rename_i q hq
 obtain⟨S,x',e,hS,hx'⟩:=hx.two
 obtain⟨args'⟩:=args'
 simp only at e;subst e
 obtain⟨cs',q1,q2,q3,q4,q5⟩:=zH5 (P:=P) hq H hx'
 have h0:argTypes[0]?=some dT:=by rw[← Array.getElem?_toList,ha];rfl
 have hrun:∀ (b':Option Addr) (c':Nat),S=.slice b' n c'→(Builtin.copy_ argTypes type #[S,x']).run P w=
   (match b' with|some a=>(storeCells a cs'.toList).run P w|none=>.ok () w).andThen fun _ w'=>.ok (goInt (Nat.min m n:Nat)) w':=by
  intro b' c' e
  subst e
  unfold Builtin.copy_
  simp only[h0,List.getElem?_toArray,List.getElem?_cons_zero,List.getElem?_cons_succ,Sem.run_bind,run_underlying hu,Result.andThen_ok,zO9 hm hx',zB1 hsz,q1]
  cases b'<;>simp
 unfold zQl at h
 split at h
 ·rename_i hnil
  cases h
  rw[hnil] at q2
  have hnew:cs'.toList=[]:=q2.of_nil
  refine⟨?_,q4⟩
  have H1:HR φ q.2.h w0 w:=by rw[q3];exact H
  have fin:∀ (b':Option Addr) (c':Nat),S=.slice b' n c'→Gives P w0 φ lo q.2 (.int .i64 (Nat.min m n:Nat)) ((do pure (Next.value (← Builtin.copy_ argTypes type #[S,x'])):Sem Next).run P w):=by
   intro b' c' e
   refine zBa (w':=w) (v':=goInt (Nat.min m n:Nat)) ?_ (Ext.refl _ _ _) (.int _ _) H1
   rw[hrun b' c' e,hnew]
   cases b'<;>rfl
  rcases zB0 hS with⟨_,a',e,_⟩|⟨_,_,_,_,_,_,c',_,_,_,_,_,_,e⟩
  ·exact fin _ _ e
  ·exact fin _ _ e
 ·rename_i w1 ws hws
  split at h
  case isFalse=>cases h
  rename_i ho
  split at h
  case h_2=>cases h
  rename_i id off
  split at h
  case h_2=>cases h
  rename_i cs e hg
  split at h
  case h_2=>cases h
  rename_i c2 hp
  cases h
  refine⟨?_,q4⟩
  rw[q3] at hg
  rw[hws] at q2
  have fin:∀ (b sh sz c':Nat),φ id=some (b,sh,sz)→S=.slice (some ⟨b,sh+off,none⟩) n c'→Gives P w0 φ lo (q.2.write id (.cells c2 e false)) (.int .i64 (Nat.min m n:Nat)) ((do pure (Next.value (← Builtin.copy_ argTypes type #[S,x'])):Sem Next).run P w):=by
   intro b sh sz c' hat e1
   obtain⟨b',sh',sz',c3,fz,k⟩:=H.cells _ _ _ _ hg
   have:=k.at_;rw[hat] at this;cases this
   obtain⟨p1,p2⟩:=zD6 (P:=P) H hg k hp ho q2
   have p3:HR φ (q.2.write id (.cells c2 e false)).h w0 (w.setCells b (sh+off) cs'.toList):=by
    have:(q.2.write id (.cells c2 e false)).h=(s.write id (.cells c2 e false)).h:=by simp only[St.write,q3]
    rw[this];exact p2
   refine zBa (w':=w.setCells b (sh+off) cs'.toList) (v':=goInt (Nat.min m n:Nat)) ?_ (Ext.refl _ _ _) (.int _ _) p3
   rw[hrun _ c' e1]
   show Result.andThen ((storeCells ⟨b,sh+off,none⟩ cs'.toList).run P w) _=_
   rw[p1];rfl
  rcases zB0 hS with⟨_,a',e1,k⟩|⟨_,_,b,sh,sz,_,c',k1,_,k2,_,_,_,e1⟩
  ·rcases k with⟨k,_⟩|⟨_,_,b,sh,sz,k1,k2,rfl⟩
   ·cases k
   ·cases k1;exact fin _ _ _ _ k2 e1
  ·cases k1;exact fin _ _ _ _ k2 e1
end
end Go.Det
end
section
namespace Go.Det
variable {P:Program}
section
variable {w0 w:World} {φ:Ren} {l:zAz} {s s':St} {v:Value} {ρ:Operand→Value} {lo:Nat}
theorem zWw {src dst:TypeId}{b:ByteArray}{d:TypeDesc}{x':Value}{r:Value×St}(hs:P.underlying src=some d)(h:zJb P s (P.underlying dst) b=some r)(H:HR φ s.h w0 w)(hx:VR φ (.string b) x')
  (hf:∀ id,s.next≤id→id < r.2.next→φ id=none):
  Gives P w0 φ s.next r.2 r.1 ((do pure (Next.value (← convert src dst x')):Sem Next).run P w)∧s.next≤r.2.next:=by
 rw[zC7 hx]
 unfold zJb typ at h
 split at h
 ·rename_i e hd
  split at h
  case h_2=>cases h
  rename_i he
  cases h
  have hn:φ s.next=none:=hf _ (Nat.le_refl _) (Nat.lt_succ_self _)
  refine⟨?_,Nat.le_succ _⟩
  have hge:b.size≤Go.grownCap w b.size 0 e:=grownCap_ge w b.size 0 e
  have hsize:(Lib.bytesCells w e b).size=Go.grownCap w b.size 0 e:=by
   have:b.data.size=b.size:=rfl
   simp[Lib.bytesCells];omega
  have hcell:∀ i,i < (b.data.toList.map fun x=>Value.int .u8 x.toNat).length→VR φ ((b.data.toList.map fun x=>Value.int .u8 x.toNat).getD i und) ((Lib.bytesCells w e b).getD (0+i) und):=by
   intro i hi
   simp only[List.length_map,Array.length_toList] at hi
   have e1:(b.data.toList.map fun x=>Value.int .u8 x.toNat).getD i und=.int .u8 (b.data.toList.getD i 0).toNat:=by
    have hg:b.data[i]?=some b.data[i]:=Array.getElem?_eq_getElem hi
    simp[List.getD_eq_getElem?_getD,hg]
   have e2:(Lib.bytesCells w e b).getD (0+i) und=.int .u8 (b.data.toList.getD i 0).toNat:=by
    rw[Nat.zero_add,Array.getD_eq_getD_getElem?]
    have hg:b.data[i]?=some b.data[i]:=Array.getElem?_eq_getElem hi
    have hi2:i < b.size:=hi
    simp[Lib.bytesCells,Array.getElem?_append,List.getD_eq_getElem?_getD,hi2]
   rw[e1,e2];exact .int _ _
  refine zBa (w':=Lib.bytesWorld w e b) (Lib.run_convert_string_bytes w src dst e b hs hd he) (Ext.upd hn (w.heap.size,0,Go.grownCap w b.size 0 e)) ?_ ?_
  ·have:=VR.sliceU (φ:=upd φ s.next (w.heap.size,0,Go.grownCap w b.size 0 e)) s.next 0 w.heap.size 0 (Go.grownCap w b.size 0 e) b.size (Go.grownCap w b.size 0 e) 1 (zBe _ _ _) (by omega) (by omega) hge
   exact this
  ·refine H.adopt (b:=w.heap.size) (c:=Lib.bytesCells w e b) (fz:=((Lib.bytesCells w e b).size,(Lib.bytesCells w e b).size+1)) hn rfl rfl rfl (by rw[Lib.bytesWorld_size];omega) (fun k hk _=>Lib.bytesWorld_at_old w e b k hk) H.size
    (by rw[zS5];exact Lib.bytesWorld_at_new w e b) (fun q=>absurd q (zYb e)) (fun j cj ej rj bj sj zj g a=>by have:=H.dom _ _ _ _ a;omega) hsize
    (by have:b.data.size=b.size:=rfl;simp;omega) hcell (fun _ o ho=>by rw[hsize];omega) (fun O q=>by rw[Array.getElem?_eq_none (Nat.le_refl _)] at q;cases q)
 ·rename_i hd
  cases h
  refine⟨zBa (w':=w) (v':=.string b) ?_ (Ext.refl _ _ _) (.string _) H,Nat.le_refl _⟩
  simp[convert,run_underlying hs,run_underlying hd]
 ·cases h
theorem zLl:∀ {r:List Value} {bs:List UInt8},zIc r=some bs→∃ ns:List Int,r=ns.map (Value.int .u8)∧bs=ns.map fun n=>UInt8.ofNat n.toNat
 |[],bs,h=>by simp only[zIc,Option.some.injEq] at h;subst h;exact⟨[],rfl,rfl⟩
 |v::t,bs,h=>by
  unfold zIc at h
  split at h
  ·rename_i heq
   cases heq
  ·rename_i n t' heq
   cases heq
   split at h
   ·rename_i r hr
    cases h
    obtain⟨ns,e1,e2⟩:=zLl hr
    exact⟨n::ns,by rw[e1];rfl,by rw[e2];rfl⟩
   ·cases h
  ·cases h
theorem yDi (ns:List Int):∀ a:ByteArray,ns.foldl (fun r n=>r.push (UInt8.ofNat n.toNat)) a=⟨a.data++(ns.map fun n=>UInt8.ofNat n.toNat).toArray⟩:=by
 induction ns with
 |nil=>intro a;apply ByteArray.ext;simp
 |cons n t ih=>intro a;rw[List.foldl_cons,ih];apply ByteArray.ext;simp[ByteArray.push]
theorem yDj {ns:List Int}{l':List Value}(h:VRL φ (ns.map (Value.int .u8)) l'):l'=ns.map (Value.int .u8):=by
 induction ns generalizing l' with
 |nil=>exact h.of_nil
 |cons n t ih=>obtain⟨v',t',rfl,hv,ht⟩:=h.head;rw[zGr hv,ih ht];rfl
theorem zNt {id off n c:Nat}{x':Value}(h:VR φ (.slice (some ⟨id,off,none⟩) n c) x'):∃ b sh sz c',φ id=some (b,sh,sz)∧x'=.slice (some ⟨b,sh+off,none⟩) n c'∧(c < zEo→c'=c)∧(zEo≤c→n≤c'):=by
 rcases zB0 h with⟨q,a',rfl,k⟩|⟨_,_,b,sh,sz,es,c',k1,k3,k2,_,_,k4,rfl⟩
 ·rcases k with⟨k,_⟩|⟨_,_,b,sh,sz,k1,k2,rfl⟩
  ·cases k
  ·cases k1;exact⟨b,sh,sz,_,k2,rfl,fun _=>rfl,fun k=>by omega⟩
 ·cases k1;exact⟨b,sh,sz,c',k2,rfl,fun k=>by omega,fun _=>k4⟩
theorem zRc {src dst:TypeId} {a:Option Addr} {n c:Nat} {x':Value} {r:Value×St} (h:zEf P s (P.underlying src) (P.underlying dst) a n=some r) (H:HR φ s.h w0 w) (hx:VR φ (.slice a n c) x'):
    Gives P w0 φ lo r.2 r.1 ((do pure (Next.value (← convert src dst x')) : Sem Next).run P w) ∧ r.2.next = s.next := by
  unfold zEf typ at h
  split at h
  case h_2 => cases h
  rename_i e hs hd
  split at h
  case h_2 => cases h
  rename_i he
  split at h
  · cases h
    rw[zHe hx]
    refine⟨zBa (w':=w) (v':=.string .empty) ?_ (Ext.refl _ _ _) (.string _) H,rfl⟩
    rw[run_convert_bytes_string w src dst e none n c hs he hd];rfl
  · rename_i id off
    split at h
    case h_2 => cases h
    rename_i cs e' ro hg
    split at h
    case h_2 => cases h
    rename_i r' hr
    split at h
    case h_2 => cases h
    rename_i bs hbs
    cases h
    obtain⟨b,sh,sz,c',hat,rfl,_,_⟩:=zNt hx
    rw[zB8] at hr
    obtain⟨rfl,hle⟩:=zB3 hr
    obtain⟨ns,e1,e2⟩:=zLl hbs
    refine⟨zBa (w':=w) (v':=.string ⟨bs.toArray⟩) ?_ (Ext.refl _ _ _) (.string _) H,rfl⟩
    rw[run_convert_bytes_string w src dst e _ n c' hs he hd]
    by_cases h0:n=0
    · subst h0
      rw[List.take_zero] at e1
      have : ns = [] := by cases ns with | nil => rfl | cons a t => simp at e1
      subst this
      have := run_bytesToString (P := P) w ⟨b, sh + off, none⟩ 0 c' [] (by simp [loadCells, loadCellsFrom])
      rw[this,e2]
      simp;rfl
    · obtain ⟨b', sh', sz', c2, fz, k⟩ := H.cells _ _ _ _ hg
      have:=k.at_;rw[hat] at this;cases this
      obtain ⟨cs', q1, q2⟩ := zCv (P := P) (n := n) (off := off) k (by simp at hle; omega)
      rw[e1] at q2
      have q3:=yDj q2
      have:(loadCells ⟨b,sh+off,none⟩ n).run P w=.ok (ns.map (Value.int .u8)).toArray w:=by
        rw[q1];congr 1;apply Array.ext';simpa using q3
      rw[run_bytesToString w ⟨b,sh+off,none⟩ n c' ns this,yDi,e2]
      congr 3
      apply Array.ext';simp
  · cases h
theorem zKm {w:World}{b:Nat}{c:Array Value}{e:TypeId}{fz:Nat×Nat}(hb:w.heap[b]?=some (.cells c e fz)):w.shape? b=some (e,c.size):=by simp[World.shape?,hb]
theorem zTc {e:TypeId}{n count:Nat}(hc:P.cellsOf e=n)(hn:1≤n)(h1:1≤count):liesAt P P.depth e count 0 e 1=true:=by
 have hd:P.depth=(2 * (P.types.size+Made.depth)+1)+1:=rfl
 rw[hd]
 simp only[liesAt,Bool.or_eq_true]
 left
 rw[hd]
 have:¬ n=0:=by omega
 simp[rowAt,hc,this,h1,sameLayout]
theorem zJ9 {e:TypeId}(hc:P.cellsOf e=1)(count off n:Nat)(hn:off+n≤count):liesAt P P.depth e count off e n=true:=by
 have hd:P.depth=(2 * (P.types.size+Made.depth)+1)+1:=rfl
 rw[hd]
 simp only[liesAt,Bool.or_eq_true]
 left
 rw[hd]
 simp[rowAt,hc,hn,sameLayout,Nat.mod_one]
theorem zWx {src dst:TypeId} {a:Option Addr} {x':Value} {r:Value×St} (h:zGn P s (P.underlying src) (P.underlying dst) a=some r) (H:HR φ s.h w0 w) (hx:VR φ (.pointer a) x'):
    Gives P w0 φ lo r.2 r.1 ((do pure (Next.value (← convert src dst x')) : Sem Next).run P w) ∧ r.2.next = s.next := by
  unfold zGn at h
  split at h
  · rename_i t hs hd
    split at h
    · cases h
      rw[zIk hx]
      refine⟨zBa (w':=w) (v':=.pointer none) ?_ (Ext.refl _ _ _) .pnil H,rfl⟩
      simp[convert,run_underlying hs,run_underlying hd,Conv.unsafePointer]
    · rename_i id off
      split at h
      case h_2 => cases h
      rename_i cs e ro n hg hn
      split at h
      case isFalse => cases h
      rename_i hc
      cases h
      simp only[Bool.and_eq_true,Nat.ble_eq] at hc
      obtain⟨b,sh,sz,hat,rfl⟩:=zDm hx
      obtain⟨b',sh',sz',c2,fz,k⟩:=H.cells _ _ _ _ hg
      have:=k.at_;rw[hat] at this;cases this
      refine⟨zBa (w':=w) (v':=.pointer (some ⟨b,sh+off,none⟩)) ?_ (Ext.refl _ _ _) hx H,rfl⟩
      have hn0 : ¬ n = 0 := by omega
      have hno : ¬ c2.size ≤ sh + off := by rw [k.size]; have := k.fit; omega
      simp[convert,run_underlying hs,run_underlying hd,Conv.unsafePointer,Conv.seenAt,viewAt,zKm k.blk,cellsIn,zB1 hn,hn0,hno]
    · cases h
  · rename_i u hs hd
    split at h
    · cases h
      rw[zIk hx]
      refine⟨zBa (w':=w) (v':=.pointer none) ?_ (Ext.refl _ _ _) .pnil H,rfl⟩
      simp[convert,run_underlying hs,run_underlying hd,Conv.unsafePointer]
    · rename_i id
      split at h
      case h_2 => cases h
      rename_i cs e ro n hg hn
      split at h
      case isFalse => cases h
      rename_i hc
      cases h
      simp only[Bool.and_eq_true,Nat.ble_eq] at hc
      obtain rfl:=Nat.eq_of_beq_eq_true hc.1
      obtain⟨b,sh,sz,hat,rfl⟩:=zDm hx
      obtain⟨b',sh',sz',c2,fz,k⟩:=H.cells _ _ _ _ hg
      have:=k.at_;rw[hat] at this;cases this
      have h0:sh=0:=k.exact_ (yTj u)
      refine⟨zBa (w':=w) (v':=.pointer (some ⟨b,sh+0,none⟩)) ?_ (Ext.refl _ _ _) hx H,rfl⟩
      have hcells:=zWm hn
      have hsz : n ≤ c2.size := by rw [k.size]; have := k.fit; omega
      have hlies := zTc (P := P) (e := u) (n := n) (count := c2.size / n) hcells hc.2.1 (by rw [Nat.le_div_iff_mul_le (by omega)]; omega)
      have hblk:=zKm k.blk
      rw[zYa] at hblk
      have hn0 : ¬ n = 0 := by omega
      subst h0
      simp[convert,run_underlying hs,run_underlying hd,Conv.unsafePointer,Conv.seenAt,viewAt,hblk,zB1 hn,hn0,variablesAt,hcells,hlies]
    · cases h
  · cases h
theorem zLm {w:World}{b off n:Nat}{c:Array Value}{e:TypeId}{fz:Nat×Nat}(hb:w.heap[b]?=some (.cells c e fz))(hn:n≠0):
  ∃ fz',(w.freeze ⟨b,off,none⟩ n).heap[b]?=some (.cells c e fz')∧(∀ k,k≠b→(w.freeze ⟨b,off,none⟩ n).heap[k]?=w.heap[k]?)∧(w.freeze ⟨b,off,none⟩ n).heap.size=w.heap.size∧
   (w.freeze ⟨b,off,none⟩ n).os=w.os∧(w.freeze ⟨b,off,none⟩ n).output=w.output∧(w.freeze ⟨b,off,none⟩ n).tape=w.tape:=by
 obtain⟨lo,hi⟩:=fz
 refine⟨if lo==hi then(off,off+n) else(min lo off,max hi (off+n)),?_,fun k hk=>?_,?_,?_,?_,?_⟩
 ·simp[World.freeze,hn,Array.getElem?_modify,hb]
 ·simp[World.freeze,hn,Array.getElem?_modify,Ne.symm hk]
 ·simp[World.freeze,hn]
 ·simp[World.freeze,hn]
 ·simp[World.freeze,hn]
 ·simp[World.freeze,hn]
theorem zTd {t:TypeId}{a:Option Addr}{n c:Nat}{x':Value}{r:Value×St}(h:zId P s (P.underlying t) a n c=some r)(H:HR φ s.h w0 w)(hx:VR φ (.slice a n c) x'):
  Gives P w0 φ lo r.2 r.1 ((do pure (Next.value (← convert t t x')):Sem Next).run P w)∧r.2.next=s.next:=by
 unfold zId typ at h
 split at h
 case h_2=>cases h
 rename_i e ht
 split at h
 case h_2=>cases h
 rename_i he
 split at h
 case h_2=>cases h
 rename_i id off
 split at h
 case h_2=>cases h
 rename_i cs el hg
 cases h
 have hx0:=hx
 obtain⟨b,sh,sz,c',hat,rfl,_,_⟩:=zNt hx
 obtain⟨b',sh',sz',c2,fz,k2⟩:=H.cells _ _ _ _ hg
 have:=k2.at_;rw[hat] at this;cases this
 obtain⟨fz',f1,f2,f3,f4,f5,f6⟩:=zLm (off:=c2.size) (n:=1) k2.blk (by decide)
 have hsh:=zKm k2.blk
 obtain⟨hmine,_⟩:=k2.mine rfl
 refine⟨zBa (w':=w.freeze ⟨b,c2.size,none⟩ 1) (v':=.slice (some ⟨b,sh+off,none⟩) n c') ?_ (Ext.refl _ _ _) hx0 ?_,rfl⟩
 ·simp[convert,run_underlying ht,run_underlying he,markStringish,hsh]
 ·exact H.turn hg k2.at_ f4 f5 f6 f3 f2 hmine f1 k2.exact_ k2.size k2.fit k2.cell (fun q=>by cases q)
theorem zWy {src dst:TypeId} {x':Value} {r:Value×St} (h:zK0 P s (P.underlying src) (P.underlying dst)=some r) (H:HR φ s.h w0 w) (hx:VR φ emp x'):
    Gives P w0 φ lo r.2 r.1 ((do pure (Next.value (← convert src dst x')) : Sem Next).run P w) ∧ r.2.next = s.next := by
  unfold zK0 typ at h
  split at h
  case h_2 => cases h
  rename_i e hs hd
  split at h
  case h_2 => cases h
  rename_i he
  cases h
  obtain⟨a,c,rfl⟩:=zLb hx
  refine⟨zBa (w':=w) (v':=.string .empty) ?_ (Ext.refl _ _ _) (.string _) H,rfl⟩
  rw[run_convert_bytes_string w src dst e a 0 c hs he hd]
  cases a with
  | none => rfl
  | some a =>
    have := run_bytesToString (P := P) w a 0 c [] (by simp [loadCells, loadCellsFrom])
    rw[this];rfl
theorem zRd {src dst:TypeId} {x:Operand} (h:zIf P src dst x l s=some (v,s')) (H:HR φ s.h w0 w) (hf:∀ id,s.next≤id→id < s'.next→φ id=none) (hx:VR φ (evalO l x) (ρ x)):
    Gives P w0 φ s.next s' v ((do pure (.value (← convert src dst (ρ x))) : Sem Next).run P w) ∧ s.next ≤ s'.next := by
  unfold zIf zB6 typ at h
  split at h
  · rename_i b hv
    rw[hv] at hx
    split at h
    · rename_i d hd; exact zWw hd h H hx hf
    · cases h
  · rename_i a n c hv
    rw[hv] at hx
    split at h
    · rename_i hsd
      have hsd:=Nat.eq_of_beq_eq_true hsd
      subst hsd
      obtain⟨g,e⟩:=zTd (lo:=s.next) h H hx
      exact⟨g,Nat.le_of_eq e.symm⟩
    · obtain ⟨g, e⟩ := zRc (lo := s.next) h H hx
      exact⟨g,Nat.le_of_eq e.symm⟩
  · rename_i a hv
    rw[hv] at hx
    obtain⟨g,e⟩:=zWx (lo:=s.next) h H hx
    exact⟨g,Nat.le_of_eq e.symm⟩
  · rename_i hv
    rw[hv] at hx
    obtain⟨g,e⟩:=zWy (lo:=s.next) h H hx
    exact⟨g,Nat.le_of_eq e.symm⟩
  · split at h
    case isFalse => cases h
    rename_i hf2
    split at h
    case h_2 => cases h
    rename_i r hr
    split at h
    case isFalse => cases h
    rename_i hfr
    cases h
    rw[zCj hf2 hx]
    exact⟨zAw H (zCi hfr φ) (zFw hr w),Nat.le_refl _⟩
end
end Go.Det
end
section
namespace Go.Det
variable {P:Program}
section
variable {w0 w:World} {φ:Ren} {l:zAz} {s s':St} {v:Value} {ρ:Operand→Value} {lo:Nat}
theorem zDo {α:Type}{a:Array α}{x:α}{t:List α}(h:a.toList=x::t):a[0]?=some x:=by rw[← Array.getElem?_toList,h];rfl
theorem zKa (ts:Array TypeId)(ty pt:TypeId)(k:IntKind)(h:ts[0]?=some pt):(Builtin.unsafeString_ ts ty #[.pointer none,.int k 0]).run P w=.ok (.string .empty) w:=by
 have hmax:IntKind.i64.max=9223372036854775807:=rfl
 have hdef:Builtin.unsafeString_ ts ty #[.pointer none,.int k 0]=
   (do
    let n ← asInt (.int k 0)
    let some _:=ts[0]?|stuck "unsafe.String: no argument types"
    if n < 0 then runtimePanic (.error "unsafe.String: len out of range")
    if n > IntKind.i64.max then unsupported (.unsafePointer "String: a length above the largest int")
    if n=0 then pure (.string .empty)
    else runtimePanic (.error "unsafe.String: ptr is nil and len is not zero")):=rfl
 rw[hdef]
 simp[asInt,asIntOf,hmax,h]
theorem zJi (ts:Array TypeId)(ty pt u:TypeId)(k:IntKind)(a:Addr)(n:Int)(bs:ByteArray)(h:ts[0]?=some pt)(hu:P.underlying pt=some (.pointer u))(h0:0 < n)(h1:n≤9223372036854775807)
  (hv:(variablesAt a u n.toNat).run P w=.ok true w) (hl:(loadBytes a .empty n.toNat).run P w=.ok bs w):(Builtin.unsafeString_ ts ty #[.pointer (some a),.int k n]).run P w=.ok (.string bs) (w.freeze a n.toNat):=by
 have hmax:IntKind.i64.max=9223372036854775807:=rfl
 have hdef:Builtin.unsafeString_ ts ty #[.pointer (some a),.int k n]=
   (do
    let n ← asInt (.int k n)
    let some pt:=ts[0]?|stuck "unsafe.String: no argument types"
    if n < 0 then runtimePanic (.error "unsafe.String: len out of range")
    if n > IntKind.i64.max then unsupported (.unsafePointer "String: a length above the largest int")
    if n=0 then pure (.string .empty)
    else if ← variablesAt a (← elemOf pt) n.toNat then do
     let s ← loadBytes a .empty n.toNat
     freeze a n.toNat
     pure (.string s)
    else unsupported (.unsafePointer "String: not so many bytes at ptr")):=rfl
 have i1:¬ (n < 0):=by omega
 have i2:¬ (n > 9223372036854775807):=by omega
 have i3:¬ (n=0):=by omega
 rw[hdef]
 simp[asInt,asIntOf,hmax,h,i1,i2,i3,elemOf,run_underlying hu,hv,hl]
theorem zLn {ts:Array TypeId}{type pt:TypeId}{rest:List TypeId}{args:List Value}{args':Array Value}{r:Value×St}(ha:ts.toList=pt::rest)(h:zB7 P s (P.underlying pt) args=some r)(H:HR φ s.h w0 w)
  (hx:VRL φ args args'.toList):
  Gives P w0 φ lo r.2 r.1 ((do pure (Next.value (← Builtin.unsafeString_ ts type args')):Sem Next).run P w)∧r.2.next=s.next:=by
 unfold zB7 at h
 split at h
 case h_2=>cases h
 rename_i a k n
 obtain⟨A,N,e,hA,hN⟩:=hx.two
 obtain⟨args'⟩:=args'
 simp only at e;subst e
 rw[zGr hN]
 have h0:=zDo ha
 split at h
 ·split at h
  case isFalse=>cases h
  rename_i hn
  cases h
  subst hn
  rw[zIk hA]
  exact⟨zBa (w':=w) (v':=.string .empty) (zKa ts type pt k h0) (Ext.refl _ _ _) (.string _) H,rfl⟩
 ·rename_i id off
  split at h
  case h_2=>cases h
  rename_i u cs e hu hg
  split at h
  case isFalse=>cases h
  rename_i hn
  split at h
  case isFalse=>cases h
  rename_i hc
  simp only[Bool.and_eq_true] at hc
  split at h
  case h_2=>cases h
  rename_i r' hr
  split at h
  case h_2=>cases h
  rename_i bs hbs
  cases h
  have hu1:=Nat.eq_of_beq_eq_true hc.1
  have hc1:=Nat.eq_of_beq_eq_true hc.2
  rw[zB8] at hr
  obtain⟨rfl,hle⟩:=zB3 hr
  obtain⟨ns,e1,e2⟩:=zLl hbs
  obtain⟨b,sh,sz,hat,rfl⟩:=zDm hA
  obtain⟨b',sh',sz',c2,fz,k2⟩:=H.cells _ _ _ _ hg
  have:=k2.at_;rw[hat] at this;cases this
  have hfit:=k2.fit
  have hsz:=k2.size
  obtain⟨m,rfl⟩:∃ m:Nat,n=(m:Int):=⟨n.toNat,by omega⟩
  simp only[Int.toNat_natCast] at *
  have hoff:off+m≤cs.length:=by simp at hle;omega
  obtain⟨cs',q1,q2⟩:=zCv (P:=P) (n:=m) (off:=off) k2 hoff
  have hlen:ns.length=m:=by have:=congrArg List.length e1;simp at this;omega
  have hcell:∀ j x,(ns.map fun n=>UInt8.ofNat n.toNat)[j]?=some x→w.cell? ((⟨b,sh+off,none⟩:Addr).add j)=some (.int .u8 (ns.getD j 0)):=by
   intro j x hj
   have hjl:j < ns.length:=by
    rcases Nat.lt_or_ge j ns.length with q|q
    ·exact q
    ·rw[List.getElem?_eq_none (by simpa using q)] at hj;cases hj
   rw[zC1,cell_at k2.blk _ (by omega)]
   have:=k2.cell (off+j) (by omega)
   have e3:cs.getD (off+j) und=.int .u8 (ns.getD j 0):=by
    have:((cs.drop off).take m).getD j und=.int .u8 (ns.getD j 0):=by
     rw[e1];simp[List.getD_eq_getElem?_getD,hjl]
    rw[← this]
    simp[List.getD_eq_getElem?_getD,List.getElem?_take_of_lt (show j < m by omega)]
   rw[e3] at this
   have:=zGr this
   rw[Nat.add_assoc,this]
  have hload:∀ (ns:List Int) (o:Nat) (acc:ByteArray),(∀ j,j < ns.length→w.cell? ⟨b,o+j,none⟩=some (.int .u8 (ns.getD j 0)))→
    (loadBytes ⟨b,o,none⟩ acc ns.length).run P w=.ok ⟨acc.data++(ns.map fun n=>UInt8.ofNat n.toNat).toArray⟩ w:=by
   intro ns
   induction ns with
   |nil=>intro o acc _;simp[loadBytes]
   |cons n t ih=>
    intro o acc hj
    have c0:=hj 0 (by simp)
    have hih:=ih (o+1) (acc.push (n.toNat.toUInt8)) (fun j hj'=>by
     have:=hj (j+1) (by simpa using hj')
     rw[Nat.add_assoc,Nat.add_comm 1 j];exact this)
    simp only[List.length_cons,loadBytes,Sem.run_bind,run_load]
    rw[show(⟨b,o,none⟩:Addr)=⟨b,o+0,none⟩ from rfl,c0]
    simp only[Result.andThen_ok,List.getD_cons_zero,zC1,Nat.add_zero]
    rw[hih]
    congr 1
    apply ByteArray.ext;simp[ByteArray.push]
  have hl2:=hload ns (sh+off) .empty (fun j hj=>by
   have:=hcell j _ (List.getElem?_eq_getElem (by simpa using hj))
   rwa [zC1] at this)
  rw[hlen] at hl2
  have hm0:m≠0:=by omega
  obtain⟨fz',f1,f2,f3,f4,f5,f6⟩:=zLm (off:=sh+off) (n:=m) k2.blk hm0
  have hlies:=zJ9 (P:=P) hc1 (c2.size / P.cellsOf u) (sh+off) m (by rw[hc1];omega)
  have hsh:=zKm k2.blk
  rw[hu1] at hsh
  refine⟨zBa (w':=w.freeze ⟨b,sh+off,none⟩ m) (v':=.string ⟨bs.toArray⟩) ?_ (Ext.refl _ _ _) (.string _) ?_,rfl⟩
  ·have hv:(variablesAt ⟨b,sh+off,none⟩ u ((m:Int)).toNat).run P w=.ok true w:=by
    simp only[variablesAt,Sem.run_bind,run_program,Result.andThen_ok,run_shape,hsh,Int.toNat_natCast,Sem.run_pure,hlies]
   have:=zJi (P:=P) ts type pt u k ⟨b,sh+off,none⟩ (m:Int) _ h0 hu (by omega) (by omega) hv (by rw[Int.toNat_natCast];exact hl2)
   rw[this,e2]
   congr 2
   apply ByteArray.ext;simp
  ·obtain⟨hmine,_⟩:=k2.mine rfl
   exact H.turn hg k2.at_ f4 f5 f6 f3 f2 hmine f1 k2.exact_ k2.size k2.fit k2.cell (fun q=>by cases q)
 ·cases h
end
end Go.Det
end
section
namespace Go.Det
variable {P:Program}
section
variable {w0 w:World} {φ:Ren} {l:zAz} {s s':St} {v:Value} {ρ:Operand→Value} {lo:Nat}
theorem yHl {ts:Array TypeId}{type t:TypeId}{rest:List TypeId}{x:Value}{args:List Value}{args':Array Value}{n:Nat}(ha:ts.toList=t::rest)(h:yM9 P (P.underlying t) x=some n)
  (hx:VRL φ (x::args) args'.toList) (w:World):(Builtin.len_ ts type args').run P w=.ok (.int .i64 n) w:=by
 obtain⟨x',t',e,hx',_⟩:=hx.head
 have h0:=zDo ha
 have h1:=zDo e
 unfold yM9 at h
 split at h
 ·rename_i hu
  split at h
  ·cases h
   have:=zC7 hx'
   subst this
   simp[Builtin.len_,h0,h1,run_underlying hu,goInt]
  ·cases h
 ·rename_i el hu
  split at h
  ·cases h
   rcases zB0 hx' with⟨_,a',rfl,_⟩|⟨_,_,_,_,_,_,_,_,_,_,_,_,_,rfl⟩<;>simp[Builtin.len_,h0,h1,run_underlying hu,goInt]
  ·cases h
   obtain⟨a,c,rfl⟩:=zLb hx'
   simp[Builtin.len_,h0,h1,run_underlying hu,goInt]
  ·cases h
 ·rename_i k el hu
  split at h
  ·cases h
   have:=zIl hx'
   subst this
   simp[Builtin.len_,h0,h1,run_underlying hu,goInt]
  ·cases h
 ·rename_i m el hu
  cases h
  simp[Builtin.len_,h0,h1,run_underlying hu,goInt]
 ·rename_i arr hu
  unfold typ at h
  split at h
  ·rename_i m el hu2
   cases h
   simp[Builtin.len_,h0,h1,run_underlying hu,run_underlying hu2,goInt]
  ·cases h
 ·cases h
theorem yHm {ts:Array TypeId}{type t:TypeId}{rest:List TypeId}{x:Value}{args:List Value}{args':Array Value}{n:Nat}(ha:ts.toList=t::rest)(h:yNa (P.underlying t) x=some n)
  (hx:VRL φ (x::args) args'.toList) (w:World):(Builtin.cap_ ts type args').run P w=.ok (.int .i64 n) w:=by
 obtain⟨x',t',e,hx',_⟩:=hx.head
 have h0:=zDo ha
 have h1:=zDo e
 unfold yNa at h
 split at h
 ·rename_i el hu
  split at h
  ·rename_i a k c
   split at h
   ·cases h
   ·rename_i hc
    cases h
    have hc:n < zEo:=by simpa using hc
    rcases zB0 hx' with⟨_,a',rfl,_⟩|⟨_,_,_,_,_,es,_,_,q,_,_,_,_,_⟩
    ·simp[Builtin.cap_,h0,h1,run_underlying hu,goInt]
    ·omega
  ·cases h
 ·cases h
theorem zYl {argTypes:Array TypeId}{type:TypeId}{args:List Value}{args':Array Value}{r:Value×St}(h:zJw P s argTypes args=some r)(H:HR φ s.h w0 w)
  (hx:VRL φ args args'.toList):
  Gives P w0 φ lo r.2 r.1 ((do pure (Next.value (← Builtin.clear_ argTypes type args')):Sem Next).run P w)∧r.2.next=s.next:=by
 unfold zJw typ at h
 split at h
 case h_2=>cases h
 rename_i dT x ha
 split at h
 case h_2=>cases h
 rename_i elem hu
 obtain⟨x',e,hx'⟩:=hx.one
 have e2:args'=#[x']:=by apply Array.ext';simpa using e
 subst e2
 have h0:argTypes[0]?=some dT:=zDo ha
 have h1:(#[x']:Array Value)[0]?=some x':=rfl
 split at h
 ·cases h
  obtain⟨a,c,rfl⟩:=zLb hx'
  refine⟨zBa (w':=w) (v':=.tuple #[]) ?_ (Ext.refl _ _ _) (.any _) H,rfl⟩
  cases a<;>simp[Builtin.clear_,h0,run_underlying hu]
 ·rename_i base n c
  split at h
  ·cases h
   refine⟨zBa (w':=w) (v':=.tuple #[]) ?_ (Ext.refl _ _ _) (.any _) H,rfl⟩
   rcases zB0 hx' with⟨_,a',rfl,_⟩|⟨_,_,_,_,_,_,c',_,_,_,_,_,_,rfl⟩
   ·cases a'<;>simp[Builtin.clear_,h0,run_underlying hu]
   ·simp[Builtin.clear_,h0,run_underlying hu]
  ·rename_i m
   split at h
   case h_2=>cases h
   rename_i z hz
   unfold zKy at h
   split at h
   case h_2=>cases h
   rename_i id off ho
   split at h
   case h_2=>cases h
   rename_i cs e hg
   split at h
   case h_2=>cases h
   rename_i c2 hp
   cases h
   obtain⟨b,sh,sz,c0,fz,k⟩:=H.cells _ _ _ _ hg
   obtain⟨ie,e1,_,e3,_⟩:=zC6 hz
   have hrel:VRL φ (zCb (zA9 z) (m+1)) (Builtin.zeroCells z.cells (m+1)).toList:=by
    have:=zKl hz e1 φ (m+1)
    have hlen:z.cells.size=ie.size:=by have:=(zDn hz φ).1;simp at this;omega
    unfold Builtin.zeroCells
    rw[hlen]
    rw[hlen] at this
    exact this
   obtain⟨q1,q2⟩:=zD6 (P:=P) H hg k hp ho hrel
   have hx2:∃ c',x'=.slice (some ⟨b,sh+off,none⟩) (m+1) c':=by
    rcases zB0 hx' with⟨_,a',rfl,k2⟩|⟨id2,off2,b2,sh2,sz2,es,c',k0,_,hat,_,_,_,rfl⟩
    ·rcases k2 with⟨k2,_⟩|⟨id2,off2,b2,sh2,sz2,k1,hat,rfl⟩
     ·cases k2
     ·cases k1
      rw[k.at_] at hat;cases hat
      exact⟨_,rfl⟩
    ·cases k0
     rw[k.at_] at hat;cases hat
     exact⟨_,rfl⟩
   obtain⟨c',rfl⟩:=hx2
   refine⟨zBa (w':=w.setCells b (sh+off) (Builtin.zeroCells z.cells (m+1)).toList) (v':=.tuple #[]) ?_ (Ext.refl _ _ _) (.any _) q2,rfl⟩
   simp[Builtin.clear_,h0,run_underlying hu,zCl hz,Result.andThen,q1]
 ·cases h
theorem zRe {b:Builtin} {ts:Array TypeId} {type:TypeId} {xs:Array Operand} {consts:Array Bool} (h:zFg P b ts type xs l s=some (v,s')) (H:HR φ s.h w0 w) (hf:∀ id,s.next≤id→id < s'.next→φ id=none)
    (hx:∀ x∈xs.toList,VR φ (evalO l x) (ρ x)):Gives P w0 φ s.next s' v ((builtin b ts type consts (xs.map ρ)).run P w)∧s.next≤s'.next:=by
  have hL : VRL φ (zE6 l xs.toList) (xs.map ρ).toList := by rw [Array.toList_map]; exact zKj hx
  unfold zFg zBn at h
  split at h
  · exact zWv h H hL hf
  · obtain ⟨g, e⟩ := yDh (P := P) (type := type) (lo := s.next) h H hL; exact ⟨g, Nat.le_of_eq e.symm⟩
  · obtain ⟨g, e⟩ := zYl (P := P) (type := type) (lo := s.next) h H hL; exact ⟨g, Nat.le_of_eq e.symm⟩
  · split at h
    · rename_i t rest x args ha he
      rw[he] at hL
      unfold ofN typ at h
      split at h
      · rename_i n hn
        cases h
        exact⟨zBa (w':=w) (v':=.int .i64 n) (yHl ha hn hL w) (Ext.refl _ _ _) (.int _ _) H,Nat.le_refl _⟩
      · cases h
    · cases h
  · split at h
    · rename_i t rest x args ha he
      rw[he] at hL
      unfold ofN typ at h
      split at h
      · rename_i n hn
        cases h
        exact⟨zBa (w':=w) (v':=.int .i64 n) (yHm ha hn hL w) (Ext.refl _ _ _) (.int _ _) H,Nat.le_refl _⟩
      · cases h
    · cases h
  · unfold zD8 at h
    split at h
    · rename_i a n c he
      rw[he] at hL
      obtain⟨x',e,hx'⟩:=hL.one
      have e2 : xs.map ρ = #[x'] := by apply Array.ext'; simpa using e
      rw[e2]
      split at h
      · cases h
        have:=zHe hx'
        subst this
        exact⟨zBa (w':=w) (v':=.pointer none) (Lib.run_unsafeSliceData_nil w ts type n c) (Ext.refl _ _ _) .pnil H,Nat.le_refl _⟩
      · rename_i a
        split at h
        · rename_i hU
          have hU : zEo ≤ c := by simpa using hU
          split at h
          case isFalse => cases h
          rename_i hc
          cases h
          have hc : 1 ≤ n := by simpa using hc
          rcases zB0 hx' with ⟨q, a', rfl, k⟩ | ⟨id, off, b, sh, sz, es, c', k0, rfl, hat, _, _, k, rfl⟩
          · omega
          · cases k0
            exact ⟨zBa (w' := w) (v' := .pointer (some ⟨b, sh + off, none⟩)) (Lib.run_unsafeSliceData_row w ts type _ n c' (by omega)) (Ext.refl _ _ _) (.ptr _ _ _ _ _ hat) H, Nat.le_refl _⟩
        · rename_i hU
          have hU : ¬ zEo ≤ c := by simpa using hU
          split at h
          case isFalse => cases h
          rename_i hc
          cases h
          have hc : 1 ≤ c := by simpa using hc
          rcases zB0 hx' with ⟨q, a', rfl, k⟩ | ⟨id, off, b, sh, sz, es, c', k0, rfl, hat, _, _, k, rfl⟩
          · rcases k with ⟨k, _⟩ | ⟨id, off, b, sh, sz, k1, hat, rfl⟩
            · cases k
            · cases k1
              exact ⟨zBa (w' := w) (v' := .pointer (some ⟨b, sh + off, none⟩)) (Lib.run_unsafeSliceData_row w ts type _ n c (by omega)) (Ext.refl _ _ _) (.ptr _ _ _ _ _ hat) H, Nat.le_refl _⟩
          · omega
    · cases h
  · split at h
    · rename_i pt rest ha
      obtain⟨g,e⟩:=zLn (P:=P) (type:=type) (lo:=s.next) ha h H hL;exact⟨g,Nat.le_of_eq e.symm⟩
    · cases h
  all_goals first
    | (unfold zH0 at h
       split at h
       · rename_i hfl
         split at h
         · rename_i r hr
           split at h
           · rename_i hfr
             cases h
             have e:=zCf hfl hL
             have e2 : xs.map ρ = (zE6 l xs.toList).toArray := by apply Array.ext'; simpa using e
             refine⟨?_,Nat.le_refl _⟩
             have:=zFw hr w
             rw[e2]
             refine (show Gives P w0 φ s.next s v (Result.ok (Next.value v) w) from ⟨φ, Ext.refl _ _ _, zCi hfr φ, H⟩) |> fun g => ?_
             rw[← this] at g
             exact g
           · cases h
         · cases h
       · cases h)
    | cases h
end
end Go.Det
end
end

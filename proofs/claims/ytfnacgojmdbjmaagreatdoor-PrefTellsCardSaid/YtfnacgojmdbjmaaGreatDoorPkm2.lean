/- Texts of a proof, joined: words of the print (those that are named here) and printed functions. -/
import Derived.Test.YtfnacgojmdbjmaaGreatDoorPkm1
import Derived.Laws.Externs
import Derived.Lib.Bytealg
import Derived.Lib.Index
import Derived.Lib.MakeNoZero
import Derived.Test.YtfnacgojmdbjmaaGreatDoorRows
import Derived.Test.YtfnacgojmdbjmaaGreatDoorCards
import Derived.Test.YtfnacgojmdbjmaaGreatDoorTie
import Derived.ChangeSame
import Derived.ProofKit
import Derived.LaidMore
import Derived.OpenShut
import Derived.Stop.Joined
import Derived.HandedShaped
import Derived.Lay
import Derived.Shelf.LaysM
import Derived.Shelf.Strings.Search2
import Derived.Shelf.Strings.Shaped
import Derived.Below
import Derived.Deep.Draws
import Derived.Shelf.Spec.TrailingZeros
import Derived.Deep.AppendLies
import Derived.Maps.AppendAt
import Derived.OwnWalk
import Derived.Laws.BytesArg
import Derived.Laws.MakeOwn
import Derived.Laws.OwnMore
import Derived.Deep.OwnRows
import Derived.Tactics
import Derived.Lib.ConvBytes
import Derived.Laws.Slices
import Derived.WalkKit
import Derived.KernelRfl
import Derived.RowKit3
import Derived.Deep.LoopGhost
import Derived.Deep.QuietTactic
import Derived.BigQuiet
import Derived.WideLaws
import Derived.Deep.DeepCutAuto
import Derived.Deep.CutBlock
import Derived.Deep.RegionHeld3
import Derived.Laws.Rows
import Derived.Lib.AppendStr
import Derived.ArgAppend
import Derived.Laws.IdiomCopy
import Derived.RowKit
import Derived.OrdersHeld
import Derived.Laws.BitsLemmas
import Derived.Laws.StructEq
import Derived.Test.YtfnacgojmdbjmaaGreatDoorProg
set_option linter.unusedSimpArgs false
set_option linter.unusedVariables false
set_option maxRecDepth 100000
noncomputable section
namespace Go.Det
variable {P:Program}
abbrev Own:=List Value→St→Option (Value×St)
def zZf (g:Own):Prop:=∀ args,Tr (g args)
def zGh (P:Program)(w0:World)(G:Nat)(f:FuncId)(g:Own):Prop:=∀ args s v s',g args s=some (v,s')→∀ φ w args',HR φ s.h w0 w→Glob G φ→VRL φ args args'→(∀ id,s.next≤id→id < s'.hi→φ id=none)→Full s'.hi s→
  Gives P w0 φ s.next s' v ((callFunc f ⟨args'⟩).run P w)
def zTl:List (Nat×Own)→zSv
 |[]=>fun _=>none
 |x::t=>fun f=>match Nat.beq x.1 f with|true=>some x.2|false=>zTl t f
theorem zIt:∀ {l:List (Nat×Own)} {f:FuncId} {g:Own},zTl l f=some g→(f,g)∈l
 |[],f,g,h=>by cases h
 |x::t,f,g,h=>by
  unfold zTl at h
  split at h
  ·rename_i hb
   cases h
   rw[← Nat.eq_of_beq_eq_true hb]
   exact List.mem_cons_self
  ·exact List.mem_cons_of_mem _ (zIt h)
theorem yHq {l:List (Nat×Own)}(h:∀ x∈l,zZf x.2):zL0 (zTl l):=fun _ _ e=>h _ (zIt e)
theorem yHr {w0:World}{G:Nat}{l:List (Nat×Own)}(h:∀ x∈l,zGh P w0 G x.1 x.2):zL1 P w0 G (zTl l):=fun _ _ e=>h _ (zIt e)
def zDb (h:List Value→Option Value):Own:=fun args s=>match h args with|some v=>some (v,s)|none=>none
theorem zF2 (h:List Value→Option Value):zZf (zDb h):=fun args=>zBd (h args) fun s=>by unfold zDb;cases h args<;>rfl
theorem zPl {w0:World}{G:Nat}{f:FuncId}{h:List Value→Option Value}(k:∀ args v,h args=some v→zCp args=true∧flat v=true∧∀ w,(callFunc f ⟨args⟩).run P w=.ok (.value v) w):zGh P w0 G f (zDb h):=by
 intro args s v s' e φ w args' H _ hA _ _
 unfold zDb at e
 split at e
 ·rename_i r hr
  cases e
  obtain⟨h1,h2,h3⟩:=k args v hr
  rw[zCf h1 hA,h3 w]
  exact⟨φ,Ext.refl _ _ _,zCi h2 φ,H⟩
 ·cases e
def Entry (P:Program)(f:FuncId)(e:Array Value→Sem Value):Prop:=∀ args w,(callFunc f args).run P w=((e args).run P w).andThen fun v w'=>.ok (.value v) w'
theorem Entry.mk {f:FuncId}{fn:Func}{e:Array Value→Sem Value}(hf:P.funcs[f]?=some fn)(hname:(fn.name== "runtime.NumGoroutine")=false)
  (hb:fn.body.isNone=true) (hn:Extern.findNext fn=none) (he:Extern.find fn=some e):Entry P f e:=fun args w=>run_callFunc_extern hf hname hb hn he args w
def yPd:List Value→Option Value
 |[.int .u64 x,.int .u64 y,.int .u64 c]=>match Nat.ble c.toNat 1 with
  |true=>some (.tuple #[.int .u64 (((x.toNat+y.toNat+c.toNat) % 18446744073709551616:Nat):Int),.int .u64 (((x.toNat+y.toNat+c.toNat) / 18446744073709551616:Nat):Int)])
  |false=>none
 |_=>none
theorem yD0 {w0:World}{G:Nat}{f:FuncId}(he:Entry P f add64Entry):zGh P w0 G f (zDb yPd):=by
 refine zPl fun args v h=>?_
 unfold yPd at h
 split at h
 case h_2=>cases h
 rename_i x y c
 split at h
 case h_2=>cases h
 rename_i hc
 have hc:=Nat.le_of_ble_eq_true hc
 cases h
 refine⟨rfl,rfl,fun w=>?_⟩
 rw[he]
 have key:(add64Entry #[.int .u64 x,.int .u64 y,.int .u64 c]).run P w=.ok (Extern.MathBitsCarry.pair ((x.toNat+y.toNat+c.toNat) % Extern.MathBitsCarry.m64) ((x.toNat+y.toNat+c.toNat) / Extern.MathBitsCarry.m64)) w:=by
  match c,hc with
  |.ofNat 0,_=>rfl
  |.ofNat 1,_=>rfl
  |.negSucc _,_=>rfl
 exact congrArg (fun r:Result Value=>Result.andThen r fun v w'=>Result.ok (Next.value v) w') key
def yHs:Own:=fun args s=>match args with|[]=>some (.bool true,s)|_=>none
theorem HR.keep {φ:Ren}{h:Heap}{w0 w w':World}(H:HR φ h w0 w)(k:yQf w w')(ht:w'.tape=w.tape):HR φ h w0 w':=by
 refine⟨k.os.trans H.os,k.output.trans H.output,ht.trans H.tape,Nat.le_trans H.size k.size,fun b hb=>(k.old b (Nat.lt_of_lt_of_le hb H.size)).trans (H.old b hb),fun id b sh sz e=>Nat.lt_of_lt_of_le (H.dom _ _ _ _ e) k.size,fun id cs e ro g=>?_,H.inj,fun id es g=>?_,H.oinj⟩
 ·obtain⟨b,sh,sz,c,fz,q⟩:=H.cells _ _ _ _ g
  exact⟨b,sh,sz,c,fz,q.at_,(k.old b (H.dom _ _ _ _ q.at_)).trans q.blk,q.exact_,q.size,q.fit,q.cell,q.mine⟩
 ·obtain⟨b,sh,sz,O,q⟩:=H.obs _ _ g
  exact⟨b,sh,sz,O,q.at_,(k.old b (H.dom _ _ _ _ q.at_)).trans q.blk,q.zero,q.mine,q.ob⟩
theorem Laying.move {G:Nat}{W w:World}{h:Heap}(L:Laying G W h)(hs:W.heap.size≤w.heap.size)(hold:∀ b,b < W.heap.size→w.heap[b]?=W.heap[b]?)(hG:G≤W.heap.size):Laying G w h:=by
 have hg:glob G w=glob G W:=by
  funext g
  unfold glob
  by_cases q:g < G
  ·rw[if_pos q,if_pos q,hold g (by omega)]
  ·rw[if_neg q,if_neg q]
 refine⟨⟨rfl,rfl,rfl,Nat.le_refl _,fun _ _=>rfl,fun id b sh sz e=>?_,fun id cs e ro q=>?_,fun i j ci ei cj ej r bi si zi bj sj zj hij gi gj ai aj=>?_,fun id es q=>absurd q (L.nomp id es),fun i j ei ej bi si zi bj sj zj hij gi _ _ _=>absurd gi (L.nomp i ei)⟩,L.ro,L.nomp,L.top⟩
 ·rw[hg] at e;exact Nat.lt_of_lt_of_le (L.hr.dom _ _ _ _ e) hs
 ·obtain⟨b,sh,sz,c,fz,k⟩:=L.hr.cells _ _ _ _ q
  have hr:=L.ro _ _ _ _ q
  exact⟨b,sh,sz,c,fz,by rw[hg];exact k.at_,(hold b (L.hr.dom _ _ _ _ k.at_)).trans k.blk,k.exact_,k.size,k.fit,fun i hi=>by rw[hg];exact k.cell i hi,fun hn=>by rw[hr] at hn;cases hn⟩
 ·rw[hg] at ai aj;exact L.hr.inj _ _ _ _ _ _ _ _ _ _ _ _ _ hij gi gj ai aj
theorem yHt {W:World}{G mask N n k top:Nat}{ext:zSv}{f:FuncId}{fn:Func}{c:Code}{h:Heap}(L:Laying G W h)(hGW:G≤W.heap.size)(hGt:G≤top)
  (hm:P.follows .mixedOrders=true) (hok:(Nat.ble (mask+1) (Nat.shiftLeft 1 N)&&zL4 P G mask N)=true) (hit:zL0 ext) (hio:∀ w,W.heap.size≤w.heap.size→(∀ b,b < W.heap.size→w.heap[b]?=W.heap[b]?)→zL1 P w G ext)
  (hf:P.funcs[f]?=some fn) (hb:fn.body=some c) (hn:(fn.name== "runtime.NumGoroutine")=false)
  (e:isTrue (zJf P (zEw mask ext) n k f [] (zAo h top))=true):zGh P W G f yHs:=by
 intro args s v s' ed φ w args' H _ hA _ _
 unfold yHs at ed
 split at ed
 case h_2=>cases ed
 cases ed
 rw[hA.of_nil,zBj hf hb hn]
 have Lw:=L.move H.size H.old hGW
 obtain⟨s1,e⟩:=zTk e
 refine(zU4 (args:=[]) hm hok hit (hio w H.size H.old) hf hb hn Lw.hr (zEj G w) (VRL.nil _) (zDu G w hGt) (fun id q=>Lw.top id (Nat.le_trans hGt q)) e).mono ?_
 rintro e W' ⟨v',φ',rfl,_,hv,H'⟩
 rw[zHd hv]
 exact⟨.bool true,φ,rfl,Ext.refl _ _ _,.bool true,H.keep H'.kept H'.tape⟩
end Go.Det
namespace Go.Det
variable (P:Program)
def zAm (b:Bool)(A B:Prop):Prop:=match b with|true=>A|false=>B
theorem zHi {b:Bool}{A B:Prop}(h1:b=true→A)(h2:b=false→B):zAm b A B:=by
 cases b
 ·exact h2 rfl
 ·exact h1 rfl
theorem zGy {b:Bool}{A B A' B':Prop}(h1:A→A')(h2:B→B')(h:zAm b A B):zAm b A' B':=by
 cases b
 ·exact h2 h
 ·exact h1 h
abbrev KV:=Value→St→Prop
abbrev KT:=zAz→St→Prop
abbrev KC:=Ex→zAz→St→Prop
def zZg (r:Option (Value×St))(K:KV):Prop:=match r with|some x=>K x.1 x.2|none=>False
def yPe:List Value→Nat→(Value→Prop)→Prop
 |[],_,_=>False
 |v::_,0,K=>K v
 |_::t,n+1,K=>yPe t n K
def yD1:Nat→List Value→(List Value→Prop)→Prop
 |0,cs,K=>K cs
 |_+1,[],_=>False
 |n+1,_::t,K=>yD1 n t K
def zZh:Nat→List Value→(List Value→Prop)→Prop
 |0,_,K=>K []
 |_+1,[],_=>False
 |n+1,v::t,K=>zZh n t fun r=>K (v::r)
def yPf:Nat→List Value→List Value→(List Value→Prop)→Prop
 |0,l,ws,K=>zZh ws.length l fun _=>K (ws++l.drop ws.length)
 |_+1,[],_,_=>False
 |n+1,x::t,ws,K=>yPf n t ws fun r=>K (x::r)
theorem zN0 {K:Value→Prop}:∀ {l:List Value} {n:Nat} {v:Value},l[n]?=some v→K v→yPe l n K
 |[],n,v,h,_=>by simp at h
 |x::t,0,v,h,k=>by simp only[List.getElem?_cons_zero,Option.some.injEq] at h;subst h;exact k
 |x::t,n+1,v,h,k=>by rw[List.getElem?_cons_succ] at h;exact zN0 (l:=t) h k
theorem zL6 {K:Value→Prop}:∀ {l:List Value} {n:Nat},yPe l n K→∃ v,l[n]?=some v∧K v
 |[],_,h=>h.elim
 |v::_,0,h=>⟨v,rfl,h⟩
 |_::t,n+1,h=>by obtain⟨v,e,k⟩:=zL6 (l:=t) h;exact⟨v,by rw[List.getElem?_cons_succ];exact e,k⟩
theorem zH7 {K:List Value→Prop}:∀ {n:Nat} {l:List Value},n≤l.length→K (l.drop n)→yD1 n l K
 |0,l,_,k=>k
 |n+1,[],h,_=>by simp at h
 |n+1,x::t,h,k=>zH7 (l:=t) (by simpa using h) k
theorem zJl {K:List Value→Prop}:∀ {n:Nat} {l:List Value},yD1 n l K→n≤l.length∧K (l.drop n)
 |0,l,k=>⟨Nat.zero_le _,k⟩
 |n+1,[],h=>h.elim
 |n+1,x::t,h=>by obtain⟨a,b⟩:=zJl (l:=t) h;exact⟨by simpa using a,b⟩
theorem zF3 {K:List Value→Prop}:∀ {n:Nat} {l:List Value},n≤l.length→K (l.take n)→zZh n l K
 |0,l,_,k=>k
 |n+1,[],h,_=>by simp at h
 |n+1,x::t,h,k=>zF3 (l:=t) (by simpa using h) k
theorem zHj {K:List Value→Prop}:∀ {n:Nat} {l:List Value},zZh n l K→n≤l.length∧K (l.take n)
 |0,l,k=>⟨Nat.zero_le _,k⟩
 |n+1,[],h=>h.elim
 |n+1,x::t,h=>by obtain⟨a,b⟩:=zHj (l:=t) h;exact⟨by simpa using a,b⟩
theorem zN1 {K:List Value→Prop}:∀ {n:Nat} {l ws:List Value},n+ws.length≤l.length→K (l.take n++ws++l.drop (n+ws.length))→yPf n l ws K
 |0,l,ws,h,k=>zF3 (by omega) (by simpa using k)
 |n+1,[],ws,h,_=>by simp at h
 |n+1,x::t,ws,h,k=>zN1 (l:=t) (by simp at h;omega) (by rw[show n+1+ws.length=(n+ws.length)+1 by omega] at k;exact k)
theorem zL7 {K:List Value→Prop}:∀ {n:Nat} {l ws:List Value},yPf n l ws K→n+ws.length≤l.length∧K (l.take n++ws++l.drop (n+ws.length))
 |0,l,ws,h=>by obtain⟨a,b⟩:=zHj h;exact⟨by omega,by simpa using b⟩
 |n+1,[],ws,h=>h.elim
 |n+1,x::t,ws,h=>by
  obtain⟨a,b⟩:=zL7 (l:=t) h
  refine⟨by simp;omega,?_⟩
  rw[show n+1+ws.length=(n+ws.length)+1 by omega]
  exact b
theorem zF4:∀ {n:Nat} {l:List Value},n≤l.length→zFd n l=some (l.take n)
 |0,l,_=>rfl
 |n+1,[],h=>by simp at h
 |n+1,v::t,h=>by rw[zGp,zF4 (l:=t) (by simpa using h)];rfl
theorem zL8:∀ {l ws:List Value},ws.length≤l.length→zQi l ws=some (ws++l.drop ws.length)
 |l,[],_=>by rw[zQw];simp
 |[],w::ws,h=>by simp at h
 |x::t,w::ws,h=>by rw[zNr,zL8 (l:=t) (by simpa using h)];simp
theorem zN2:∀ {n:Nat} {l ws:List Value},n+ws.length≤l.length→zUj l n ws=some (l.take n++ws++l.drop (n+ws.length))
 |0,l,ws,h=>by rw[zQx,zL8 (by omega)];simp
 |n+1,[],ws,h=>by simp at h
 |n+1,x::t,ws,h=>by
  rw[zHu,zN2 (l:=t) (by simp at h;omega),show n+1+ws.length=(n+ws.length)+1 by omega];simp
def zRw (s:St)(t:TypeId)(a:Value)(K:KV):Prop:=
 match a with
 |.pointer (some ⟨id,off,none⟩)=>
  match s.h.get id with
  |some (.cells cs _ _)=>
   match zGl P t with
   |some true=>match zGi P t with
    |some 0=>K (.agg ([]:List Value).toArray) (s.read id)
    |some (n+1)=>yD1 off cs fun r=>zZh (n+1) r fun r=>K (.agg r.toArray) (s.read id)
    |none=>False
   |some false=>yPe cs off fun v=>K v (s.read id)
   |none=>False
  |_=>False
 |_=>False
theorem zN3 {P:Program}{s:St}{t:TypeId}{a:Value}{K:KV}(h:zRw P s t a K):∃ v s',zDw P s t a=some (v,s')∧K v s':=by
 unfold zRw at h
 split at h
 case h_2=>exact h.elim
 rename_i id off
 split at h
 case h_2=>exact h.elim
 rename_i cs e ro hg
 split at h
 ·rename_i hb
  split at h
  ·rename_i hn
   exact⟨_,_,by simp only[zDw,hg,hb,hn,zNq],h⟩
  ·rename_i n hn
   obtain⟨h1,h⟩:=zJl h
   obtain⟨h2,h⟩:=zHj h
   exact⟨_,_,by simp only[zDw,hg,hb,hn,zB8,zF4 h2],h⟩
  ·exact h.elim
 ·rename_i hb
  obtain⟨v,e,h⟩:=zL6 h
  refine⟨_,_,?_,h⟩
  have hd:cs.drop off=v::cs.drop (off+1):=by
   obtain⟨hlt,rfl⟩:=List.getElem?_eq_some_iff.1 e
   rw[List.drop_eq_getElem_cons hlt]
  simp only[zDw,hg,hb,zB8,hd]
 ·exact h.elim
theorem zN4 {P:Program}{s:St}{t:TypeId}{a:Value}{K K':KV}(k:∀ v s,K v s→K' v s)(h:zRw P s t a K):zRw P s t a K':=by
 unfold zRw at h ⊢
 split at h
 case h_2=>exact h.elim
 split at h
 case h_2=>exact h.elim
 split at h
 ·split at h
  ·exact k _ _ h
  ·obtain⟨h1,h⟩:=zJl h
   obtain⟨h2,h⟩:=zHj h
   exact zH7 h1 (zF3 h2 (k _ _ h))
  ·exact h.elim
 ·obtain⟨v,e,h⟩:=zL6 h
  exact zN0 e (k _ _ h)
 ·exact h.elim
def zN5 (s:St)(t:TypeId)(a v:Value)(K:St→Prop):Prop:=
 match a with
 |.pointer (some ⟨id,off,none⟩)=>
  match s.h.get id with
  |some (.cells cs e false)=>
   match zGi P t with
   |some n=>match Nat.beq (zA9 v).length n&&zV8 (zA9 v) with
    |true=>yPf off cs (zA9 v) fun cs'=>K (s.write id (.cells cs' e false))
    |false=>False
   |none=>False
  |_=>False
 |_=>False
theorem zTm {P:Program}{s:St}{t:TypeId}{a v:Value}{K:St→Prop}(h:zN5 P s t a v K):∃ s',zNg P s t a v=some s'∧K s':=by
 unfold zN5 at h
 split at h
 case h_2=>exact h.elim
 rename_i id off
 split at h
 case h_2=>exact h.elim
 rename_i cs e hg
 split at h
 case h_2=>exact h.elim
 rename_i n hn
 split at h
 case h_2=>exact h.elim
 rename_i hc
 obtain⟨h1,h⟩:=zL7 h
 exact⟨_,by simp only[zNg,hg,hn,hc,if_true,zN2 h1],h⟩
theorem zTn {P:Program}{s:St}{t:TypeId}{a v:Value}{K K':St→Prop}(k:∀ s,K s→K' s)(h:zN5 P s t a v K):zN5 P s t a v K':=by
 unfold zN5 at h ⊢
 split at h
 case h_2=>exact h.elim
 split at h
 case h_2=>exact h.elim
 split at h
 case h_2=>exact h.elim
 split at h
 case h_2=>exact h.elim
 obtain⟨h1,h⟩:=zL7 h
 exact zN1 h1 (k _ h)
def zAl (p:Prop):Bool:=@decide p (Classical.propDecidable p)
theorem zA2 (p:Prop)[d:Decidable p]:decide p=zAl p:=by
 unfold zAl
 congr
theorem zCg {p:Prop}:zAl p=true↔p:=by unfold zAl;simp
theorem zDq {p:Prop}:zAl p=false↔¬ p:=by unfold zAl;simp
theorem zA1 (a b:Int):(a==b)=zAl (a=b):=zA2 (a=b)
theorem yD2 (a b:Int):(a != b)=zAl (a≠b):=by
 rw[← zA2 (a≠b)]
 show(!(decide (a=b)))=decide (a≠b)
 simp
theorem zZi (a b:Bool):(a==b)=zAl (a=b):=by rw[← zA2 (a=b)];cases a<;>cases b<;>rfl
theorem zPm (a b:ByteArray):zK1 a b=zAl (a.data.toList=b.data.toList):=by
 rw[← zA2 (a.data.toList=b.data.toList)]
 unfold zK1
 rw[Bool.eq_iff_iff];simp
def zEy:List Nat→List Value→List Value→Option Bool
 |[],[],[]=>some true
 |0::ks,.int k a::s,.int k' b::t=>match zGd k k' with
  |true=>(match zEy ks s t with|some r=>some (zAl (a=b)&&r)|none=>none)
  |false=>none
 |1::ks,.bool a::s,.bool b::t=>match zEy ks s t with|some r=>some (zAl (a=b)&&r)|none=>none
 |2::ks,.string a::s,.string b::t=>match zEy ks s t with|some r=>some (zAl (a.data.toList=b.data.toList)&&r)|none=>none
 |_,_,_=>none
theorem zTo (ks:List Nat):∀ (a b:List Value),zBw ks a b=zEy ks a b:=by
 induction ks with
 |nil=>intro a b;cases a<;>cases b<;>rfl
 |cons k ks ih=>
  intro a b
  rcases k with _|_|_|k
  ·cases a with
   |nil=>cases b<;>rfl
   |cons v s=>cases b with
    |nil=>cases v<;>rfl
    |cons u t=>
     cases v with
     |int q x=>cases u with
      |int q' y=>
       show(match zGd q q' with|true=>(match zBw ks s t with|some r=>some ((x==y)&&r)|none=>none)|false=>none)=(match zGd q q' with|true=>(match zEy ks s t with|some r=>some (zAl (x=y)&&r)|none=>none)|false=>none)
       rw[ih,zA1]
      |_=>rfl
     |_=>rfl
  ·cases a with
   |nil=>cases b<;>rfl
   |cons v s=>cases b with
    |nil=>cases v<;>rfl
    |cons u t=>
     cases v with
     |bool x=>cases u with
      |bool y=>
       show(match zBw ks s t with|some r=>some ((x==y)&&r)|none=>none)=(match zEy ks s t with|some r=>some (zAl (x=y)&&r)|none=>none)
       rw[ih,zZi]
      |_=>rfl
     |_=>rfl
  ·cases a with
   |nil=>cases b<;>rfl
   |cons v s=>cases b with
    |nil=>cases v<;>rfl
    |cons u t=>
     cases v with
     |string x=>cases u with
      |string y=>
       show(match zBw ks s t with|some r=>some (zK1 x y&&r)|none=>none)=(match zEy ks s t with|some r=>some (zAl (x.data.toList=y.data.toList)&&r)|none=>none)
       rw[ih,zPm]
      |_=>rfl
     |_=>rfl
  ·cases a<;>cases b<;>rfl
def zU5 (t:TypeId)(a b:List Value):Option Bool:=
 match P.underlying t with
 |some (.struct fs)=>(match P.stoodInHeld t||P.eqGuardType P.depth t with
  |true=>none
  |false=>(match zEh P (zHz P 11) 0 fs.toList with
   |some ks=>zEy ks a b
   |none=>none))
 |_=>none
def yGd (op:BinOp)(t:TypeId)(x y:Operand)(a b:Value)(s:St)(K:KV):Prop:=
 match a,b with
 |.int k m,.int k' n=>(match op with
  |.shl=>0≤n∧K (.int k (zD3 k m n)) s
  |.shr=>0≤n∧K (.int k (zBm k m n)) s
  |op=>(match zGd k k' with
   |false=>False
   |true=>(match op with
    |.quo=>n≠0∧K (.int k (k.wrap (m.tdiv n))) s
    |.rem=>n≠0∧K (.int k (m.tmod n)) s
    |.eql=>K (.bool (zAl (m=n))) s
    |.neq=>K (.bool (zAl (m≠n))) s
    |.lss=>K (.bool (zAl (m < n))) s
    |.leq=>K (.bool (zAl (m≤n))) s
    |.gtr=>K (.bool (zAl (n < m))) s
    |.geq=>K (.bool (zAl (n≤m))) s
    |op=>zZg (ofV (zEg op k m n) s) K)))
 |.string p,.string q=>(match op with
  |.add=>p.size+q.size≤9223372036854775807∧K (.string (p++q)) s
  |.eql=>K (.bool (zAl (p.data.toList=q.data.toList))) s
  |.neq=>K (.bool (!zAl (p.data.toList=q.data.toList))) s
  |op=>zZg (ofV (zUm P op t x y (.string p) (.string q)) s) K)
 |.agg p,.agg q=>(match op with
  |.eql=>(match zU5 P t p.toList q.toList with|some r=>K (.bool r) s|none=>False)
  |.neq=>(match zU5 P t p.toList q.toList with|some r=>K (.bool (!r)) s|none=>False)
  |_=>False)
 |a,b=>zZg (ofV (zUm P op t x y a b) s) K
def zEa (t:TypeId)(x ix:Value)(s:St)(K:KV):Prop:=
 match typ P t,x,ix with
 |some (.slice elem),.slice (some ⟨id,off,none⟩) n _,.int _ i=>(match zGi P elem with
  |some size=>(0≤i∧i < (n:Int))∧K (.pointer (some ⟨id,off+i.toNat * size,none⟩)) s
  |none=>False)
 |some (.array n elem),.pointer (some ⟨id,off,none⟩),.int _ i=>(match zGi P elem with
  |some size=>(0≤i∧i < (n:Int))∧K (.pointer (some ⟨id,off+i.toNat * size,none⟩)) s
  |none=>False)
 |_,_,_=>False
def zN6 (t:TypeId)(x ix:Value)(s:St)(K:KV):Prop:=
 match typ P t,x,ix with
 |some .string,.string b,.int _ i=>(0≤i∧i < (b.data.toList.length:Int))∧K (.int .u8 (b.data.toList.getD i.toNat 0).toNat) s
 |_,x,ix=>zZg (ofV (zQm P t x ix) s) K
def zPn (all:List Oper)(l:zAz)(o:Oper)(yes no:zAz→Prop):Prop:=
 match o.guard with
 |none=>yes l
 |some g=>
  match nth all g.1 with
  |some q=>(match q.dst with
   |some d=>(match zEp l d with
    |.bool b=>zAm b ((match g.2 with|true=>yes|false=>no) (zX1 l d (.bool true))) ((match g.2 with|true=>no|false=>yes) (zX1 l d (.bool false)))
    |.tuple _=>False
    |_=>no l)
   |none=>False)
  |none=>False
abbrev Cw:=FuncId→List Value→St→KV→Prop
def zTp:Call:=fun _ _ _=>none
def opW (cw:Cw)(o:Oper)(l:zAz)(s:St)(K:KV):Prop:=
 match o.op with
 |.binOp op t x y _=>yGd P op t x y (evalO l x) (evalO l y) s K
 |.load t a=>zRw P s t (evalO l a) K
 |.store t a x=>zN5 P s t (evalO l a) (evalO l x) fun s=>K und s
 |.pick c a b=>(match evalO l c with|.bool t=>zAm t (K (evalO l a) s) (K (evalO l b) s)|_=>False)
 |.indexAddr t x i=>zEa P t (evalO l x) (evalO l i) s K
 |.index t x i=>zN6 P t (evalO l x) (evalO l i) s K
 |.call c=>(match c.callee with
  |.value f=>(match evalO l f with
   |.func (.func g) first cap=>cw g (first.toList++(zE6 l c.args.toList++cap.toList)) s K
   |_=>False)
  |.builtin b=>zZg (zBn P s b c.argTypes o.type (zE6 l c.args.toList)) K
  |.invoke _ _=>False)
 |_=>zZg (opD P zTp o l s) K
def yHu (cw:Cw)(all:List Oper):List Oper→zAz→St→KT→Prop
 |[],l,s,K=>K l s
 |o::rest,l,s,K=>zPn all l o (fun l=>opW P cw o l s fun v s=>yHu cw all rest (zJd l o.dst v) s K) (fun l=>yHu cw all rest (zJd l o.dst skp) s K)
def zNe (cw:Cw)(all:List Oper):List Oper→List zDv→zAz→St→KT→Prop
 |[],_,l,s,K=>K l s
 |o::rest,done,l,s,K=>match zFt done.length o.after.toList with
  |true=>zPn all l o
   (fun l=>opW P cw o l (solo s) fun v x=>match zFu (zDf all o done x.rd x.wr) 0 done with
    |true=>zNe cw all rest (done++[zDf all o done x.rd x.wr]) (zJd l o.dst v) (zRk s x) K
    |false=>False)
   (fun l=>match zFu (zDf all o done 0 0) 0 done with
    |true=>zNe cw all rest (done++[zDf all o done 0 0]) (zJd l o.dst skp) (zRk s (solo s)) K
    |false=>False)
  |false=>False
def zZj (l:zAz)(c:Operand)(b:Bool):zAz:=match c with|.tmp t=>zX1 l t (.bool b)|_=>l
def zHs (R:KT)(K:KC):KC:=fun e l s=>match e with|.normal=>R l s|.exit i=>K (.exit i) l s|.ret=>K .ret l s
structure At (w0:World) (φ0:Ren) (n:Nat) (l:zAz) (s:St) (a:Act) (w:World) (φ:Ren):Prop where
 hr:HR φ s.h w0 w
 le:Le φ0 φ
 fr:Fr n φ l a
 fresh:∀ id,s.next≤id→φ id=none
 none_:∀ id,s.next≤id→s.h.get id=none
 hi:s.next≤s.hi
def zJ4 (l:zAz)(s:St)(l':zAz)(s':St):Prop:=
 ∀ w0 φ0 n a w φ,(∀ id,64≤id→φ0 id=none)→At w0 φ0 n l s a w φ→∃ φ',At w0 φ0 n l' s' a w φ'
def yP2 (body:zAz→St→KC→Prop)(l:zAz)(s:St)(K:KC):Prop:=
 ∀ R:KT,(∀ l s,body l s (zHs R K)→R l s)→(∀ l s l' s',zJ4 l s l' s'→R l' s'→R l s)→R l s
def zAx (cw:Cw):Code→zAz→St→KC→Prop
 |.skip,l,s,K=>K .normal l s
 |.region _ ops draw,l,s,K=>(match draw with
  |true=>zNe P cw ops.toList ops.toList [] l s (K .normal)
  |false=>yHu P cw ops.toList ops.toList l s (K .normal))
 |.seq a b,l,s,K=>zAx cw a l s fun e l s=>match e with|.normal=>zAx cw b l s K|.exit i=>K (.exit i) l s|.ret=>K .ret l s
 |.cond c a b,l,s,K=>(match evalO l c with
  |.bool t=>zAm t (zAx cw a (zZj l c true) s K) (zAx cw b (zZj l c false) s K)
  |_=>False)
 |.block id a,l,s,K=>zAx cw a l s fun e l s=>match e with
  |.exit i=>(match Nat.beq i id with|true=>K .normal l s|false=>K (.exit i) l s)
  |.normal=>K .normal l s
  |.ret=>K .ret l s
 |.loop a,l,s,K=>yP2 (fun l s K=>zAx cw a l s K) l s K
 |.exit i,l,s,K=>K (.exit i) l s
 |.ret,l,s,K=>K .ret l s
 |_,_,_,_=>False
def yGe (l:zAz)(s:St):List ResultVar→(List Value→St→Prop)→Prop
 |[],K=>K [] s
 |.tmp t::rest,K=>yGe l s rest fun vs s=>K (zEp l t::vs) s
 |.cell a t::rest,K=>zRw P s t (zEp l a) fun v s=>yGe l s rest fun vs s=>K (v::vs) s
def zA7 (fn:Func)(Q:KV):KC:=fun e l s=>match e with
 |.exit _=>False
 |.normal=>yGe P l s fn.results.toList fun vs s=>Q (zHr vs) s
 |.ret=>yGe P l s fn.results.toList fun vs s=>Q (zHr vs) s
end Go.Det
namespace Go.Det
variable {P:Program}
def LE (l l':zAz):Prop:=∀ t,zEp l t=zEp l' t
theorem LE.refl (l:zAz):LE l l:=fun _=>rfl
theorem LE.evalO {l l':zAz}(h:LE l l')(x:Operand):evalO l x=evalO l' x:=by cases x<;>first|rfl|exact h _
theorem LE.set {l l':zAz}(h:LE l l')(d:Nat)(v:Value):LE (zX1 l d v) (zX1 l' d v):=fun t=>by rw[zFv,zFv];split;rfl;exact h t
theorem LE.put {l l':zAz}(h:LE l l')(d:Option Tmp)(v:Value):LE (zJd l d v) (zJd l' d v):=by
 cases d with
 |none=>exact h
 |some d=>exact h.set d v
theorem LE.know {l l':zAz}(h:LE l l'){d:Nat}{v:Value}(e:zEp l' d=v):LE l (zX1 l' d v):=fun t=>by
 rw[zFv]
 split
 ·rename_i q;subst q;rw[h,e]
 ·exact h t
theorem LE.op {call:Call}{o:Oper}{l l':zAz}(h:LE l l'):opD P call o l=opD P call o l':=by
 exact zRm fun x _=>LE.evalO h x
structure CwOk (call:Call) (cw:Cw):Prop where
 some_:∀ g args s K,cw g args s K→∃ v s',call g args s=some (v,s')∧K v s'∧∀ K':KV,K' v s'→cw g args s K'
 mono:∀ g args s (K K':KV),(∀ v s,K v s→K' v s)→cw g args s K→cw g args s K'
def zFh (cw:Cw):Prop:=∀ g args s (K K':KV),(∀ v s,K v s→K' v s)→cw g args s K→cw g args s K'
theorem zRx {call:Call}{c:Go.Call}{t:TypeId}{l:zAz}{s:St}{r:Value×St}(h:zIh P zTp c t l s=some r):zIh P call c t l s=some r:=by
 unfold zIh at h ⊢
 cases hc:c.callee with
 |builtin b=>rw[hc] at h;exact h
 |invoke a b=>rw[hc] at h;exact h
 |value f=>
  rw[hc] at h
  simp only[zE7] at h
  split at h
  ·split at h
   ·cases h
   ·cases h
  ·cases h
theorem zZk {call:Call}{o:Oper}{l:zAz}{s:St}{r:Value×St}(h:opD P zTp o l s=some r):opD P call o l s=some r:=by
 unfold opD at h ⊢
 cases hop:o.op<;>rw[hop] at h<;>first
  |exact h
  |exact zRx h
theorem zFi {r:Option (Value×St)}{K:KV}(h:zZg r K):∃ v s',r=some (v,s')∧K v s':=by
 cases r with
 |none=>exact h.elim
 |some x=>exact⟨x.1,x.2,rfl,h⟩
theorem zFj {r:Option (Value×St)}{K K':KV}(k:∀ v s,K v s→K' v s)(h:zZg r K):zZg r K':=by
 cases r with
 |none=>exact h
 |some x=>exact k _ _ h
theorem zRy {t:TypeId}{a b:List Value}:zWb P t a b=zU5 P t a b:=by
 unfold zWb zU5
 simp only[zTo]
 try rfl
theorem zZl {op:BinOp}{t:TypeId}{x y:Operand}{a b:Value}{s:St}{K:KV}(h:yGd P op t x y a b s K):∃ v s',ofV (zUm P op t x y a b) s=some (v,s')∧K v s':=by
 unfold yGd at h
 split at h
 ·rename_i k m k' n
  split at h
  ·refine⟨_,_,?_,h.2⟩
   have:decide (n < 0)=false:=decide_eq_false (by omega)
   simp only[zUm,zEq,this,ofV]
  ·refine⟨_,_,?_,h.2⟩
   have:decide (n < 0)=false:=decide_eq_false (by omega)
   simp only[zUm,zEq,this,ofV]
  ·rename_i hs1 hs2
   split at h
   ·exact h.elim
   rename_i hk
   have hsh:zEq op k m n=none:=by
    cases op<;>first|rfl|exact(hs1 rfl).elim|exact(hs2 rfl).elim
   have e:zUm P op t x y (.int k m) (.int k' n)=zEg op k m n:=by simp only[zUm,hsh,hk]
   rw[e]
   split at h
   ·refine⟨_,_,?_,h.2⟩
    have:decide (n=0)=false:=decide_eq_false h.1
    simp only[zEg,this,ofV]
   ·refine⟨_,_,?_,h.2⟩
    have:decide (n=0)=false:=decide_eq_false h.1
    simp only[zEg,this,ofV]
   ·exact⟨_,_,by simp only[zEg,zA1,ofV],h⟩
   ·exact⟨_,_,by simp only[zEg,yD2,ofV],h⟩
   ·exact⟨_,_,by simp only[zEg,zA2,ofV],h⟩
   ·exact⟨_,_,by simp only[zEg,zA2,ofV],h⟩
   ·exact⟨_,_,by simp only[zEg,zA2,ofV],h⟩
   ·exact⟨_,_,by simp only[zEg,zA2,ofV],h⟩
   ·exact zFi h
 ·rename_i p q
  split at h
  ·refine⟨_,_,?_,h.2⟩
   have:Nat.ble (p.size+q.size) 9223372036854775807=true:=Nat.ble_eq_true_of_le h.1
   simp only[zUm,zJx,this,ofV]
  ·exact⟨_,_,by simp only[zUm,zJx,zPm,ofV],h⟩
  ·exact⟨_,_,by simp only[zUm,zJx,zPm,ofV],h⟩
  ·exact zFi h
 ·rename_i p q
  split at h
  ·split at h
   ·rename_i r hr
    exact⟨_,_,by simp only[zUm,zUl,zRy,hr,ofV],h⟩
   ·exact h.elim
  ·split at h
   ·rename_i r hr
    exact⟨_,_,by simp only[zUm,zUl,zRy,hr,ofV],h⟩
   ·exact h.elim
  ·exact h.elim
 ·exact zFi h
theorem zZm {op:BinOp}{t:TypeId}{x y:Operand}{a b:Value}{s:St}{K K':KV}(k:∀ v s,K v s→K' v s)(h:yGd P op t x y a b s K):yGd P op t x y a b s K':=by
 unfold yGd at h ⊢
 split at h
 ·split at h
  ·exact⟨h.1,k _ _ h.2⟩
  ·exact⟨h.1,k _ _ h.2⟩
  ·split at h
   ·exact h.elim
   ·split at h<;>first
     |exact⟨h.1,k _ _ h.2⟩
     |exact k _ _ h
     |exact zFj k h
 ·split at h
  ·exact⟨h.1,k _ _ h.2⟩
  ·exact k _ _ h
  ·exact k _ _ h
  ·exact zFj k h
 ·split at h
  ·split at h
   ·exact k _ _ h
   ·exact h.elim
  ·split at h
   ·exact k _ _ h
   ·exact h.elim
  ·exact h.elim
 ·exact zFj k h
theorem zL9 {k:IntKind}{i:Int}(h:0≤i):zIb (.int k i)=some i.toNat:=by simp only[zIb,if_pos h]
theorem yGf {n:Nat}{i:Int}(h0:0≤i)(h:i < (n:Int)):Nat.ble n i.toNat=false:=by
 cases hb:Nat.ble n i.toNat with
 |false=>rfl
 |true=>have:=Nat.le_of_ble_eq_true hb;omega
theorem zMa {t:TypeId}{x ix:Value}{s:St}{K:KV}(h:zEa P t x ix s K):∃ v s',ofV (zFe P t x ix) s=some (v,s')∧K v s':=by
 unfold zEa at h
 split at h
 ·rename_i elem id off n c k i ht
  split at h
  case h_2=>exact h.elim
  rename_i size hs
  obtain⟨⟨h0,h1⟩,h⟩:=h
  refine⟨_,_,?_,h⟩
  simp only[zFe,ht,zL9 h0,hs,yGf h0 h1]
  rfl
 ·rename_i n elem id off k i ht
  split at h
  case h_2=>exact h.elim
  rename_i size hs
  obtain⟨⟨h0,h1⟩,h⟩:=h
  refine⟨_,_,?_,h⟩
  simp only[zFe,ht,zL9 h0,hs,yGf h0 h1]
  rfl
 ·exact h.elim
theorem zMb {t:TypeId}{x ix:Value}{s:St}{K K':KV}(k:∀ v s,K v s→K' v s)(h:zEa P t x ix s K):zEa P t x ix s K':=by
 unfold zEa at h ⊢
 split at h
 ·split at h
  ·exact⟨h.1,k _ _ h.2⟩
  ·exact h.elim
 ·split at h
  ·exact⟨h.1,k _ _ h.2⟩
  ·exact h.elim
 ·exact h.elim
theorem zTq {t:TypeId}{x ix:Value}{s:St}{K:KV}(h:zN6 P t x ix s K):∃ v s',ofV (zQm P t x ix) s=some (v,s')∧K v s':=by
 unfold zN6 at h
 split at h
 ·rename_i b k i ht
  obtain⟨⟨h0,h1⟩,h⟩:=h
  refine⟨_,_,?_,h⟩
  have hlt:i.toNat < (b.data.toList.map fun x=>Value.int .u8 x.toNat).length:=by rw[List.length_map];omega
  have hlt2:i.toNat < b.data.toList.length:=by omega
  simp only[zQm,ht,zL9 h0,zB8]
  rw[List.drop_eq_getElem_cons hlt,List.getElem_map,List.getD_eq_getElem?_getD,List.getElem?_eq_getElem hlt2]
  rfl
 ·exact zFi h
theorem zTr {t:TypeId}{x ix:Value}{s:St}{K K':KV}(k:∀ v s,K v s→K' v s)(h:zN6 P t x ix s K):zN6 P t x ix s K':=by
 unfold zN6 at h ⊢
 split at h
 ·exact⟨h.1,k _ _ h.2⟩
 ·exact zFj k h
theorem zU6 {call:Call}{cw:Cw}(ho:CwOk call cw){o:Oper}{l:zAz}{s:St}{K:KV}(h:opW P cw o l s K):∃ v s',opD P call o l s=some (v,s')∧K v s':=by
 unfold opW at h
 split at h
 ·rename_i op t x y yt hop
  unfold opD;rw[hop]
  exact zZl h
 ·rename_i t a hop
  unfold opD;rw[hop]
  exact zN3 h
 ·rename_i t a x hop
  unfold opD;rw[hop]
  obtain⟨s',e,k⟩:=zTm h
  exact⟨und,s',by simp only[zGo,e],k⟩
 ·rename_i c a b hop
  unfold opD;rw[hop]
  split at h
  ·rename_i t ht
   cases t with
   |true=>exact⟨_,_,by simp only[zIe,ht],h⟩
   |false=>exact⟨_,_,by simp only[zIe,ht],h⟩
  ·exact h.elim
 ·rename_i t x i hop
  unfold opD;rw[hop]
  exact zMa h
 ·rename_i t x i hop
  unfold opD;rw[hop]
  exact zTq h
 ·rename_i c hop
  unfold opD;rw[hop]
  unfold zIh
  simp only
  split at h
  ·rename_i f hc
   simp only[hc,zE7]
   split at h
   ·rename_i g first cap hv
    obtain⟨v,s',e,k,_⟩:=ho.some_ _ _ _ _ h
    exact⟨v,s',by simp only[hv];exact e,k⟩
   ·exact h.elim
  ·rename_i b hc
   simp only[hc,zFg]
   exact zFi h
  ·exact h.elim
 ·obtain⟨v,s',e,k⟩:=zFi h
  exact⟨v,s',zZk e,k⟩
theorem zKr {cw:Cw}(hm:zFh cw){o:Oper}{l:zAz}{s:St}{K K':KV}(k:∀ v s,K v s→K' v s)(h:opW P cw o l s K):opW P cw o l s K':=by
 unfold opW at h ⊢
 split at h
 ·exact zZm k h
 ·exact zN4 k h
 ·exact zTn (fun s=>k _ s) h
 ·split at h
  ·exact zGy (k _ _) (k _ _) h
  ·exact h.elim
 ·exact zMb k h
 ·exact zTr k h
 ·split at h
  ·split at h
   ·exact hm _ _ _ _ _ k h
   ·exact h.elim
  ·exact zFj k h
  ·exact h.elim
 ·exact zFj k h
theorem zN7 {all:List Oper}{l:zAz}{o:Oper}{yes no:zAz→Prop}(h:zPn all l o yes no):∃ l',LE l l'∧((zBp all l o=some true∧yes l')∨(zBp all l o=some false∧no l')):=by
 unfold zPn at h
 unfold zBp
 split at h
 ·rename_i hg;exact⟨l,LE.refl l,.inl ⟨by simp only[hg],h⟩⟩
 ·rename_i g hg
  split at h
  case h_2=>exact h.elim
  rename_i q hq
  split at h
  case h_2=>exact h.elim
  rename_i d hd
  simp only[hg,hq,hd]
  split at h
  ·rename_i b hb
   cases b with
   |true=>
    refine⟨_,(LE.refl l).know hb,?_⟩
    cases h2:g.2 with
    |true=>left;simp only[hb];exact⟨rfl,by simpa only[zAm,h2] using h⟩
    |false=>right;simp only[hb];exact⟨rfl,by simpa only[zAm,h2] using h⟩
   |false=>
    refine⟨_,(LE.refl l).know hb,?_⟩
    cases h2:g.2 with
    |true=>right;simp only[hb];exact⟨rfl,by simpa only[zAm,h2] using h⟩
    |false=>left;simp only[hb];exact⟨rfl,by simpa only[zAm,h2] using h⟩
  ·exact h.elim
  ·rename_i h1 h2
   refine⟨l,LE.refl l,.inr ⟨?_,h⟩⟩
   split
   ·rename_i b hb;exact absurd hb (h1 b)
   ·rename_i vs hv;exact absurd hv (h2 vs)
   ·rfl
theorem zHk {all:List Oper}{l:zAz}{o:Oper}{yes no yes' no':zAz→Prop}(k1:∀ l,yes l→yes' l)(k2:∀ l,no l→no' l)(h:zPn all l o yes no):zPn all l o yes' no':=by
 unfold zPn at h ⊢
 split at h
 ·exact k1 _ h
 ·rename_i g hg
  split at h
  case h_2=>exact h.elim
  split at h
  case h_2=>exact h.elim
  split at h
  ·cases h2:g.2 with
   |true=>simp only[h2] at h ⊢;exact zGy (k1 _) (k2 _) h
   |false=>simp only[h2] at h ⊢;exact zGy (k2 _) (k1 _) h
  ·exact h.elim
  ·exact k2 _ h
theorem zIu {all:List Oper}{l l':zAz}{o:Oper}(h:LE l l'):zBp all l o=zBp all l' o:=by
 unfold zBp
 cases o.guard with
 |none=>rfl
 |some g=>
  simp only
  cases nth all g.1 with
  |none=>rfl
  |some q=>
   simp only
   cases q.dst with
   |none=>rfl
   |some d=>simp only[h d]
theorem LE.trans {a b c:zAz}(h:LE a b)(k:LE b c):LE a c:=fun t=>(h t).trans (k t)
theorem zMc {call:Call}{cw:Cw}(ho:CwOk call cw){all:List Oper}:∀ {ops:List Oper} {l:zAz} {s:St} {K:KT},yHu P cw all ops l s K→∀ l0,LE l0 l→∃ l1 s1 l',zWg P call all ops l0 s=some (l1,s1)∧LE l1 l'∧K l' s1
 |[],l,s,K,h,l0,hl=>⟨l0,s,l,rfl,hl,h⟩
 |o::rest,l,s,K,h,l0,hl=>by
  rw[zGu]
  unfold zH1
  rw[hl.op (P:=P)]
  simp only[zIu hl]
  obtain⟨l1,h1,⟨hw,h⟩|⟨hw,h⟩⟩:=zN7 h
  ·simp only[hw]
   obtain⟨v,s1,e,k⟩:=zU6 ho h
   rw[← h1.op (P:=P)] at e
   obtain⟨l2,s2,l3,e2,q1,q2⟩:=zMc ho k (zJd l0 o.dst v) ((hl.trans h1).put _ _)
   exact⟨l2,s2,l3,by simp only[e,zNm];exact e2,q1,q2⟩
  ·simp only[hw]
   obtain⟨l2,s2,l3,e2,q1,q2⟩:=zMc ho h (zJd l0 o.dst skp) ((hl.trans h1).put _ _)
   exact⟨l2,s2,l3,e2,q1,q2⟩
theorem zMd {cw:Cw}(hm:zFh cw){all:List Oper}:∀ {ops:List Oper} {l:zAz} {s:St} {K K':KT},(∀ l s,K l s→K' l s)→yHu P cw all ops l s K→yHu P cw all ops l s K'
 |[],_,_,_,_,k,h=>k _ _ h
 |_::_,_,_,_,_,k,h=>zHk (fun _ h=>zKr hm (fun _ _ h=>zMd hm k h) h) (fun _ h=>zMd hm k h) h
theorem zJm {call:Call}{cw:Cw}(ho:CwOk call cw){all:List Oper}:∀ {ops:List Oper} {done:List zDv} {l:zAz} {s:St} {K:KT},zNe P cw all ops done l s K→∀ l0,LE l0 l→∀ sl,∃ l1 s1 l',zJ8 P call all ops done sl l0 s=some (l1,s1)∧LE l1 l'∧K l' s1
 |[],done,l,s,K,h,l0,hl,sl=>⟨l0,s,l,rfl,hl,h⟩
 |o::rest,done,l,s,K,h,l0,hl,sl=>by
  rw[zHf]
  unfold zNe at h
  split at h
  case h_2=>exact h.elim
  rename_i he
  rw[he]
  simp only
  unfold zC5
  rw[hl.op (P:=P)]
  simp only[zIu hl]
  obtain⟨l1,h1,⟨hw,h⟩|⟨hw,h⟩⟩:=zN7 h
  ·simp only[hw]
   obtain⟨v,x,e,k⟩:=zU6 ho h
   rw[← h1.op (P:=P)] at e
   split at k
   case h_2=>exact k.elim
   rename_i ha
   obtain⟨l2,s2,l3,e2,q1,q2⟩:=zJm ho k (zJd l0 o.dst v) ((hl.trans h1).put _ _) (sl++[zJy all o l0 v])
   refine⟨l2,s2,l3,?_,q1,q2⟩
   rw[e]
   unfold zHc zNn
   simp only
   unfold zDf at ha e2
   rw[zGw ha]
   exact e2
  ·simp only[hw]
   split at h
   case h_2=>exact h.elim
   rename_i ha
   obtain⟨l2,s2,l3,e2,q1,q2⟩:=zJm ho h (zJd l0 o.dst skp) ((hl.trans h1).put _ _) (sl++[zJy all o l0 skp])
   refine⟨l2,s2,l3,?_,q1,q2⟩
   unfold zHc zNn
   simp only
   unfold zDf at ha e2
   simp only[solo] at e2 ⊢
   rw[zGw ha]
   exact e2
theorem zJn {cw:Cw}(hm:zFh cw){all:List Oper}:∀ {ops:List Oper} {done:List zDv} {l:zAz} {s:St} {K K':KT},(∀ l s,K l s→K' l s)→zNe P cw all ops done l s K→zNe P cw all ops done l s K'
 |[],_,_,_,_,_,k,h=>k _ _ h
 |o::rest,done,l,s,K,K',k,h=>by
  unfold zNe at h ⊢
  split at h
  case h_2=>exact h.elim
  refine zHk (fun l h=>zKr hm (fun v x h=>?_) h) (fun l h=>?_) h
  ·split at h
   ·exact zJn hm k h
   ·exact h.elim
  ·split at h
   ·exact zJn hm k h
   ·exact h.elim
theorem zC9 {R R':KT}{K K':KC}(h:∀ l s,R l s→R' l s)(k:∀ e l s,K e l s→K' e l s)(e:Ex)(l:zAz)(s:St)(q:zHs R K e l s):zHs R' K' e l s:=by
 cases e with
 |normal=>exact h _ _ q
 |exit i=>exact k _ _ _ q
 |ret=>exact k _ _ _ q
theorem zBl {cw:Cw}(hm:zFh cw):∀ (c:Code) {l:zAz} {s:St} {K K':KC},(∀ e l s,K e l s→K' e l s)→zAx P cw c l s K→zAx P cw c l s K'
 |.skip,_,_,_,_,k,h=>k _ _ _ h
 |.region _ ops draw,_,_,_,_,k,h=>by
  cases draw with
  |true=>exact zJn hm (k .normal) h
  |false=>exact zMd hm (k .normal) h
 |.seq a b,_,_,_,_,k,h=>zBl hm a (fun e l s h=>by
   cases e with
   |normal=>exact zBl hm b k h
   |exit i=>exact k _ _ _ h
   |ret=>exact k _ _ _ h) h
 |.cond c a b,l,s,K,K',k,h=>by
  unfold zAx at h ⊢
  split at h
  ·exact zGy (zBl hm a k) (zBl hm b k) h
  ·exact h.elim
 |.block id a,_,_,_,_,k,h=>zBl hm a (fun e l s h=>by
   cases e with
   |normal=>exact k _ _ _ h
   |exit i=>
    simp only at h ⊢
    split at h
    ·exact k _ _ _ h
    ·exact k _ _ _ h
   |ret=>exact k _ _ _ h) h
 |.loop a,l,s,K,K',k,h=>by
  intro R h1 h2
  exact h R (fun l s q=>h1 l s (zBl hm a (zC9 (fun _ _ h=>h) k) q)) h2
 |.exit i,_,_,_,_,k,h=>k _ _ _ h
 |.ret,_,_,_,_,k,h=>k _ _ _ h
 |.rangeFunc ..,_,_,_,_,_,h=>h.elim
 |.scope ..,_,_,_,_,_,h=>h.elim
 |.label ..,_,_,_,_,_,h=>h.elim
 |.goto ..,_,_,_,_,_,h=>h.elim
 |.refuse ..,_,_,_,_,_,h=>h.elim
end Go.Det
section
namespace Go.Det
variable {P:Program}
theorem zMe {l:zAz}:∀ {rs:List ResultVar} {s:St} {K:List Value→St→Prop},yGe P l s rs K→∃ vs s',zQv P l s rs=some (vs,s')∧K vs s'
 |[],s,K,h=>⟨[],s,rfl,h⟩
 |.tmp t::rest,s,K,h=>by
  obtain⟨vs,s',e,k⟩:=zMe (rs:=rest) h
  exact⟨zEp l t::vs,s',by rw[zPg,e],k⟩
 |.cell a t::rest,s,K,h=>by
  obtain⟨v,s1,e1,h⟩:=zN3 h
  obtain⟨vs,s',e,k⟩:=zMe (rs:=rest) h
  exact⟨v::vs,s',by rw[zLt,e1];simp only[e],k⟩
theorem Fr.le {n:Nat}{φ:Ren}{l l':zAz}{a:Act}(h:Fr n φ l a)(k:LE l l'):Fr n φ l' a:=⟨h.size,fun t=>by rw[← k t];exact h.tmp t,h.defers⟩
section
variable {w0:World} {φ0:Ren} {n G:Nat} {call:Call} {cw:Cw}
theorem At.le' {l l':zAz}{s:St}{a:Act}{w:World}{φ:Ren}(h:At w0 φ0 n l s a w φ)(k:LE l l'):At w0 φ0 n l' s a w φ:=⟨h.hr,h.le,h.fr.le k,h.fresh,h.none_,h.hi⟩
theorem At.next {l l1:zAz}{s s1:St}{a a1:Act}{w w1:World}{φ φ1:Ren}(h:At w0 φ0 n l s a w φ)(g:G1 s s1)(e:Ext φ φ1 s.next s1.next)(H:HR φ1 s1.h w0 w1)(F:Fr n φ1 l1 a1):
  At w0 φ0 n l1 s1 a1 w1 φ1:=by
 refine⟨H,h.le.trans e.le,F,fun id q=>?_,fun id q=>?_,g.inv h.hi⟩
 ·cases hφ:φ1 id with
  |none=>rfl
  |some y=>
   rcases e.new id (by rw[hφ];simp) with r|r
   ·exact absurd (h.fresh id (Nat.le_trans g.next q)) r
   ·omega
 ·cases hh:s1.h.get id with
  |none=>rfl
  |some y=>
   rcases g.dom id (by rw[hh];simp) with r|r
   ·exact absurd (h.none_ id (Nat.le_trans g.next q)) r
   ·omega
def zXh (w0:World)(φ0:Ren)(n:Nat)(K:KC)(e:Exit)(a:Act)(w:World):Prop:=∃ ex l s φ,e=Ex.out ex∧K ex l s∧At w0 φ0 n l s a w φ
theorem zPo (ho:CwOk call cw)(hcall:zHv P w0 G call)(hT:∀ f args,Tr (call f args))(hm:P.follows .mixedOrders=true)(hG:Glob G φ0){id:Nat}{ops:Array Oper}{draw:Bool}
  (hok:zEu n G (.region id ops draw)=true) {l:zAz} {s:St} {K:KC} {a:Act} {w:World} {φ:Ren} (h:zAx P cw (.region id ops draw) l s K) (A:At w0 φ0 n l s a w φ):
  (Code.region id ops draw).wp P (zXh w0 φ0 n K) a w:=by
 have hs:=zNz (P:=P) (w0:=w0) hcall hT hm 0 (.region id ops draw) hok
 have key:∃ l1 s1 l',zM1 P call 0 (.region id ops draw) l s=some (.normal,l1,s1)∧LE l1 l'∧K .normal l' s1∧G1 s s1:=by
  cases draw with
  |true=>
   obtain⟨l1,s1,l',e,q1,q2⟩:=zJm (P:=P) ho (K:=K .normal) h l (LE.refl l) []
   refine⟨l1,s1,l',?_,q1,q2,(zPe (P:=P) hT _ _ _ _ _ _ _ _ e).1⟩
   show yF4 (zJ8 P call ops.toList ops.toList [] [] l s)=_
   rw[e];rfl
  |false=>
   obtain⟨l1,s1,l',e,q1,q2⟩:=zMc (P:=P) ho (K:=K .normal) h l (LE.refl l)
   refine⟨l1,s1,l',?_,q1,q2,(zLr (P:=P) hT _ _ _ _ _ _ e).1⟩
   show yF4 (zWg P call ops.toList ops.toList l s)=_
   rw[e];rfl
 obtain⟨l1,s1,l',e,q1,q2,g⟩:=key
 refine hs l s _ l1 s1 φ a w e ⟨A.hr,hG.mono A.le,A.fr,fun id p _=>A.fresh id p,⟨A.hi,fun id p _=>A.none_ id p⟩⟩ _ fun φ' a' w' po=>?_
 obtain⟨e1,H1,F1⟩:=po
 exact⟨.normal,l',s1,φ',rfl,q2,(A.next g e1 H1 F1).le' q1⟩
theorem zU7 {l:zAz}{c:Operand}{b:Bool}(h:evalO l c=.bool b):LE l (zZj l c b):=by
 cases c with
 |tmp t=>exact(LE.refl l).know h
 |_=>exact LE.refl l
theorem zTs (ho:CwOk call cw)(hcall:zHv P w0 G call)(hT:∀ f args,Tr (call f args))(hm:P.follows .mixedOrders=true)(hG:Glob G φ0)(h64:∀ id,64≤id→φ0 id=none)(c:Code)(hok:zEu n G c=true):
  ∀ (l:zAz) (s:St) (K:KC) (a:Act) (w:World) (φ:Ren),zAx P cw c l s K→At w0 φ0 n l s a w φ→c.wp P (zXh w0 φ0 n K) a w:=by
 induction c with
 |skip=>exact fun l s K a w φ h A=>wp_skip ⟨.normal,l,s,φ,rfl,h,A⟩
 |region id ops draw=>exact fun l s K a w φ h A=>zPo ho hcall hT hm hG hok h A
 |seq a b ha hb=>
  intro l s K ac w φ h A
  simp only[zEu,Bool.and_eq_true] at hok
  refine wp_seq (wp_mono (ha hok.1 l s _ ac w φ h A) ?_)
  rintro e a1 w1 ⟨ex,l1,s1,φ1,rfl,k,A1⟩
  cases ex with
  |normal=>exact hb hok.2 l1 s1 K a1 w1 φ1 k A1
  |exit i=>exact⟨.exit i,l1,s1,φ1,rfl,k,A1⟩
  |ret=>exact⟨.ret,l1,s1,φ1,rfl,k,A1⟩
 |cond c a b ha hb=>
  intro l s K ac w φ h A
  simp only[zEu,Bool.and_eq_true] at hok
  have hv:=zKo (hG.mono A.le) A.fr hok.1
  unfold zAx at h
  split at h
  case h_2=>exact h.elim
  rename_i t ht
  rw[ht] at hv
  refine wp_cond (t:=t) (zHd hv) ?_
  cases t with
  |true=>exact ha hok.2.1 _ s K ac w φ h (A.le' (zU7 ht))
  |false=>exact hb hok.2.2 _ s K ac w φ h (A.le' (zU7 ht))
 |block id c ih=>
  intro l s K ac w φ h A
  refine wp_block (wp_mono (ih hok l s _ ac w φ h A) ?_)
  rintro e a1 w1 ⟨ex,l1,s1,φ1,rfl,k,A1⟩
  cases ex with
  |normal=>exact⟨.normal,l1,s1,φ1,rfl,k,A1⟩
  |ret=>exact⟨.ret,l1,s1,φ1,rfl,k,A1⟩
  |exit i=>
   show(if i=id then zXh w0 φ0 n K .normal a1 w1 else zXh w0 φ0 n K (.exit i) a1 w1)
   simp only at k
   cases hb:Nat.beq i id with
   |true=>
    rw[hb] at k
    rw[if_pos (Nat.eq_of_beq_eq_true hb)]
    exact⟨.normal,l1,s1,φ1,rfl,k,A1⟩
   |false=>
    rw[hb] at k
    rw[if_neg (Nat.ne_of_beq_eq_false hb)]
    exact⟨.exit i,l1,s1,φ1,rfl,k,A1⟩
 |loop c ih=>
  intro l s K ac w φ h A
  have key:∀ a w φ,At w0 φ0 n l s a w φ→∀ (b:Frame) (t:List Item) (cs:List Frame),∃ e a' w',zXh w0 φ0 n K e a' w'∧Arrives P (lone (b.at a (.code c::.inLoop c::t)) cs w) b t cs e a' w':=by
   refine h (fun l s=>∀ a w φ,At w0 φ0 n l s a w φ→∀ (b:Frame) (t:List Item) (cs:List Frame),∃ e a' w',zXh w0 φ0 n K e a' w'∧Arrives P (lone (b.at a (.code c::.inLoop c::t)) cs w) b t cs e a' w') ?_ ?_
   ·intro l s hb a w φ A b t cs
    obtain⟨e,a1,w1,⟨ex,l1,s1,φ1,rfl,k,A1⟩,harr⟩:=ih hok l s _ a w φ hb A b (.inLoop c::t) cs
    cases ex with
    |normal=>
     obtain⟨e2,a2,w2,hq2,harr2⟩:=k a1 w1 φ1 A1 b t cs
     exact⟨e2,a2,w2,hq2,.of_steps (Steps.trans harr (.one step_inLoop)) harr2⟩
    |exit i=>exact⟨_,a1,w1,⟨.exit i,l1,s1,φ1,rfl,k,A1⟩,.pass (x:=.inLoop c) rfl (fun _ _=>.inl (by simp[Ex.out])) harr⟩
    |ret=>exact⟨_,a1,w1,⟨.ret,l1,s1,φ1,rfl,k,A1⟩,.pass (x:=.inLoop c) rfl (fun _ _=>.inl (by simp[Ex.out])) harr⟩
   ·intro l s l' s' hw hr a w φ A
    obtain⟨φ',A'⟩:=hw w0 φ0 n a w φ h64 A
    exact hr a w φ' A'
  intro b t cs
  obtain⟨e,a',w',hq,harr⟩:=key ac w φ A b t cs
  exact⟨e,a',w',hq,.of_steps (.one step_loop) harr⟩
 |exit id=>exact fun l s K a w φ h A=>wp_exit ⟨.exit id,l,s,φ,rfl,h,A⟩
 |ret=>exact fun l s K a w φ h A=>wp_ret ⟨.ret,l,s,φ,rfl,h,A⟩
 |_=>intro l s K a w φ h;exact h.elim
theorem zIv (ho:CwOk call cw)(hcall:zHv P w0 G call)(hT:∀ f args,Tr (call f args))(hm:P.follows .mixedOrders=true)(hG:Glob G φ0)(h64:∀ id,64≤id→φ0 id=none)
  {f:FuncId} {fn:Func} {c:Code} (hf:P.funcs[f]?=some fn) (hb:fn.body=some c) (hok:zEv G fn=true)
  {args args':List Value} {s:St} {w:World} {Q:KV} (hle:Nat.ble args.length fn.ntmps=true)
  (H:HR φ0 s.h w0 w) (hA:VRL φ0 args args') (hfr:∀ id,s.next≤id→φ0 id=none) (hno:∀ id,s.next≤id→s.h.get id=none) (hhi:s.next≤s.hi)
  (h:zAx P cw c (zAn args 8) s (zA7 P fn Q)):
  Calls P f ⟨args'⟩ w fun e w'=>∃ v v' s' φ',e=.returned v'∧Q v s'∧VR φ' v v'∧HR φ' s'.h w0 w'∧Le φ0 φ'∧(∀ id,s'.next≤id→φ' id=none):=by
 refine calls_of_wp hf hb ?_
 unfold zEv at hok
 rw[hb] at hok
 simp only[Bool.and_eq_true] at hok
 have A:At w0 φ0 fn.ntmps (zAn args 8) s { tmps:=(⟨args'⟩:Array Value)++Array.replicate (fn.ntmps - (⟨args'⟩:Array Value).size) undef,defers:=[] } w φ0:=
  ⟨H,Le.refl _,zL2 hA (Nat.le_of_ble_eq_true hle),hfr,hno,hhi⟩
 refine wp_mono (zTs ho hcall hT hm hG h64 c hok.1 _ _ _ _ _ _ h A) ?_
 rintro e a1 w1 ⟨ex,l1,s1,φ1,rfl,k,A1⟩
 have hend:yGe P l1 s1 fn.results.toList (fun vs s=>Q (zHr vs) s)→a1.defers=[]∧∃ v2,(results fn a1.tmps).run P w1=.ok v2 w1∧∃ v v' s' φ',Ending.returned v2=.returned v'∧Q v s'∧VR φ' v v'∧HR φ' s'.h w0 w1∧Le φ0 φ'∧(∀ id,s'.next≤id→φ' id=none):=by
  intro k
  obtain⟨vs,s2,e2,q⟩:=zMe k
  obtain⟨vs',r1,r3,r4,r5⟩:=zPj fn.results.toList e2 A1.hr A1.fr.tmp
  exact⟨A1.fr.defers,zHr vs',zLz r1,zHr vs,zHr vs',s2,φ1,rfl,q,zU2 r3,by rw[r4];exact A1.hr,A1.le,fun id p=>A1.fresh id (by rw[← r5];exact p)⟩
 cases ex with
 |normal=>exact hend k
 |ret=>exact hend k
 |exit i=>exact k.elim
end
structure Later (W w:World):Prop where
 size:W.heap.size≤w.heap.size
 old:∀ b,b < W.heap.size→w.heap[b]?=W.heap[b]?
theorem Later.refl (W:World):Later W W:=⟨Nat.le_refl _,fun _ _=>rfl⟩
theorem Later.trans {A B C:World}(h:Later A B)(k:Later B C):Later A C:=⟨Nat.le_trans h.size k.size,fun b q=>(k.old b (Nat.lt_of_lt_of_le q h.size)).trans (h.old b q)⟩
theorem HR.later {φ:Ren}{h:Heap}{W w:World}(H:HR φ h W w):Later W w:=⟨H.size,H.old⟩
def zAr (P:Program)(W:World)(G:Nat)(f:FuncId)(g:Own):Prop:=zZf g∧∀ w,Later W w→zGh P w G f g
def zDr (l:List (Nat×Own)):Call:=fun f args s=>match zTl l f with|some g=>g args s|none=>none
def OwnsAll (P:Program)(W:World)(G:Nat)(l:List (Nat×Own)):Prop:=∀ x∈l,zAr P W G x.1 x.2
theorem zAh (W:World)(G:Nat):OwnsAll P W G []:=fun _ h=>by cases h
theorem OwnsAll.cons {W:World}{G:Nat}{l:List (Nat×Own)}{f:Nat}{g:Own}(h:zAr P W G f g)(k:OwnsAll P W G l):OwnsAll P W G ((f,g)::l):=by
 intro x hx
 rcases List.mem_cons.1 hx with rfl|hx
 ·exact h
 ·exact k x hx
theorem zHl {W:World}{G:Nat}{l:List (Nat×Own)}(h:OwnsAll P W G l)(f:FuncId)(args:List Value):Tr (zDr l f args):=by
 unfold zDr
 cases he:zTl l f with
 |none=>exact zA6 fun _=>rfl
 |some g=>exact(h _ (zIt he)).1 args
theorem zHm {W w:World}{G:Nat}{l:List (Nat×Own)}(h:OwnsAll P W G l)(k:Later W w):zHv P w G (zDr l):=by
 intro f args s v s' e
 unfold zDr at e
 split at e
 ·rename_i g he
  exact(h _ (zIt he)).2 w k args s v s' e
 ·cases e
theorem zU8 {cw:Cw}{W:World}{G:Nat}{l:List (Nat×Own)}{h:Heap}{f:FuncId}{fn:Func}{c:Code}{F:List Value→Option Value}(L:Laying G W h)(hGW:G≤W.heap.size)(hG64:G≤64)
  (hm:P.follows .mixedOrders=true) (hl:OwnsAll P W G l) (ho:CwOk (zDr l) cw) (hf:P.funcs[f]?=some fn) (hb:fn.body=some c) (hok:zEv G fn=true)
  (hF:∀ args v,F args=some v→zCp args=true∧flat v=true∧Nat.ble args.length fn.ntmps=true∧zAx P cw c (zAn args 8) (zAo h 64) (zA7 P fn fun v' _=>v'=v)):zAr P W G f (zDb F):=by
 refine⟨zF2 F,fun W1 k1 args s v s' e φ w args' H _ hA _ _=>?_⟩
 unfold zDb at e
 split at e
 case h_2=>cases e
 rename_i r hr
 cases e
 obtain⟨h1,h2,h3,h4⟩:=hF args v hr
 have hn:(fn.name== "runtime.NumGoroutine")=false:=by
  unfold zEv at hok
  rw[hb] at hok
  simp only[Bool.and_eq_true,Bool.not_eq_true'] at hok
  exact hok.2
 rw[zCf h1 hA,zBj hf hb hn]
 have kw:Later W w:=k1.trans H.later
 have Lw:=L.move kw.size kw.old hGW
 refine(zIv (P:=P) (w0:=w) (φ0:=glob G w) (G:=G) ho (zHm hl kw) (zHl hl) hm (zEj G w) (fun id q=>zDu G w hG64 id q) hf hb hok h3 Lw.hr (zDl h1 _) (fun id q=>zDu G w hG64 id q) (fun id q=>Lw.top id (Nat.le_trans hG64 q)) (Nat.le_refl 64) h4).mono ?_
 rintro e W' ⟨v1,v',s1,φ',rfl,rfl,hv,H',_,_⟩
 exact⟨v',φ,rfl,Ext.refl _ _ _,zHh h2 hv,H.keep H'.kept H'.tape⟩
end Go.Det
end
namespace Go.Det
variable {P:Program}
theorem zGz {cw:Cw}(hm:zFh cw){a:Code}{l:zAz}{s:St}{K:KC}(h:zAx P cw a l s (zHs (fun l s=>zAx P cw (.loop a) l s K) K)):zAx P cw (.loop a) l s K:=by
 intro R h1 h2
 exact h1 l s (zBl hm a (zC9 (fun l s q=>q R h1 h2) fun _ _ _ q=>q) h)
theorem zN8 {cw:Cw}{a:Code}{l l':zAz}{s s':St}{K:KC}(w:zJ4 l s l' s')(h:zAx P cw (.loop a) l' s' K):zAx P cw (.loop a) l s K:=
 fun R h1 h2=>h2 l s l' s' w (h R h1 h2)
def zX2 (ρ:Nat→Option Nat)(φ:Ren):Ren:=fun id=>if id < 64 then φ id else match ρ id with|some o=>φ o|none=>none
def Wk (ρ:Nat→Option Nat)(v' v:Value):Prop:=∀ φ x,VR φ v x→VR (zX2 ρ φ) v' x
theorem Wk.und (ρ:Nat→Option Nat)(v:Value):Wk ρ und v:=fun _ _ _=>.any _
theorem Wk.flat {ρ:Nat→Option Nat}{v:Value}(h:flat v=true):Wk ρ v v:=fun _ _ k=>zHh h k
theorem Wk.slice {ρ:Nat→Option Nat}{i o off n c:Nat}(hi:64≤i)(h:ρ i=some o):Wk ρ (.slice (some ⟨i,off,none⟩) n c) (.slice (some ⟨o,off,none⟩) n c):=by
 intro φ x k
 have e:∀ y,φ o=some y→zX2 ρ φ i=some y:=fun y q=>by unfold zX2;rw[if_neg (by omega),h];exact q
 rcases zB0 k with⟨hc,a',rfl,h2⟩|⟨id',off',b,sh,sz,es,c',e1,rfl,e3,p,q,r,rfl⟩
 ·rcases h2 with⟨q,_⟩|⟨id',off',b,sh,sz,q,e1,rfl⟩
  ·cases q
  ·cases q;exact .slice _ _ _ _ _ _ _ (e _ e1) hc
 ·cases e1;exact .sliceU _ _ _ _ _ _ _ _ (e _ e3) p q r
theorem Wk.ptr {ρ:Nat→Option Nat}{i o off:Nat}(hi:64≤i)(h:ρ i=some o):Wk ρ (.pointer (some ⟨i,off,none⟩)) (.pointer (some ⟨o,off,none⟩)):=by
 intro φ x k
 obtain⟨b,sh,sz,e,rfl⟩:=zDm k
 exact .ptr _ _ _ _ _ (by unfold zX2;rw[if_neg (by omega),h];exact e)
theorem yD3 {v:Value}(h:zGk v=true):flat v=true:=by
 cases v<;>first
  |(simp[zGk] at h;done)
  |exact h
theorem zZn (ρ:Nat→Option Nat) {l l':zAz} {s s':St} (ht:∀ t,Wk ρ (zEp l' t) (zEp l t))
    (hlow:∀ id cs e ro,id < 64→s'.h.get id=some (.cells cs e ro)→s.h.get id=some (.cells cs e ro)∧zEd cs=true)
    (hcells:∀ id cs e ro,64≤id→s'.h.get id=some (.cells cs e ro)→∃ o cs0,ρ id=some o∧s.h.get o=some (.cells cs0 e ro)∧cs.length=cs0.length∧∀ i,Wk ρ (cs.getD i und) (cs0.getD i und))
    (hinj:∀ i j o,ρ i=some o→ρ j=some o→i=j) (hge:∀ i o,ρ i=some o→64≤o)
    (hnm:∀ id es,s'.h.get id≠some (.ob es)) (hn:∀ id,s'.next≤id→ρ id=none∧s'.h.get id=none) (h64:64≤s'.next) (hhi:s'.next≤s'.hi):zJ4 l s l' s':=by
  intro w0 φ0 n a w φ hφ0 A
  have hrn:∀ id x,zX2 ρ φ id=some x→(id < 64∧φ id=some x)∨(64≤id∧∃ o,ρ id=some o∧φ o=some x):=by
    intro id x e
    unfold zX2 at e
    by_cases q:id < 64
    · rw [if_pos q] at e; exact .inl ⟨q, e⟩
    · rw [if_neg q] at e
      split at e
      · rename_i o ho; exact .inr ⟨by omega, o, ho, e⟩
      · cases e
  refine ⟨zX2 ρ φ, ⟨A.hr.os, A.hr.output, A.hr.tape, A.hr.size, A.hr.old, fun id b sh sz e => ?_, fun id cs e ro g => ?_, ?_, fun id es g => absurd g (hnm id es), fun i j ei ej bi si zi bj sj zj hij gi _ _ _ => absurd gi (hnm i ei)⟩, fun id x e => ?_, ⟨A.fr.size, fun t => ht t _ _ (A.fr.tmp t), A.fr.defers⟩, fun id q => ?_, fun id q => (hn id q).2, hhi⟩
  · rcases hrn _ _ e with ⟨_, e⟩ | ⟨_, o, _, e⟩
    · exact A.hr.dom _ _ _ _ e
    · exact A.hr.dom _ _ _ _ e
  · by_cases q : id < 64
    · obtain ⟨g0, hf⟩ := hlow _ _ _ _ q g
      obtain⟨b,sh,sz,c,fz,k⟩:=A.hr.cells _ _ _ _ g0
      refine ⟨b, sh, sz, c, fz, by unfold zX2; rw [if_pos q]; exact k.at_, k.blk, k.exact_, k.size, k.fit, fun i hi => ?_, k.mine⟩
      have hv:=k.cell i hi
      refine zHh ?_ hv
      have hfl:∀ {l:List Value} {i:Nat},zEd l=true→i < l.length→flat (l.getD i und)=true:=by
        intro l
        induction l with
        | nil => intro i _ h; simp at h
        | cons v t ih =>
          intro i h1 h2
          simp only[zEd,Bool.and_eq_true] at h1
          cases i with
          | zero => exact yD3 h1.1
          | succ i => simpa using ih h1.2 (by simpa using h2)
      exact hfl hf hi
    · obtain ⟨o, cs0, ho, g0, hl, hc⟩ := hcells _ _ _ _ (by omega) g
      obtain⟨b,sh,sz,c,fz,k⟩:=A.hr.cells _ _ _ _ g0
      exact ⟨b, sh, sz, c, fz, by unfold zX2; rw [if_neg q, ho]; exact k.at_, k.blk, k.exact_, k.size, by rw [hl]; exact k.fit, fun i hi => hc i _ _ (k.cell i (by omega)), k.mine⟩
  · intro i j ci ei cj ej ro bi si zi bj sj zj hij gi gj ai aj
    have old:∀ {id cs e r b sh sz},s'.h.get id=some (.cells cs e r)→zX2 ρ φ id=some (b,sh,sz)→∃ o cs0,s.h.get o=some (.cells cs0 e r)∧φ o=some (b,sh,sz)∧((id < 64∧o=id)∨(64≤id∧ρ id=some o)):=by
      intro id cs e r b sh sz g e1
      rcases hrn _ _ e1 with ⟨q, e2⟩ | ⟨q, o, ho, e2⟩
      · exact ⟨id, cs, (hlow _ _ _ _ q g).1, e2, .inl ⟨q, rfl⟩⟩
      · obtain ⟨o', cs0, ho', g0, _, _⟩ := hcells _ _ _ _ q g
        rw[ho] at ho';cases ho'
        exact⟨o,cs0,g0,e2,.inr ⟨q,ho⟩⟩
    obtain⟨oi,c1,g1,a1,k1⟩:=old gi ai
    obtain⟨oj,c2,g2,a2,k2⟩:=old gj aj
    refine A.hr.inj oi oj c1 ei c2 ej ro bi si zi bj sj zj ?_ g1 g2 a1 a2
    intro e
    subst e
    rcases k1 with ⟨q1, rfl⟩ | ⟨q1, e1⟩ <;> rcases k2 with ⟨q2, e3⟩ | ⟨q2, e2⟩
    · exact hij e3
    · have := hge _ _ e2; omega
    · have := hge _ _ e1; omega
    · exact hij (hinj _ _ _ e1 e2)
  · have hlt : id < 64 := by
      rcases Nat.lt_or_ge id 64 with q | q
      · exact q
      · rw [hφ0 id q] at e; cases e
    unfold zX2;rw[if_pos hlt];exact A.le _ _ e
  · unfold zX2
    rw [if_neg (by omega), (hn id q).1]
end Go.Det
namespace Go.Det
variable {P:Program}
structure Con where
 own:Own
 w:List Value→St→KV→Prop
 ok:∀ args s (K:KV),w args s K→∃ v s',own args s=some (v,s')∧K v s'∧∀ K':KV,K' v s'→w args s K'
 mono:∀ args s (K K':KV),(∀ v s,K v s→K' v s)→w args s K→w args s K'
def cwC:List (Nat×Con)→Cw
 |[]=>fun _ _ _ _=>False
 |x::t=>fun g args s K=>match Nat.beq x.1 g with|true=>x.2.w args s K|false=>cwC t g args s K
def yC2:List (Nat×Con)→List (Nat×Own)
 |[]=>[]
 |x::t=>(x.1,x.2.own)::yC2 t
theorem zA0:∀ l,zFh (cwC l)
 |[]=>fun _ _ _ _ _ _ h=>h
 |x::t=>fun g args s K K' k h=>by
  unfold cwC at h ⊢
  split at h
  ·exact x.2.mono args s K K' k h
  ·exact zA0 t g args s K K' k h
theorem zAt (l:List (Nat×Con)):CwOk (zDr (yC2 l)) (cwC l):=by
 refine⟨?_,zA0 l⟩
 induction l with
 |nil=>exact fun _ _ _ _ h=>h.elim
 |cons x t ih=>
  intro g args s K h
  unfold cwC at h ⊢
  unfold zDr yC2 zTl
  split at h
  ·rename_i hb
   simp only[hb]
   exact x.2.ok args s K h
  ·rename_i hb
   simp only[hb]
   exact ih g args s K h
def Con.flat {α:Type}(dec:List Value→Option α)(dom:α→Bool)(res:α→Value):Con where
 own:=zDb fun args=>match dec args with
  |some a=>(match dom a with|true=>some (res a)|false=>none)
  |none=>none
 w:=fun args s K=>match dec args with
  |some a=>dom a=true∧K (res a) s
  |none=>False
 ok:=by
  intro args s K h
  unfold zDb
  split at h
  ·rename_i a ha
   exact⟨res a,s,by simp only[ha,h.1],h.2,fun K' k=>⟨h.1,k⟩⟩
  ·exact h.elim
 mono:=by
  intro args s K K' k h
  split at h
  ·exact⟨h.1,k _ _ h.2⟩
  ·exact h.elim
theorem zU9 {W:World}{G:Nat}{l:List (Nat×Con)}{h:Heap}{f:FuncId}{fn:Func}{c:Code}{α:Type}{dec:List Value→Option α}{dom:α→Bool}{res:α→Value}(enc:α→List Value)
  (L:Laying G W h) (hGW:G≤W.heap.size) (hG64:G≤64)
  (hm:P.follows .mixedOrders=true) (hl:OwnsAll P W G (yC2 l)) (hf:P.funcs[f]?=some fn) (hb:fn.body=some c) (hok:zEv G fn=true)
  (hdec:∀ args a,dec args=some a→args=enc a) (hflat:∀ a,zCp (enc a)=true∧flat (res a)=true∧Nat.ble (enc a).length fn.ntmps=true)
  (hF:∀ a,dom a=true→zAx P (cwC l) c (zAn (enc a) 8) (zAo h 64) (zA7 P fn fun v' _=>v'=res a)):zAr P W G f (Con.flat dec dom res).own:=by
 refine zU8 L hGW hG64 hm hl (zAt l) hf hb hok fun args v hv=>?_
 split at hv
 case h_2=>cases hv
 rename_i a ha
 split at hv
 case h_2=>cases hv
 rename_i hd
 cases hv
 obtain rfl:=hdec _ _ ha
 exact⟨(hflat a).1,(hflat a).2.1,(hflat a).2.2,hF a hd⟩
theorem OwnsAll.con {W:World}{G:Nat}{l:List (Nat×Con)}{f:Nat}{c:Con}(h:zAr P W G f c.own)(k:OwnsAll P W G (yC2 l)):OwnsAll P W G (yC2 ((f,c)::l)):=OwnsAll.cons h k
end Go.Det
namespace Go.Det
variable {P:Program}
def Con.opt {α β:Type}(dec:List Value→Option α)(f:α→Option β)(enc:β→Value):Con where
 own:=zDb fun args=>match dec args with
  |some a=>(match f a with|some b=>some (enc b)|none=>none)
  |none=>none
 w:=fun args s K=>match dec args with
  |some a=>∃ x,f a=some x∧K (enc x) s
  |none=>False
 ok:=by
  intro args s K h
  unfold zDb
  split at h
  ·rename_i a ha
   obtain⟨x,hx,hk⟩:=h
   exact⟨enc x,s,by simp only[ha,hx],hk,fun K' k=>⟨x,hx,k⟩⟩
  ·exact h.elim
 mono:=by
  intro args s K K' k h
  split at h
  ·obtain⟨x,hx,hk⟩:=h
   exact⟨x,hx,k _ _ hk⟩
  ·exact h.elim
theorem zPp {α β:Type}{dec:List Value→Option α}{f:α→Option β}{enc:β→Value}{args:List Value}{a:α}{b:β}(h1:dec args=some a)(h2:f a=some b)(s:St):(Con.opt dec f enc).own args s=some (enc b,s):=by
 simp only[Con.opt,zDb,h1,h2]
theorem zA3 {W:World}{G:Nat}{l:List (Nat×Con)}{h:Heap}{f:FuncId}{fn:Func}{c:Code}{α β:Type}{dec:List Value→Option α}{F:α→Option β}{encR:β→Value}(enc:α→List Value)
  (L:Laying G W h) (hGW:G≤W.heap.size) (hG64:G≤64)
  (hm:P.follows .mixedOrders=true) (hl:OwnsAll P W G (yC2 l)) (hf:P.funcs[f]?=some fn) (hb:fn.body=some c) (hok:zEv G fn=true)
  (hdec:∀ args a,dec args=some a→args=enc a) (hflat:∀ a,zCp (enc a)=true∧Nat.ble (enc a).length fn.ntmps=true) (hres:∀ b,flat (encR b)=true)
  (hF:∀ a b,F a=some b→zAx P (cwC l) c (zAn (enc a) 8) (zAo h 64) (zA7 P fn fun v' _=>v'=encR b)):zAr P W G f (Con.opt dec F encR).own:=by
 refine zU8 L hGW hG64 hm hl (zAt l) hf hb hok fun args v hv=>?_
 split at hv
 case h_2=>cases hv
 rename_i a ha
 split at hv
 case h_2=>cases hv
 rename_i b hd
 cases hv
 obtain rfl:=hdec _ _ ha
 exact⟨(hflat a).1,hres b,(hflat a).2,hF a b hd⟩
end Go.Det
namespace Go.Det
variable {P:Program}
def yPg (c:Nat):Nat→List UInt8→Option Nat
 |_,[]=>none
 |i,x::t=>match Nat.beq x.toNat c with|true=>some i|false=>yPg c (i+1) t
def yMy (c:Nat):Nat→List UInt8→Nat
 |n,[]=>n
 |n,x::t=>match Nat.beq x.toNat c with|true=>yMy c (n+1) t|false=>yMy c n t
def zZo:List UInt8→List UInt8→Bool
 |[],_=>true
 |_::_,[]=>false
 |a::s,b::t=>match Nat.beq a.toNat b.toNat with|true=>zZo s t|false=>false
def yMz (p:List UInt8):Nat→List UInt8→Option Nat
 |i,[]=>match p with|[]=>some i|_::_=>none
 |i,x::t=>match zZo p (x::t) with|true=>some i|false=>yMz p (i+1) t
def zPq:Option Nat→Value
 |some i=>.int .i64 (i:Nat)
 |none=>.int .i64 (-1)
theorem zZp (x c:UInt8):Nat.beq x.toNat c.toNat=(x==c):=by
 cases h:(x==c) with
 |true=>have:=eq_of_beq h;subst this;exact Nat.beq_refl _
 |false=>
  cases hb:Nat.beq x.toNat c.toNat with
  |false=>rfl
  |true=>have:=UInt8.toNat_inj.1 (Nat.eq_of_beq_eq_true hb);subst this;simp at h
theorem zZq (c:UInt8):∀ (i:Nat) (l:List UInt8),zPq (yPg c.toNat i l)=.int .i64 (if Lib.indexByte l c==-1 then -1 else Lib.indexByte l c+i)
 |i,[]=>rfl
 |i,x::t=>by
  rw[yPg,zZp]
  unfold Lib.indexByte
  cases h:(x==c) with
  |true=>simp[zPq]
  |false=>
   rw[zZq c (i+1) t]
   have:=Lib.indexByte_ge t c
   by_cases e:Lib.indexByte t c=-1
   ·simp[e]
   ·have h1:(Lib.indexByte t c==-1)=false:=by simpa using e
    have h2:¬ (Lib.indexByte t c+1=-1):=by omega
    simp[h1,h2]
    omega
theorem zTt (c:UInt8):∀ (n:Nat) (l:List UInt8),yMy c.toNat n l=n+l.count c
 |n,[]=>by simp[yMy]
 |n,x::t=>by
  rw[yMy,zZp,List.count_cons]
  cases h:(x==c) with
  |true=>simp only[zTt c (n+1) t];simp;omega
  |false=>simp only[zTt c n t];simp
theorem zZr:∀ (p l:List UInt8),zZo p l=p.isPrefixOf l
 |[],l=>by simp[zZo]
 |a::s,[]=>by simp[zZo]
 |a::s,b::t=>by
  rw[zZo,zZp,List.isPrefixOf,zZr s t]
  cases (a==b)<;>rfl
theorem zZs (p:List UInt8):∀ (i:Nat) (l:List UInt8),zPq (yMz p i l)=.int .i64 (if Lib.index l p==-1 then -1 else Lib.index l p+i)
 |i,[]=>by
  cases p with
  |nil=>simp[yMz,Lib.index,zPq]
  |cons a s=>simp[yMz,Lib.index,zPq]
 |i,x::t=>by
  rw[yMz,zZr]
  unfold Lib.index
  cases h:p.isPrefixOf (x::t) with
  |true=>simp[zPq]
  |false=>
   rw[zZs p (i+1) t]
   have:=Lib.index_ge t p
   by_cases e:Lib.index t p=-1
   ·simp[e]
   ·have h1:(Lib.index t p==-1)=false:=by simpa using e
    have h2:¬ (Lib.index t p+1=-1):=by omega
    simp[h1,h2]
    omega
def zHn:List Value→Option Value
 |[.string b,.int .u8 c]=>some (zPq (yPg (c.toNat % 256) 0 b.data.toList))
 |_=>none
def zHo:List Value→Option Value
 |[.string b,.int .u8 c]=>some (.int .i64 (yMy (c.toNat % 256) 0 b.data.toList:Nat))
 |_=>none
def zVa:List Value→Option Value
 |[.string b,.string c]=>match Nat.ble (b.size+1) 4294967281 with|true=>some (zPq (yMz c.data.toList 0 b.data.toList))|false=>none
 |_=>none
theorem zXi (r:Option Nat):flat (zPq r)=true:=by cases r<;>rfl
theorem zMf (n:Nat):n.toUInt8.toNat=n % 256:=by simp
theorem zRz {w0:World}{G:Nat}{f:FuncId}(he:Entry P f Extern.BytealgIndexByte.indexByte):zGh P w0 G f (zDb zHn):=by
 refine zPl fun args v h=>?_
 unfold zHn at h
 split at h
 case h_2=>cases h
 rename_i b c
 cases h
 refine⟨rfl,zXi _,fun w=>?_⟩
 rw[he]
 have key:=Lib.run_indexByteString (P:=P) b c w
 have e:=zZq c.toNat.toUInt8 0 b.data.toList
 rw[zMf] at e
 have e2:(if Lib.indexByte b.data.toList c.toNat.toUInt8==-1 then -1 else Lib.indexByte b.data.toList c.toNat.toUInt8+((0:Nat):Int))=Lib.indexByte b.data.toList c.toNat.toUInt8:=by
  split
  ·rename_i q;exact(eq_of_beq q).symm
  ·simp
 rw[e2] at e
 rw[e]
 exact congrArg (fun r:Result Value=>Result.andThen r fun v w'=>Result.ok (Next.value v) w') key
theorem zR0 {w0:World}{G:Nat}{f:FuncId}(he:Entry P f Extern.BytealgCount.count):zGh P w0 G f (zDb zHo):=by
 refine zPl fun args v h=>?_
 unfold zHo at h
 split at h
 case h_2=>cases h
 rename_i b c
 cases h
 refine⟨rfl,rfl,fun w=>?_⟩
 rw[he]
 have key:=Lib.run_countString (P:=P) b c w
 have e:=zTt c.toNat.toUInt8 0 b.data.toList
 rw[zMf,Nat.zero_add] at e
 rw[e]
 exact congrArg (fun r:Result Value=>Result.andThen r fun v w'=>Result.ok (Next.value v) w') key
theorem yD4 {w0:World}{G:Nat}{f:FuncId}(he:∀ (args:Array Value) (w:World),(callFunc f args).run P w=.ok (.enter f args) w){g:Nat}(hold:g < w0.heap.size)
  (hc:∀ (s sub:ByteArray) (w:World),w.heap[g]?=w0.heap[g]?→s.size < 4294967281→
   Calls P f #[.string s,.string sub] w fun e w'=>e=.returned (.int .i64 (Lib.index s.data.toList sub.data.toList))∧w'=w):zGh P w0 G f (zDb zVa):=by
 intro args s v s' e φ w args' H _ hA _ _
 unfold zDb zVa at e
 split at e
 case h_2=>cases e
 rename_i r hr
 cases e
 split at hr
 case h_2=>cases hr
 rename_i b c
 split at hr
 case h_2=>cases hr
 rename_i hs
 have hs:=Nat.le_of_ble_eq_true hs
 cases hr
 have ha:zCp [Value.string b,Value.string c]=true:=rfl
 rw[zCf ha hA,he]
 refine(hc b c w (H.old g hold) hs).mono ?_
 rintro e w' ⟨rfl,rfl⟩
 have e:=zZs c.data.toList 0 b.data.toList
 have e2:(if Lib.index b.data.toList c.data.toList==-1 then -1 else Lib.index b.data.toList c.data.toList+((0:Nat):Int))=Lib.index b.data.toList c.data.toList:=by
  split
  ·rename_i q;exact(eq_of_beq q).symm
  ·simp
 rw[e2] at e
 exact⟨_,φ,rfl,Ext.refl _ _ _,by rw[e];exact .int _ _,H⟩
def zZt:Own:=fun args s=>match args with|[x]=>some (x,s)|_=>none
theorem yD5:zZf zZt:=fun args=>by
 match args with
 |[]=>exact zA6 fun _=>rfl
 |[x]=>exact zBd (some x) fun _=>rfl
 |_::_::_=>exact zA6 fun _=>rfl
theorem yHv {w0:World}{G:Nat}{f:FuncId}(he:Entry P f Extern.AbiNoEscape.same):zGh P w0 G f zZt:=by
 intro args s v s' e φ w args' H _ hA _ _
 unfold zZt at e
 split at e
 case h_2=>cases e
 cases e
 obtain⟨v',t',rfl,hv,ht⟩:=hA.head
 rw[ht.of_nil,he]
 exact⟨φ,Ext.refl _ _ _,hv,H⟩
def yM0 (elem:TypeId):Own:=fun args s=>match args with
 |[.int .i64 n]=>match decide (0≤n)&&Nat.ble n.toNat 1048576 with
  |true=>some (.slice (some ⟨s.next,0,none⟩) n.toNat (zEo+1),s.new (.cells (zCb [und] n.toNat) (2 * elem) false))
  |false=>none
 |_=>none
theorem zNf (n:Nat):(zCb [und] n).length=n:=by
 induction n with
 |zero=>rfl
 |succ n ih=>rw[zCb,List.length_append,ih];simp;omega
theorem zTu (n i:Nat):(zCb [und] n).getD i und=und:=by
 induction n generalizing i with
 |zero=>rfl
 |succ n ih=>
  cases i with
  |zero=>rfl
  |succ i=>exact ih i
theorem yHw (elem:TypeId):zZf (yM0 elem):=fun args=>by
 refine zLp (match args with
  |[.int .i64 n]=>match decide (0≤n)&&Nat.ble n.toNat 1048576 with
   |true=>some (Blk.cells (zCb [und] n.toNat) (2 * elem) false,fun k=>Value.slice (some ⟨k,0,none⟩) n.toNat (zEo+1))
   |false=>none
  |_=>none) fun s=>?_
 unfold yM0
 split
 ·split<;>rfl
 ·rfl
theorem yNg {w0:World}{G:Nat}{f:FuncId}{ps:Array TypeId}{t elem:TypeId}(he:Entry P f (Extern.BytealgMakeNoZero.makeNoZero ps #[t]))(hu:P.underlying t=some (.slice elem)):zGh P w0 G f (yM0 elem):=by
 intro args s v s' e φ w args' H _ hA hf hF
 unfold yM0 at e
 split at e
 case h_2=>cases e
 rename_i n
 split at e
 case h_2=>cases e
 rename_i hc
 cases e
 rw[Bool.and_eq_true] at hc
 have h0:=of_decide_eq_true hc.1
 have h1:=Nat.le_of_ble_eq_true hc.2
 have ha:zCp [Value.int .i64 n]=true:=rfl
 rw[zCf ha hA,he]
 obtain⟨m,rfl⟩:=Int.eq_ofNat_of_zero_le h0
 obtain⟨cs,hrun,hcs,_⟩:=Lib.run_makeNoZero w ps t elem hu m (Nat.le_trans (show m≤1048576 from h1) (by decide))
 have hrun2:((Extern.BytealgMakeNoZero.makeNoZero ps #[t] ⟨[.int .i64 m]⟩).run P w)=_:=hrun
 rw[hrun2]
 have hnew:φ s.next=none:=hf s.next (Nat.le_refl _) (by show s.next < Nat.max s.hi (s.next+1);exact Nat.lt_of_lt_of_le (Nat.lt_succ_self _) (Nat.le_max_right _ _))
 refine⟨upd φ s.next (w.heap.size,0,cs.size),Ext.upd hnew _,?_,?_⟩
 ·exact VR.sliceU (φ:=upd φ s.next (w.heap.size,0,cs.size)) s.next 0 w.heap.size 0 cs.size m cs.size 1 (zBe _ _ _) (by decide) (by omega) hcs
 ·refine H.adopt (w':=w.drew.drew.alloc (.cells cs elem)) hnew rfl rfl rfl (by show w.heap.size≤(w.heap.push _).size;rw[Array.size_push];omega) (fun j hj hj2=>?_) H.size (fz:=(0,0)) (c:=cs) ?_ (fun _=>rfl) ?_ rfl ?_ (fun i hi=>?_) (fun _ o _=>by simp) (fun O q=>by rw[Array.getElem?_eq_none (Nat.le_refl _)] at q;cases q)
  ·show(w.heap.push _)[j]?=w.heap[j]?
   rw[Array.getElem?_push,if_neg (by omega)]
  ·show(w.heap.push _)[w.heap.size]?=_
   rw[Array.getElem?_push,if_pos rfl,zS5]
  ·intro j cj ej rj bj sj zj g a
   have:=H.dom _ _ _ _ a
   omega
  ·rw[zNf];show 0+m≤cs.size;omega
  ·rw[zTu];exact .any _
end Go.Det
namespace Go.Det
variable {P:Program}
def eqB (a b:ByteArray):Bool:=zZo a.data.toList b.data.toList&&zZo b.data.toList a.data.toList
def yNh (a b:Int):Bool:=decide (a=b)
def yPh:Value→Value→Bool
 |.int k a,.int k' b=>zGd k k'&&yNh a b
 |.bool a,.bool b=>a==b
 |.string a,.string b=>eqB a b
 |_,_=>false
def yPi:List Value→List Value→Bool
 |[],[]=>true
 |a::s,b::t=>yPh a b&&yPi s t
 |_,_=>false
def yPj:Value→Value→Bool
 |.agg a,.agg b=>yPi a.toList b.toList
 |a,b=>yPh a b
def zZu:List Value→List Value→Bool
 |[],[]=>true
 |a::s,b::t=>yPj a b&&zZu s t
 |_,_=>false
def eqV:Value→Value→Bool
 |.tuple a,.tuple b=>zZu a.toList b.toList
 |a,b=>yPj a b
theorem zIw:∀ {a b:List UInt8},zZo a b=true→zZo b a=true→a=b
 |[],[],_,_=>rfl
 |[],_::_,_,h=>by cases h
 |_::_,[],h,_=>by cases h
 |x::s,y::t,h,k=>by
  unfold zZo at h k
  split at h
  ·rename_i hb
   split at k
   ·rw[UInt8.toNat_inj.1 (Nat.eq_of_beq_eq_true hb),zIw h k]
   ·cases k
  ·cases h
theorem yNi {a b:ByteArray}(h:eqB a b=true):a=b:=by
 unfold eqB at h
 rw[Bool.and_eq_true] at h
 have:=zIw h.1 h.2
 cases a with|mk a=>cases b with|mk b=>
  cases a with|mk a=>cases b with|mk b=>simp at this;rw[this]
theorem zZv {a b:Value}(h:yPh a b=true):a=b:=by
 unfold yPh at h
 split at h
 ·rw[Bool.and_eq_true] at h
  rw[zIj h.1,of_decide_eq_true h.2]
 ·rw[eq_of_beq h]
 ·rw[yNi h]
 ·cases h
theorem zZw:∀ {a b:List Value},yPi a b=true→a=b
 |[],[],_=>rfl
 |[],_::_,h=>by cases h
 |_::_,[],h=>by cases h
 |x::s,y::t,h=>by
  unfold yPi at h
  rw[Bool.and_eq_true] at h
  rw[zZv h.1,zZw h.2]
theorem zZx {a b:Value}(h:yPj a b=true):a=b:=by
 unfold yPj at h
 split at h
 ·rename_i a b;have:=zZw h;cases a;cases b;simp at this;rw[this]
 ·exact zZv h
theorem zVb:∀ {a b:List Value},zZu a b=true→a=b
 |[],[],_=>rfl
 |[],_::_,h=>by cases h
 |_::_,[],h=>by cases h
 |x::s,y::t,h=>by
  unfold zZu at h
  rw[Bool.and_eq_true] at h
  rw[zZx h.1,zVb h.2]
theorem yGg {a b:Value}(h:eqV a b=true):a=b:=by
 unfold eqV at h
 split at h
 ·rename_i a b;have:=zVb h;cases a;cases b;simp at this;rw[this]
 ·exact zZx h
abbrev Tbl:=List (List Value×Value)
def yP3 (args:List Value):Tbl→Option Value
 |[]=>none
 |e::t=>match zZu e.1 args with|true=>some e.2|false=>yP3 args t
def zXj (r:Option (Value×St))(v:Value):Bool:=match r with|some x=>eqV x.1 v|none=>false
def yD6 (run:List Value→Option (Value×St)):Tbl→Bool
 |[]=>true
 |e::t=>match zCp e.1&&(flat e.2&&zXj (run e.1) e.2) with|true=>yD6 run t|false=>false
theorem zR1 {run:List Value→Option (Value×St)}:∀ {t:Tbl},yD6 run t=true→∀ e∈t,zCp e.1=true∧flat e.2=true∧∃ s,run e.1=some (e.2,s)
 |[],_,e,h=>by cases h
 |x::t,h,e,he=>by
  unfold yD6 at h
  split at h
  case h_2=>cases h
  rename_i hb
  rcases List.mem_cons.1 he with rfl|he
  ·simp only[Bool.and_eq_true] at hb
   obtain⟨h1,h2,h3⟩:=hb
   refine⟨h1,h2,?_⟩
   unfold zXj at h3
   split at h3
   ·rename_i y hy
    exact⟨y.2,by rw[hy,← yGg h3]⟩
   ·cases h3
  ·exact zR1 h e he
end Go.Det
namespace Go.Proofs
open Go.Shelf
def Tryz.lays219_ren:Go.Shelf.Ren:=⟨fun|219=>100|217=>111|225=>112|224=>113|267=>114|266=>123|314=>124|n=>n,fun|9=>9|3=>3|4=>4|5=>5|46=>39|146=>129|51=>128|n=>n,fun|1=>0|n=>n⟩
theorem Tryz.lays219:Go.Proofs.Lays.n219 Tryz.prog Tryz.lays219_ren:={
 mixed:=by kernel_rfl
 f217:=Tryz.func111.trans (congrArg some (by kernel_rfl))
 f219:=Tryz.func100.trans (congrArg some (by kernel_rfl))
 f224:=Tryz.func113.trans (congrArg some (by kernel_rfl))
 f225:=Tryz.func112.trans (congrArg some (by kernel_rfl))
 f266:=Tryz.func123.trans (congrArg some (by kernel_rfl))
 f267:=Tryz.func114.trans (congrArg some (by kernel_rfl))
 f314:=Tryz.func124.trans (congrArg some (by kernel_rfl))
 t3:=Tryz.underlying3
 a3:=Tryz.isAgg3
 z3:=Tryz.sizeOf3
 v3:=Tryz.zeroValue3
 t4:=Tryz.underlying4
 a4:=Tryz.isAgg4
 z4:=Tryz.sizeOf4
 v4:=Tryz.zeroValue4
 t5:=Tryz.underlying5
 a5:=Tryz.isAgg5
 z5:=Tryz.sizeOf5
 v5:=Tryz.zeroValue5
 t9:=Tryz.underlying9
 a9:=Tryz.isAgg9
 z9:=Tryz.sizeOf9
 v9:=Tryz.zeroValue9
 t46:=Tryz.underlying39
 a46:=Tryz.isAgg39
 z46:=Tryz.sizeOf39
 v46:=Tryz.zeroValue39
 t51:=Tryz.underlying128
 a51:=Tryz.isAgg128
 z51:=Tryz.sizeOf128
 v51:=Tryz.zeroValue128
 t146:=Tryz.underlying129
 a146:=Tryz.isAgg129
 z146:=Tryz.sizeOf129
 v146:=Tryz.zeroValue129
 g1:=by kernel_rfl }
def Tryz.laysM219_ren:Go.Shelf.Ren:=⟨fun|219=>100|217=>111|225=>112|224=>113|267=>114|266=>123|314=>124|n=>n,fun|9=>9|3=>3|4=>4|5=>5|46=>39|146=>129|51=>128|n=>n,fun|1=>0|n=>n⟩
theorem Tryz.laysM219:Go.Proofs.LaysM.n219 Tryz.prog Tryz.laysM219_ren:={
 mixed:=by kernel_rfl
 f217:=Tryz.func111.trans (congrArg some (by kernel_rfl))
 f219:=Tryz.func100.trans (congrArg some (by kernel_rfl))
 f224:=Tryz.func113.trans (congrArg some (by kernel_rfl))
 f225:=Tryz.func112.trans (congrArg some (by kernel_rfl))
 f266:=Tryz.func123.trans (congrArg some (by kernel_rfl))
 f267:=Tryz.func114.trans (congrArg some (by kernel_rfl))
 f314:=Tryz.func124.trans (congrArg some (by kernel_rfl))
 t3:=Tryz.underlying3
 a3:=Tryz.isAgg3
 z3:=Tryz.sizeOf3
 v3:=Tryz.zeroValue3
 t4:=Tryz.underlying4
 a4:=Tryz.isAgg4
 z4:=Tryz.sizeOf4
 v4:=Tryz.zeroValue4
 t5:=Tryz.underlying5
 a5:=Tryz.isAgg5
 z5:=Tryz.sizeOf5
 v5:=Tryz.zeroValue5
 t9:=Tryz.underlying9
 a9:=Tryz.isAgg9
 z9:=Tryz.sizeOf9
 v9:=Tryz.zeroValue9
 t46:=Tryz.underlying39
 a46:=Tryz.isAgg39
 z46:=Tryz.sizeOf39
 v46:=Tryz.zeroValue39
 t51:=Tryz.underlying128
 a51:=Tryz.isAgg128
 z51:=Tryz.sizeOf128
 v51:=Tryz.zeroValue128
 t146:=Tryz.underlying129
 a146:=Tryz.isAgg129
 z146:=Tryz.sizeOf129
 v146:=Tryz.zeroValue129
 g1:=by kernel_rfl
 i3:=by kernel_rfl
 i4:=by kernel_rfl
 i5:=by kernel_rfl
 i9:=by kernel_rfl
 i46:=by kernel_rfl
 i51:=by kernel_rfl
 i146:=by kernel_rfl
 m1:=by kernel_rfl
 s1_3:=fun w h=>Go.Proofs.cell_of_shapedOpen_int (zero:=#[.int .i64 0]) (t:=3) h (of_decide_eq_true (by kernel_rfl)) (by kernel_rfl) rfl (by kernel_rfl) (by kernel_rfl) Tryz.underlying3 }
open Go.RowKit Go.Lib in
theorem Tryz.stringslite_Index (s sub:ByteArray)(m:Int)(w:World)(hs:s.size < 4294967281)(hm:w.cell? ⟨0,0,none⟩=some (.int .i64 m)):
  Calls Tryz.prog 100 #[.string s,.string sub] w fun e w'=>e=.returned (.int .i64 (Lib.index s.data.toList sub.data.toList))∧w'=w:=Any.stringslite_Index Tryz.lays219 s sub m w hs hm
end Go.Proofs
namespace Go.Proofs.YtfnacgojmdbjmaaGreatDoor
open Go.ChangeShapes Go.WideShapes Go.ChangeAt Go.RowKit Go.Det
theorem yNj:ownKnob Tryz.prog.godebug=none:=by kernel_rfl
theorem zAs:Tryz.prog.follows .mixedOrders=true:=by kernel_rfl
theorem ySn:Tryz.prog.underlying 5=some (.int .u8):=by kernel_rfl
theorem ySo:Tryz.prog.cellsOf 5=1:=by kernel_rfl
theorem yP4:Tryz.prog.underlying 23=some (.int .u64):=by kernel_rfl
theorem yP5:Tryz.prog.cellsOf 23=1:=by kernel_rfl
def db32:List Int:=[0,1,28,2,29,14,24,3,30,22,20,15,25,17,4,8,31,27,13,23,21,19,16,7,26,12,18,6,11,5,10,9]
theorem zZy:zEd (db32.map (Value.int .u8))=true:=by kernel_rfl
theorem g_db32:Tryz.prog.globalNamed "math/bits.deBruijn32tab"=some 3:=by kernel_rfl
theorem t_db32:(Tryz.prog.globals[3]?).map (·.type)=some 142:=by kernel_rfl
theorem yNk:Tryz.prog.underlying 142=some (.array 32 5):=by kernel_rfl
theorem yNl:Tryz.prog.cellsOf 142=32:=by kernel_rfl
def db64:List Int:=[0,1,56,2,57,49,28,3,61,58,42,50,38,29,17,4,62,47,59,36,45,43,51,22,53,39,33,30,24,18,12,5,63,55,48,27,60,41,37,16,46,35,44,21,52,32,23,11,54,26,40,15,34,20,31,10,25,14,19,9,13,8,7,6]
theorem zZz:zEd (db64.map (Value.int .u8))=true:=by kernel_rfl
theorem g_db64:Tryz.prog.globalNamed "math/bits.deBruijn64tab"=some 1:=by kernel_rfl
theorem t_db64:(Tryz.prog.globals[1]?).map (·.type)=some 127:=by kernel_rfl
theorem yNm:Tryz.prog.underlying 127=some (.array 64 5):=by kernel_rfl
theorem yNn:Tryz.prog.cellsOf 127=64:=by kernel_rfl
def p10:List Int:=[1,10,100,1000,10000,100000,1000000,10000000,100000000,1000000000,10000000000,100000000000,1000000000000,10000000000000,100000000000000,1000000000000000,10000000000000000,100000000000000000,1000000000000000000,10000000000000000000]
theorem yD7:zEd (p10.map (Value.int .u64))=true:=by kernel_rfl
theorem g_p10:Tryz.prog.globalNamed "internal/strconv.uint64pow10"=some 2:=by kernel_rfl
theorem t_p10:(Tryz.prog.globals[2]?).map (·.type)=some 136:=by kernel_rfl
theorem yP6:Tryz.prog.underlying 136=some (.array 20 23):=by kernel_rfl
theorem yP7:Tryz.prog.cellsOf 136=20:=by kernel_rfl
def zPr (t_xdb32 t_xdb64 t_xp10:TypeId):Heap:=Heap.set (Heap.set (Heap.set ([]) 3 (.cells (db32.map (Value.int .u8)) (2 * t_xdb32) true)) 1 (.cells (db64.map (Value.int .u8)) (2 * t_xdb64) true)) 2 (.cells (p10.map (Value.int .u64)) (2 * t_xp10) true)
abbrev yD8:List (String×DataW Unit):=[("math/bits.deBruijn32tab",Rows.laid_math_bits_deBruijn32tab),("math/bits.deBruijn64tab",Rows.laid_math_bits_deBruijn64tab),("internal/strconv.uint64pow10",Rows.laid_internal_strconv_uint64pow10),("unicode/utf8.acceptRanges",Rows.laid_unicode_utf8_acceptRanges),("unicode/utf8.first",Rows.laid_unicode_utf8_first)]
theorem g_top:Tryz.prog.globalNamed "unicode/utf8.acceptRanges"=some 5:=by kernel_rfl
theorem yD9 {W:World}(h:laidMetH Tryz.prog yD8 W):∃ t_xdb32 t_xdb64 t_xp10,Laying 6 W (zPr t_xdb32 t_xdb64 t_xp10)∧6≤W.heap.size:=by
 rw[MakeChecks.laidMetH_plain _ _ _ (by kernel_rfl)] at h
 obtain⟨ps,⟨gdb32,ydb32,csdb32,fueldb32,pdb32,qdb32,hgdb32,htdb32,hvdb32,hddb32,⟨gdb64,ydb64,csdb64,fueldb64,pdb64,qdb64,hgdb64,htdb64,hvdb64,hddb64,⟨gp10,yp10,csp10,fuelp10,pp10,qp10,hgp10,htp10,hvp10,hdp10,⟨gM,yM,csM,fuelM,pM,qM,hgM,htM,hvM,hdM,_,_⟩,_⟩,_⟩,_⟩,_⟩:=h
 obtain rfl:=Option.some.inj (g_db32.symm.trans hgdb32)
 obtain rfl:=Option.some.inj (t_db32.symm.trans htdb32)
 obtain⟨t_xdb32,fzdb32,hbdb32⟩:=zEx g_db32 hvdb32
 obtain rfl:=Option.some.inj (g_db64.symm.trans hgdb64)
 obtain rfl:=Option.some.inj (t_db64.symm.trans htdb64)
 obtain⟨t_xdb64,fzdb64,hbdb64⟩:=zEx g_db64 hvdb64
 obtain rfl:=Option.some.inj (g_p10.symm.trans hgp10)
 obtain rfl:=Option.some.inj (t_p10.symm.trans htp10)
 obtain⟨t_xp10,fzp10,hbp10⟩:=zEx g_p10 hvp10
 obtain rfl:=Option.some.inj (g_top.symm.trans hgM)
 obtain⟨t_xM,fzM,hbM⟩:=zEx g_top hvM
 have hs:6≤W.heap.size:=zPk hbM
 have Ldb32:=(Laying.empty (G:=6) hs).lay (by decide) hbdb32 (zGx yNk ySn ySo yNl hddb32) zZy
 have Ldb64:=Ldb32.lay (by decide) hbdb64 (zGx yNm ySn ySo yNn hddb64) zZz
 have Lp10:=Ldb64.lay (by decide) hbp10 (zGx yP6 yP4 yP5 yP7 hdp10) yD7
 exact⟨t_xdb32,t_xdb64,t_xp10,Lp10,hs⟩
theorem zZ0 (os:Os)(args:Array Value):laidMetH Tryz.prog yD8 ((World.laidAll Tryz.prog os yD8).forCall (fun _ _=>0) ⟨#[],args,[]⟩).memory:=by
 rw[MakeChecks.laidMetH_plain _ _ _ (by kernel_rfl)]
 exact laidMet_laidAll _ (by kernel_rfl) (by kernel_rfl)
def Len (W:World):Prop:=0 < W.heap.size∧∃ m,W.cell? ⟨0,0,none⟩=some (.int .i64 m)
theorem yP8:Entry Tryz.prog 110 add64Entry:=Entry.mk (fn:=Tryz.f110) Tryz.func110 (by kernel_rfl) (by kernel_rfl) (by kernel_rfl) (by kernel_rfl)
theorem yTk {W:World}(_:Len W)(G:Nat):zGh Tryz.prog W G 110 (zDb yPd):=yD0 yP8
theorem yNo (args:Array Value)(w:World):(callFunc 100 args).run Tryz.prog w=.ok (.enter 100 args) w:=
 zBj (fn:=Tryz.f100) (c:=match Tryz.f100.body with|some c=>c|none=>.skip) Tryz.func100 (by kernel_rfl) (by kernel_rfl) args w
theorem yTl {W:World}(hW:Len W)(G:Nat):zGh Tryz.prog W G 100 (zDb zVa):=by
 refine yD4 yNo hW.1 fun s sub w hw hs=>?_
 obtain⟨_,m,hm⟩:=hW
 refine Tryz.stringslite_Index s sub m w hs ?_
 rw[← hm]
 unfold World.cell?
 rw[hw]
theorem yP9:Entry Tryz.prog 128 Extern.AbiNoEscape.same:=Entry.mk (fn:=Tryz.f128) Tryz.func128 (by kernel_rfl) (by kernel_rfl) (by kernel_rfl) (by kernel_rfl)
theorem yTm {W:World}(_:Len W)(G:Nat):zGh Tryz.prog W G 128 zZt:=yHv yP9
theorem yQa:Entry Tryz.prog 129 (Extern.BytealgMakeNoZero.makeNoZero Tryz.f129.params #[22]):=Entry.mk (fn:=Tryz.f129) Tryz.func129 (by kernel_rfl) (by kernel_rfl) (by kernel_rfl) (by kernel_rfl)
theorem yTn {W:World}(_:Len W)(G:Nat):zGh Tryz.prog W G 129 (yM0 5):=yNg yQa (show Tryz.prog.underlying 22=some (.slice 5) by kernel_rfl)
theorem yQb:Entry Tryz.prog 123 Extern.BytealgIndexByte.indexByte:=Entry.mk (fn:=Tryz.f123) Tryz.func123 (by kernel_rfl) (by kernel_rfl) (by kernel_rfl) (by kernel_rfl)
theorem yTo {W:World}(_:Len W)(G:Nat):zGh Tryz.prog W G 123 (zDb zHn):=zRz yQb
theorem yQc:Entry Tryz.prog 137 Extern.BytealgCount.count:=Entry.mk (fn:=Tryz.f137) Tryz.func137 (by kernel_rfl) (by kernel_rfl) (by kernel_rfl) (by kernel_rfl)
theorem yTp {W:World}(_:Len W)(G:Nat):zGh Tryz.prog W G 137 (zDb zHo):=zR0 yQc
def zPs:List (Nat×Own):=[(100,zDb zVa),(110,zDb yPd),(123,zDb zHn),(128,zZt),(129,yM0 5),(137,zDb zHo)]
theorem zVc:zL0 (zTl zPs):=yHq fun x hx=>by
 simp only[zPs,List.mem_cons,List.not_mem_nil,or_false] at hx
 rcases hx with rfl|rfl|rfl|rfl|rfl|rfl
 ·exact zF2 _
 ·exact zF2 _
 ·exact zF2 _
 ·exact yD5
 ·exact yHw 5
 ·exact zF2 _
theorem zVd {W:World}(hW:Len W)(G:Nat):zL1 Tryz.prog W G (zTl zPs):=yHr fun x hx=>by
 simp only[zPs,List.mem_cons,List.not_mem_nil,or_false] at hx
 rcases hx with rfl|rfl|rfl|rfl|rfl|rfl
 ·exact yTl hW G
 ·exact yTk hW G
 ·exact yTo hW G
 ·exact yTm hW G
 ·exact yTn hW G
 ·exact yTp hW G
def zTv:Nat:=1218540520820572493101426102222558936956927
theorem okA:(Nat.ble (zTv+1) (Nat.shiftLeft 1 140)&&zL4 Tryz.prog 6 zTv 140)=true:=by kernel_rfl
theorem zTw {H:Type}{enc:TypeId×Value→H}{C:Checked}{os:Os}{f:FuncId}{fn:Func}{s:ChangeSpec}{X:World→Array Value→Prop}
  (hX:∀ (w w':World) (args:Array Value),w.heap=w'.heap→X w args→X w' args)
  (own:ownKnob C.prog.godebug=none) (started:os.Started) (noInit:C.prog.inits.idxOf? f=none) (hfn:C.prog.funcs[f]?=some fn)
  (witness:∃ (w:World) (tape:Tape) (i:Input),w.os=os∧(w.forCall tape i).Shaped C.prog∧i.vars=[]∧Input.okWide C.prog (w.forCall tape i) .any w.heap.size f i∧
   ((s.pre enc C.prog fn [] false (w.forCall tape i).memory i.args∧X (w.forCall tape i).memory i.args)∧sizedMet enc C.prog fn (OpenSpec.ofChange s) false (w.forCall tape i).memory i.args)∧({}:Assume).holds C.prog (lone (Frame.enter C.prog f i.args .normal) [] (w.forCall tape i)))
  (contract:∀ (W:World) (base:Nat) (args:Array Value) (ds gs:List (DataW H)) (before:List MemPlace),
   (∀ (j:Nat) t v,fn.params[j]?=some t→args[j]?=some v→Value.okWide C.prog W .any base t v)→
   DataW.Whole enc C.prog fn.params.toList s.vars false W args.toList ds gs before→X W args→W.ShapedOpen C.prog→
   Calls C.prog f args W fun e W'=>∃ v,e=.returned v∧s.post enc C.prog fn false true false false W args v W'):
  ReturnsInHanded {} C os f .any (fun w args=>(s.pre enc C.prog fn [] false w args∧X w args)∧sizedMet enc C.prog fn (OpenSpec.ofChange s) false w args) (s.post enc C.prog fn false true false false):=by
 refine returnsInHanded_of_calls own started noInit witness ?_
 intro w tape i _ hsh _ hok hpre _
 obtain⟨_,_,_,fn',hfn',_,_,_,_,hval⟩:=hok
 have e:fn'=fn:=Option.some.inj (hfn'.symm.trans hfn)
 subst e
 obtain⟨⟨⟨ds,gs,before,hw,_⟩,hx⟩,_⟩:=hpre
 have hw':=DataW.Whole.of_heap (w':=w.forCall tape i) (by rfl) hw
 refine(contract (w.forCall tape i) w.heap.size i.args ds gs before hval hw' (hX _ _ _ (by rfl) hx) hsh).mono fun e W' ⟨v,he,hp⟩=>?_
 subst he
 exact ChangeSpec.post_blind hp
theorem Len.of_shape {W:World}(h:W.ShapedOpen Tryz.prog)(hs:6≤W.heap.size):Len W:=⟨by omega,Tryz.laysM219.s1_3 W h⟩
theorem Len.later {W w:World}(h:Len W)(h1:W.heap.size≤w.heap.size)(h2:∀ b,b < W.heap.size→w.heap[b]?=W.heap[b]?):Len w:=by
 obtain⟨h0,m,hm⟩:=h
 refine⟨by omega,m,?_⟩
 rw[← hm]
 unfold World.cell?
 rw[h2 0 h0]
end Go.Proofs.YtfnacgojmdbjmaaGreatDoor
namespace Go.Det
open Go.RowKit
variable {P:Program}
theorem zR2 {G:Nat}{f:FuncId}{fn:Func}{c:Code}{g:Own}{w:World}{args:List Value}{v:Value}{s':St}(h:zGh P w G f g)(hG:G≤64)(hs:G≤w.heap.size)
  (hf:P.funcs[f]?=some fn) (hb:fn.body=some c) (hn:(fn.name== "runtime.NumGoroutine")=false) (e:g args (zAo [] 64)=some (v,s')) (h1:zCp args=true) (h2:flat v=true) (h3:v≠und):
  Calls P f ⟨args⟩ w fun e w'=>e=.returned v∧Below w.heap.size w w':=by
 have L:=Laying.empty (G:=G) hs
 have k:=h args (zAo [] 64) v s' e (glob G w) w args L.hr (zEj G w) (zDl h1 _) (fun id q _=>zDu G w hG id q) ⟨Nat.le_refl _,fun id q _=>L.top id (Nat.le_trans hG q)⟩
 rw[zBj hf hb hn] at k
 refine Calls.mono k ?_
 rintro e w' ⟨v',φ',rfl,_,hv,H⟩
 rw[zIs h2 hv h3]
 exact⟨rfl,H.os,H.tape,H.output,H.size,fun j hj=>H.old j hj⟩
end Go.Det
namespace Go.Proofs.YtfnacgojmdbjmaaGreatDoor
open Go.Det Go.RowKit
structure GoodW (w:World):Prop where
 lay:∃ t0 t1 t2,Laying 6 w (zPr t0 t1 t2)
 size:6≤w.heap.size
 len:Len w
theorem GoodW.later {W w:World}(h:GoodW W)(h1:W.heap.size≤w.heap.size)(h2:∀ b,b < W.heap.size→w.heap[b]?=W.heap[b]?):GoodW w:=by
 obtain⟨t0,t1,t2,L⟩:=h.lay
 exact⟨⟨t0,t1,t2,L.move h1 h2 h.size⟩,Nat.le_trans h.size h1,h.len.later h1 h2⟩
theorem GoodW.below {w w':World}(h:GoodW w)(k:Below w.heap.size w w'):GoodW w':=h.later k.size k.block
theorem GoodW.drew {w:World}(h:GoodW w):GoodW w.drew:=h.later (Nat.le_refl _) (fun _ _=>rfl)
theorem GoodW.drewN {w:World}(h:GoodW w)(n:Nat):GoodW (w.drewN n):=h.later (Nat.le_refl _) (fun _ _=>rfl)
end Go.Proofs.YtfnacgojmdbjmaaGreatDoor
namespace Go.Det
abbrev M64:Nat:=18446744073709551616
abbrev zCh:Nat:=340282366920938463463374607431768211456
def qn (h l:Int):Nat:=h.toNat * M64+l.toNat
def inU (n:Int):Bool:=decide (0≤n∧n < 18446744073709551616)
def inQ (h l:Int):Bool:=inU h&&inU l
theorem inU_iff {n:Int}:inU n=true↔0≤n∧n < 18446744073709551616:=by simp[inU]
theorem yHx {h l:Int}:inQ h l=true↔(0≤h∧h < 18446744073709551616)∧(0≤l∧l < 18446744073709551616):=by
 simp[inQ,inU_iff]
theorem yEa {n:Nat}(h:n < zCh):inQ ((n / M64:Nat):Int) ((n % M64:Nat):Int)=true:=by
 rw[yHx]
 unfold M64 zCh at *
 omega
theorem yHy (n:Nat):qn ((n / M64:Nat):Int) ((n % M64:Nat):Int)=n:=by
 unfold qn
 rw[Int.toNat_natCast,Int.toNat_natCast]
 exact Nat.div_add_mod' n M64
theorem yEb {a b:Nat}(h:a < M64)(k:b < M64):a ||| b < M64:=Nat.or_lt_two_pow (n:=64) h k
theorem zEk {n:Int}(h:0≤n)(k:n < 18446744073709551616):(BitVec.ofInt 64 n).toNat=n.toNat:=by
 rw[BitVec.toNat_ofInt]
 omega
theorem wrap_u64 {n:Nat}(h:n < M64):IntKind.u64.wrap (n:Int)=(n:Int):=by
 unfold M64 at h
 unfold IntKind.wrap
 simp[IntKind.signed,IntKind.bits]
 omega
theorem yEc {a b:Int}(ha:inU a=true)(hb:inU b=true):zB2 .u64 a b=((a.toNat &&& b.toNat:Nat):Int):=by
 rw[inU_iff] at ha hb
 unfold zB2
 show IntKind.u64.wrap ((BitVec.ofInt 64 a &&& BitVec.ofInt 64 b).toNat:Int)=_
 rw[BitVec.toNat_and,zEk ha.1 ha.2,zEk hb.1 hb.2]
 exact wrap_u64 (Nat.lt_of_le_of_lt Nat.and_le_left (by unfold M64;omega))
theorem yHz {a b:Int}(ha:inU a=true)(hb:inU b=true):orI .u64 a b=((a.toNat ||| b.toNat:Nat):Int):=by
 rw[inU_iff] at ha hb
 unfold orI
 show IntKind.u64.wrap ((BitVec.ofInt 64 a ||| BitVec.ofInt 64 b).toNat:Int)=_
 rw[BitVec.toNat_or,zEk ha.1 ha.2,zEk hb.1 hb.2]
 exact wrap_u64 (yEb (by unfold M64;omega) (by unfold M64;omega))
theorem notI_u64 {a:Int}(ha:inU a=true):IntKind.u64.wrap ((BitVec.ofInt 64 18446744073709551615 ^^^ BitVec.ofInt 64 a).toNat:Int)=18446744073709551615 - a:=by
 rw[inU_iff] at ha
 have e:BitVec.ofInt 64 18446744073709551615=BitVec.allOnes 64:=by decide
 rw[e,BitVec.allOnes_xor,BitVec.toNat_not,zEk ha.1 ha.2]
 rw[wrap_u64 (by unfold M64;omega)]
 omega
def zFk (n:Int)(hi:Nat):Nat:=min n.toNat hi
def zJo (n:Nat):Nat:=M64 - 2 ^ (64 - n)
def zB9 (n:Nat):Nat:=zCh - 2 ^ (128 - n)
def zXk (a b:Nat):Nat:=if a+b < zCh then a+b else 0
end Go.Det
section
section
namespace Go.Proofs.YtfnacgojmdbjmaaGreatDoorW.PrintWords
open Go.RowKit
structure Aside0 (p:Prop):Prop where mk::(out:p)
structure Drawn0 (w w':World):Prop where mk::(out:∃ n,w'=w.drewN n)
theorem Drawn0.refl (w:World):Drawn0 w w:=⟨⟨0,rfl⟩⟩
theorem Drawn0.step {w w':World}(h:Drawn0 w w')(n:Nat):Drawn0 w (w'.drewN n):=by
 obtain⟨m,rfl⟩:=h
 exact⟨⟨m+n,World.drewN_drewN ..⟩⟩
theorem Drawn0.below {w w':World}(h:Drawn0 w w'):Below w.heap.size w w':=by
 obtain⟨n,rfl⟩:=h
 induction n with
 |zero=>exact Below.refl _ _
 |succ n ih=>rw[← World.drew_drewN];exact ih.drew
def rd (xs:List Int)(i:Int):Int:=xs.getD i.toNat 0
theorem zAb {w W:World}(h:Below w.heap.size w W)(o:Obj):Below w.heap.size w (W.alloc o):=h.alloc h.size o
theorem zN9 {B:Nat}{w W:World}(h:Below B w W):Below B w W.drew:=⟨h.os,h.tape,h.output,h.size,h.block⟩
theorem zAa {B:Nat}{w W:World}(h:Below B w W)(n:Nat):Below B w (W.drewN n):=⟨h.os,h.tape,h.output,h.size,h.block⟩
theorem zXl {B:Nat}{w w1 w2:World}(h:Below B w w1)(hB:B≤w1.heap.size)(k:Below w1.heap.size w1 w2):Below B w w2:=
 h.trans ⟨k.os,k.tape,k.output,k.size,fun i hi=>k.block i (Nat.lt_of_lt_of_le hi hB)⟩
theorem zPt {w w1:World}(h:Below w.heap.size w w1){a:Addr}{v:Value}(hc:w.cell? a=some v):w1.cell? a=some v:=(h.cell (World.block_lt_of_cell? w a hc)).trans hc
def ReadsInt (w:World)(k:IntKind)(A:Option Addr)(n:Nat)(xs:List Int):Prop:=
 xs.length=n∧n≤9223372036854775807∧(0 < n→∃ ad,A=some ad∧∀ j,j < n→w.cell? (ad.add j)=some (.int k (xs.getD j 0)))
theorem ReadsInt.at_ {w:World}{k:IntKind}{A:Option Addr}{n:Nat}{xs:List Int}(h:ReadsInt w k A n xs)(i:Int)(h0:0≤i)(h1:i < n):∃ ad,A=some ad∧w.cell? (ad.add i.toNat)=some (.int k (rd xs i)):=by
 obtain⟨ad,e,hc⟩:=h.2.2 (by omega)
 exact⟨ad,e,hc _ (by omega)⟩
theorem yH0 (W : World) (base : Nat) (e : TypeId) (size : Nat) : W.ownsRow base e size (.slice none 0 0) 0 [] := ⟨by simp, .inl ⟨rfl, rfl⟩⟩
theorem zKs {w:World}{base:Nat}{e:TypeId}{size n:Nat}{v:Value}{xs:List Value}(h:w.ownsRow base e size v n xs)(k:Nat)(hk:v.ownBlock=some k):base≤k:=by
 rcases h.2 with⟨rfl,_⟩|⟨g,cap,cur,rfl,hb,_⟩
 ·simp[Value.ownBlock] at hk
 ·have:g=k:=by simpa [Value.ownBlock] using hk
  omega
theorem yGh {w:World}{base:Nat}{e:TypeId}{size n:Nat}{v:Value}{xs:List Value}(h:w.ownsRow base e size v n xs)(k:Nat)(hk:v.ownBlock=some k):k < w.heap.size:=by
 rcases h.2 with⟨rfl,_⟩|⟨g,cap,cur,rfl,hb,hh,_⟩
 ·simp[Value.ownBlock] at hk
 ·have:g=k:=by simpa [Value.ownBlock] using hk
  subst this
  exact(Array.getElem?_eq_some_iff.1 hh).1
section
variable {P:Program} {ops:Array Oper} {rest:List Oper} {o:Oper} {a:Act} {Q:Exit→Act→World→Prop}
end
section
variable {P:Program}
end
section
variable {P:Program} {ops:Array Oper} {rest:List Oper} {o:Oper} {a:Act} {Q:Exit→Act→World→Prop}
end
def LeO {α:Type}(a b:Option α):Prop:=∀ r,a=some r→b=some r
theorem LeO.refl {α:Type}(a:Option α):LeO a a:=fun _ h=>h
theorem LeO.ite {α:Type}{c:Prop}[Decidable c]{a a' b b':Option α}(h:LeO a a')(k:LeO b b'):LeO (if c then a else b) (if c then a' else b'):=by
 split
 ·exact h
 ·exact k
theorem LeO.bind {α β:Type} {a a':Option α} {f f':α→Option β} (h:LeO a a') (k:∀ x,LeO (f x) (f' x)):LeO (a.bind f) (a'.bind f'):=by
  intro r hr
  obtain⟨x,hx,hf⟩:=Option.bind_eq_some_iff.1 hr
  exact Option.bind_eq_some_iff.2 ⟨x,h x hx,k x r hf⟩
def Reps {α:Type}(R:α→List Value→Prop)(size:Nat)(ps:List α)(cs:List Value):Prop:=
 cs.length=ps.length * size∧∀ j p,ps[j]?=some p→R p ((cs.drop (j * size)).take size)
theorem Reps.none {α:Type}(R:α→List Value→Prop)(size:Nat):Reps R size [] []:=⟨by simp,fun j p h=>by simp at h⟩
theorem Reps.snoc {α:Type}{R:α→List Value→Prop}{size:Nat}{ps:List α}{cs c:List Value}{p:α}(h:Reps R size ps cs)(hp:R p c)(hc:c.length=size):Reps R size (ps++[p]) (cs++c):=by
 refine⟨by rw[List.length_append,h.1,hc,List.length_append,List.length_singleton,Nat.add_mul,Nat.one_mul],fun j q hq=>?_⟩
 rcases Nat.lt_or_ge j ps.length with hj|hj
 ·rw[List.getElem?_append_left hj] at hq
  have h1:j * size+size≤cs.length:=by rw[h.1,← Nat.succ_mul];exact Nat.mul_le_mul_right _ hj
  have h2:=h.2 j q hq
  rw[List.drop_append_of_le_length (by omega),List.take_append_of_le_length (by rw[List.length_drop];omega)]
  exact h2
 ·have hj':j=ps.length:=by
   have:=(List.getElem?_eq_some_iff.1 hq).1
   rw[List.length_append,List.length_singleton] at this
   omega
  subst hj'
  have hq':p=q:=by simpa using hq
  subst hq'
  rw[← h.1,List.drop_left,← hc,List.take_length]
  exact hp
theorem Reps.imp_ {α:Type}{R R':α→List Value→Prop}{size:Nat}{ps:List α}{cs:List Value}(h:Reps R size ps cs)(hR:∀ p c,R p c→R' p c):Reps R' size ps cs:=⟨h.1,fun j p hj=>hR _ _ (h.2 j p hj)⟩
def ReadsRow {α:Type}(R:α→List Value→Prop)(size:Nat)(w:World)(A:Option Addr)(n:Nat)(ps:List α):Prop:=
 ps.length=n∧n≤9223372036854775807∧(0 < n→∃ ad,A=some ad∧∀ j p,ps[j]?=some p→∃ c,c.length=size∧R p c∧∀ i u,c[i]?=some u→w.cell? (ad.add (j * size+i))=some u)
theorem ReadsRow.imp_ {α:Type}{R R':α→List Value→Prop}{size:Nat}{w w1:World}{A:Option Addr}{n:Nat}{ps:List α}(h:ReadsRow R size w A n ps)(hb:Below w.heap.size w w1)(hR:∀ p c,R p c→R' p c):ReadsRow R' size w1 A n ps:=
 ⟨h.1,h.2.1,fun hn=>by
  obtain⟨ad,e,hc⟩:=h.2.2 hn
  refine⟨ad,e,fun j p hj=>?_⟩
  obtain⟨c,hs,hr,hcell⟩:=hc j p hj
  exact⟨c,hs,hR _ _ hr,fun i u hu=>zPt hb (hcell i u hu)⟩⟩
theorem zPu {α:Type}{R:α→List Value→Prop}{w:World}{base n size:Nat}{e:TypeId}{v:Value}{ps:List α}{cs:List Value}(h:w.ownsRow base e size v n cs)(hR:Reps R size ps cs)(hn:ps.length=n):
  ∃ A c,v=.slice A n c∧ReadsRow R size w A n ps:=by
 rcases Nat.eq_zero_or_pos n with h0|h0
 ·rcases h.2 with⟨rfl,rfl⟩|⟨g,cap,cur,rfl,_⟩
  ·exact⟨none,0,rfl,hn,by omega,fun hp=>absurd hp (by omega)⟩
  ·exact⟨_,cap,rfl,hn,by omega,fun hp=>absurd hp (by omega)⟩
 ·obtain⟨g,cap,rfl,_,_⟩:=h.form h0
  have hm:n≤9223372036854775807:=by
   rcases h.2 with⟨_,h1⟩|⟨g',cap',cur,he,_,_,h1,h2,_⟩
   ·omega
   ·simp only[maxLen] at h2
    omega
  refine⟨_,cap,rfl,hn,hm,fun _=>⟨_,rfl,fun j p hj=>⟨(cs.drop (j * size)).take size,?_,hR.2 j p hj,fun i u hu=>?_⟩⟩⟩
  ·have hjl:=(List.getElem?_eq_some_iff.1 hj).1
   have h1:j * size+size≤cs.length:=by rw[hR.1,← Nat.succ_mul];exact Nat.mul_le_mul_right _ hjl
   rw[List.length_take,List.length_drop]
   omega
  ·refine h.cells (g:=g) rfl _ u ?_
   rw[List.getElem?_take] at hu
   split at hu
   ·rw[List.getElem?_drop] at hu
    exact hu
   ·cases hu
section
variable {P:Program} {ops:Array Oper} {rest:List Oper} {o:Oper} {a:Act} {Q:Exit→Act→World→Prop}
theorem zIx {w0 W:World}(base:Nat)(hgd:o.guard=none)(s x:Operand)(t e:TypeId)(z:Value)(size bytes:Nat)
  (ho:o.op=.call { callee:=.builtin .append,args:=#[s,x],argTypes:=#[t,t] })
  (ht:P.underlying t=some (.slice e)) (hinfo:(P.info? e).map (fun i=>(i.zero,i.size,i.bytes))=some (some z,size,bytes)) (hz:z.cells.size=size) (hs0:0 < size) (hb0:0 < bytes)
  (v:Value) (n:Nat) (xs ys:List Value) (hs:a.eval s=v) (hx:a.eval x=.slice (some ⟨W.heap.size,0,none⟩) 1 1) (hys:ys.length=size) (h1:∀ u∈ys,u.oneCell'=true)
  (HO:W.ownsRow base e size v n xs) (HB:Below base w0 W) (hbase:base≤W.heap.size) (hl:(n+1) * bytes≤140737488355328)
  (h:∀ v1 w1,w1.ownsRow base e size v1 (n+1) (xs++ys)→Below base w0 w1→W.grownBy w1 v.ownBlock→(v1.ownBlock=v.ownBlock∨∃ b,v1.ownBlock=some b∧W.heap.size≤b)→wpList P ops Q rest (a.put o.dst v1) w1):
  wpList P ops Q (o::rest) a (W.alloc (.cells ys.toArray e)):=by
 obtain⟨i0,hi,hzz⟩:=Option.map_eq_some_iff.1 hinfo
 simp only[Prod.mk.injEq] at hzz
 obtain⟨hz0,hz1,hz2⟩:=hzz
 have hlen:n+1≤140737488355328:=Nat.le_trans (Nat.le_mul_of_pos_right _ hb0) hl
 refine wpList_append_own_at (W.alloc (.cells ys.toArray e)) hgd s x t ho base e i0 z size bytes ht hi hz0 hz1 hz2 hz hs0 v n xs hs (HO.alloc _) ⟨W.heap.size,0,none⟩ 1 1 ys hx (by rw[hys];simp)
  (by simpa using World.news_of_block (cs:=ys.toArray) (t:=e) (fr:=(0,0)) (heap_alloc_new W (.cells ys.toArray e))) h1 (by simp only[maxLen];omega) hl (by simp;omega) ?_
 intro v1 w1 hown hg _ hat
 refine h v1 w1 hown ((HB.alloc hbase _).grown hg (by simp;omega) (zKs HO)) (World.grownBy.trans (World.grownBy_alloc W _ _) hg) ?_
 rcases hat with hat|hat
 ·exact .inl hat
 ·exact .inr ⟨_,hat,by simp⟩
end
theorem yH1 {w:World}{g:Nat}{t:TypeId}{cs:Array Value}(h:w.heap[g]?=some (.cells cs t (0,0)))(i:Nat)(u:Value):(w.setCell ⟨g,i,none⟩ u).heap[g]?=some (.cells (cs.setIfInBounds i u) t (0,0)):=by
 simp[World.setCell,Array.getElem?_modify,h]
theorem zG0 {w:World}{g:Nat}{t:TypeId}{cs:Array Value}(h:w.heap[g]?=some (.cells cs t (0,0))){p:Addr}(hp:g≠p.block)(u:Value):(w.setCell p u).heap[g]?=some (.cells cs t (0,0)):=(Below.heap_setCell w p u g hp).trans h
theorem zOa {w:World}{g:Nat}{o:Obj}(h:w.heap[g]?=some o):g < w.heap.size:=(Array.getElem?_eq_some_iff.1 h).1
theorem zAq {w:World}{g:Nat}{t:TypeId}{cs:Array Value}(h:w.heap[g]?=some (.cells cs t (0,0)))(i:Nat):w.cell? ⟨g,i,none⟩=cs[i]?:=cell_of_row w g i cs t (0,0) h
theorem zAj {w:World}{g:Nat}{t:TypeId}{cs:Array Value}(h:w.heap[g]?=some (.cells cs t (0,0)))(i:Nat):w.frozen? ⟨g,i,none⟩=false:=by simp[World.frozen?,h]
def KeepBut (w w':World)(g:Nat)(row:Option Nat):Prop:=w.heap.size≤w'.heap.size∧∀ i,i < w.heap.size→i≠g→some i≠row→w'.heap[i]?=w.heap[i]?
theorem KeepBut.trans {w w1 w2:World}{g:Nat}{row row1:Option Nat}(h:KeepBut w w1 g row)(k:KeepBut w1 w2 g row1)(hr:row1=row∨∃ b,row1=some b∧w.heap.size≤b):KeepBut w w2 g row:=
 ⟨Nat.le_trans h.1 k.1,fun i hi hg hn=>by
  refine(k.2 i (Nat.lt_of_lt_of_le hi h.1) hg ?_).trans (h.2 i hi hg hn)
  rcases hr with rfl|⟨b,rfl,hb⟩
  ·exact hn
  ·intro e
   injection e with e
   omega⟩
section
variable {P:Program} {ops:Array Oper} {o:Oper} {a:Act} {Q:Exit→Act→World→Prop} {K:Act→World→Prop}
end
theorem zXm {w:World}{base base':Nat}{e:TypeId}{size n:Nat}{v:Value}{xs:List Value}(h:w.ownsRow base e size v n xs)(hb:base'≤base):w.ownsRow base' e size v n xs:=by
 obtain⟨h1,h2⟩:=h
 refine⟨h1,?_⟩
 rcases h2 with h2|⟨g,cap,cur,rfl,hg,r⟩
 ·exact .inl h2
 ·exact .inr ⟨g,cap,cur,rfl,Nat.le_trans hb hg,r⟩
section
variable {α:Type} {enc:α→Value} {d:α}
def zB5 (d:α)(xs:List α)(i:Int):α:=xs.getD i.toNat d
def ReadsOf (enc:α→Value)(d:α)(w:World)(A:Option Addr)(n:Nat)(xs:List α):Prop:=
 xs.length=n∧n≤9223372036854775807∧(0 < n→∃ ad,A=some ad∧∀ j,j < n→w.cell? (ad.add j)=some (enc (xs.getD j d)))
theorem ReadsOf.at_ {w:World}{A:Option Addr}{n:Nat}{xs:List α}(h:ReadsOf enc d w A n xs)(i:Int)(h0:0≤i)(h1:i < n):∃ ad,A=some ad∧w.cell? (ad.add i.toNat)=some (enc (zB5 d xs i)):=by
 obtain⟨ad,e,hc⟩:=h.2.2 (by omega)
 exact⟨ad,e,hc _ (by omega)⟩
end
section
variable {α:Type} {P:Program} {ops:Array Oper} {rest:List Oper} {o:Oper} {a:Act} {Q:Exit→Act→World→Prop}
end
theorem zAe {w:World}{g:Nat}{o:Obj}(h:w.heap[g]?=some o)(o':Obj):(w.alloc o').heap[g]?=some o:=(Below.heap_alloc w o' g (zOa h)).trans h
theorem zAk {w:World}{g:Nat}{o:Obj}(h:w.heap[g]?=some o):w.drew.heap[g]?=some o:=h
theorem zAf {w:World}{g:Nat}{o:Obj}(h:w.heap[g]?=some o)(n:Nat):(w.drewN n).heap[g]?=some o:=h
theorem zBr {w w1:World}{g:Nat}{o:Obj}(h:w.heap[g]?=some o)(hb:Below w.heap.size w w1):w1.heap[g]?=some o:=(hb.block g (zOa h)).trans h
theorem yH2 (w:World)(o:Obj):(w.alloc o).heap[w.heap.size]?=some o:=heap_alloc_new w o
section
variable {P:Program}
end
theorem yNp {w:World}{base n m c size:Nat}{e:TypeId}{A:Option Addr}{xs:List Value}(h:w.ownsRow base e size (.slice A m c) n xs):m≤c:=by
 rcases h.2 with⟨he,_⟩|⟨g,cap,cur,he,_,_,hnc,_⟩
 ·injection he with _ h2 h3
  omega
 ·injection he with _ h2 h3
  omega
def OwnRow {α:Type}(R:α→List Value→Prop)(e:TypeId)(size:Nat)(w:World)(base:Nat)(v:Value)(ps:List α):Prop:=
 ∃ inner,w.ownsRow base e size v ps.length inner∧Reps R size ps inner
section
variable {α:Type} {R R':α→List Value→Prop} {e:TypeId} {size:Nat} {w w1:World} {base:Nat} {v:Value} {ps:List α}
theorem OwnRow.none_ (R:α→List Value→Prop)(e:TypeId)(size:Nat)(w:World)(base:Nat):OwnRow R e size w base (.slice none 0 0) []:=⟨[],yH0 _ _ _ _,Reps.none _ _⟩
theorem OwnRow.imp_ (h:OwnRow R e size w base v ps)(hR:∀ p c,R p c→R' p c):OwnRow R' e size w base v ps:=by
 obtain⟨inner,ho,hr⟩:=h
 exact⟨inner,ho,hr.imp_ hR⟩
theorem OwnRow.reads (h:OwnRow R e size w base v ps):∃ A c,v=.slice A ps.length c∧ps.length≤c∧ReadsRow R size w A ps.length ps:=by
 obtain⟨inner,ho,hr⟩:=h
 obtain⟨A,c,rfl,hrow⟩:=zPu ho hr rfl
 exact⟨A,c,rfl,yNp ho,hrow⟩
theorem OwnRow.lit (W:World)(base:Nat){inner:List Value}(hr:Reps R size ps inner)(hb:base≤W.heap.size)(hm:ps.length≤9223372036854775807):
  OwnRow R e size (W.alloc (.cells inner.toArray e)) base (.slice (some ⟨W.heap.size,0,none⟩) ps.length ps.length) ps:=by
 have h:=World.ownsRow_lit (base:=base) (e:=e) (size:=size) W inner.toArray ps.length hb (by simpa [maxLen] using hm) (by simpa using hr.1)
 exact⟨inner,by simpa using h,hr⟩
end
section
variable {P:Program} {ops:Array Oper} {rest:List Oper} {o:Oper} {a:Act} {Q:Exit→Act→World→Prop} {α:Type} {R:α→List Value→Prop}
end
section
variable {P:Program} {ops:Array Oper} {o:Oper} {a:Act} {Q:Exit→Act→World→Prop} {K:Act→World→Prop} {α:Type} {R:α→List Value→Prop}
end
section
variable {α:Type} {P:Program}
end
section
variable {P:Program} {ops:Array Oper} {rest:List Oper} {o:Oper} {a:Act} {Q:Exit→Act→World→Prop}
end
structure Kd (α:Type) where
 sz:Nat
 E:List Nat
 K:World→α→List Value→Prop
 M:World→Nat→(Nat→Prop)→α→List Value→Prop
 K_len:∀ {w x cs},K w x cs→cs.length=sz
 K_one:∀ {w x cs},K w x cs→∀ u∈cs,u.oneCell'=true
 K_below:∀ {w w1:World} {x cs},Below w.heap.size w w1→K w x cs→K w1 x cs
 K_of_M:∀ {w base ok x cs},M w base ok x cs→K w x cs
 M_mono:∀ {w base ok ok' x cs},(∀ k,ok k→ok' k)→M w base ok x cs→M w base ok' x cs
 M_bound:∀ {w:World} {base ok x cs},M w base ok x cs→M w base (fun k=>ok k∧base≤k∧k < w.heap.size∧∃ q,q∈E∧∃ cells,w.heap[k]?=some (.cells cells q (0,0))) x cs
 M_move:∀ {w w1:World} {base ok x cs},(∀ k,ok k→w1.heap[k]?=w.heap[k]?)→M w base ok x cs→M w1 base ok x cs
 M_lower:∀ {w base base' ok x cs},base'≤base→M w base ok x cs→M w base' ok x cs
theorem yEd {w w1:World}{base:Nat}{e:TypeId}{size n:Nat}{v:Value}{xs:List Value}(h:w.ownsRow base e size v n xs)(hm:∀ k,v.ownBlock=some k→w1.heap[k]?=w.heap[k]?):w1.ownsRow base e size v n xs:=by
 obtain⟨h1,h2⟩:=h
 refine⟨h1,?_⟩
 rcases h2 with h2|⟨g,cap,cur,rfl,hg,hh,r⟩
 ·exact .inl h2
 ·exact .inr ⟨g,cap,cur,rfl,hg,(hm g (by simp[Value.ownBlock])).trans hh,r⟩
theorem zR3 {w:World}{base:Nat}{e:TypeId}{size n:Nat}{v:Value}{xs:List Value}(h:w.ownsRow base e size v n xs)(k:Nat)(hk:v.ownBlock=some k):∃ cells,w.heap[k]?=some (.cells cells e (0,0)):=by
 rcases h.2 with⟨rfl,_⟩|⟨g,cap,cur,rfl,hg,hh,r⟩
 ·simp[Value.ownBlock] at hk
 ·have:g=k:=by simpa [Value.ownBlock] using hk
  subst this
  exact⟨cur,hh⟩
namespace Kd
def C {α:Type}(d:Kd α)(w:World)(A:Option Addr)(n:Nat)(xs:List α):Prop:=ReadsRow (d.K w) d.sz w A n xs
def R {α:Type}(d:Kd α)(e:Nat)(w:World)(base:Nat)(ok:Nat→Prop)(v:Value)(xs:List α):Prop:=
 (∀ k,v.ownBlock=some k→ok k)∧OwnRow (d.M w base (fun k=>ok k∧some k≠v.ownBlock)) e d.sz w base v xs
section
variable {α:Type} {d:Kd α} {e:Nat} {w w1:World} {base:Nat} {ok ok':Nat→Prop} {v:Value} {xs:List α}
theorem zPv {A:Option Addr}{n:Nat}(h:d.C w A n xs)(hb:Below w.heap.size w w1):d.C w1 A n xs:=ReadsRow.imp_ h hb (fun _ _ hp=>d.K_below hb hp)
theorem R_nil (d:Kd α)(e:Nat)(w:World)(base:Nat)(ok:Nat→Prop):d.R e w base ok (.slice none 0 0) []:=⟨fun k hk=>by simp[Value.ownBlock] at hk,OwnRow.none_ _ _ _ _ _⟩
theorem R_mono (h:d.R e w base ok v xs)(hok:∀ k,ok k→ok' k):d.R e w base ok' v xs:=⟨fun k hk=>hok k (h.1 k hk),h.2.imp_ (fun _ _ hp=>d.M_mono (fun k hk=>⟨hok k hk.1,hk.2⟩) hp)⟩
theorem zJp (h:d.R e w base ok v xs):d.R e w base (fun k=>ok k∧base≤k∧k < w.heap.size∧∃ q,q∈e::d.E∧∃ cells,w.heap[k]?=some (.cells cells q (0,0))) v xs:=by
 obtain⟨h0,inner,ho,hr⟩:=h
 refine⟨fun k hk=>?_,inner,ho,hr.imp_ (fun _ _ hp=>d.M_mono (fun k hk=>?_) (d.M_bound hp))⟩
 ·obtain⟨cells,hc⟩:=zR3 ho k hk
  exact⟨h0 k hk,zKs ho k hk,yGh ho k hk,e,List.mem_cons_self,cells,hc⟩
 ·obtain⟨⟨h1,h2⟩,h3,h4,q,hq,hc⟩:=hk
  exact⟨⟨h1,h3,h4,q,List.mem_cons_of_mem _ hq,hc⟩,h2⟩
theorem zR4 (h:d.R e w base ok v xs)(hm:∀ k,ok k→w1.heap[k]?=w.heap[k]?):d.R e w1 base ok v xs:=by
 obtain⟨h0,inner,ho,hr⟩:=h
 exact⟨h0,inner,yEd ho (fun k hk=>hm k (h0 k hk)),hr.imp_ (fun _ _ hp=>d.M_move (fun k hk=>hm k hk.1) hp)⟩
theorem R_lower {base':Nat}(h:d.R e w base ok v xs)(hb:base'≤base):d.R e w base' ok v xs:=by
 obtain⟨h0,inner,ho,hr⟩:=h
 exact⟨h0,inner,zXm ho hb,hr.imp_ (fun _ _ hp=>d.M_lower hb hp)⟩
theorem yNq (h:d.R e w base ok v xs)(hm:∀ k,ok k→k < w.heap.size→w1.heap[k]?=w.heap[k]?):d.R e w1 base ok v xs:=
 R_mono (zR4 (zJp h) (fun k hk=>hm k hk.1 hk.2.2.1)) (fun _ hk=>hk.1)
theorem yGi {x:α}{cs:List Value}(h:d.M w base ok x cs)(hm:∀ k,ok k→k < w.heap.size→w1.heap[k]?=w.heap[k]?):d.M w1 base ok x cs:=
 d.M_mono (fun _ hk=>hk.1) (d.M_move (fun k hk=>hm k hk.1 hk.2.2.1) (d.M_bound h))
theorem R_below (h:d.R e w base ok v xs)(hb:Below w.heap.size w w1):d.R e w1 base ok v xs:=yNq h (fun k _ hk=>hb.block k hk)
theorem zTx (h:d.R e w base ok v xs):∃ A c,v=.slice A xs.length c∧xs.length≤c∧d.C w A xs.length xs:=by
 obtain⟨A,c,he,hl,hr⟩:=OwnRow.reads h.2
 exact⟨A,c,he,hl,hr.imp_ (Below.refl _ _) (fun _ _ hp=>d.K_of_M hp)⟩
theorem R_slice (h:d.R e w base ok v xs):∃ A c,v=.slice A xs.length c:=by
 obtain⟨A,c,he,_⟩:=zTx h
 exact⟨A,c,he⟩
theorem yH3 (h:d.R e w base ok v xs):∃ inner,w.ownsRow base e d.sz v xs.length inner:=by
 obtain⟨_,inner,ho,_⟩:=h
 exact⟨inner,ho⟩
end
def scalar {α:Type}(enc:α→Value)(h1:∀ x,(enc x).oneCell'=true):Kd α where
 sz:=1
 E:=[]
 K:=fun _ x cs=>cs=[enc x]
 M:=fun _ _ _ x cs=>cs=[enc x]
 K_len:=fun h=>by rw[h];rfl
 K_one:=fun h u hu=>by
  rw[h] at hu
  rw[List.mem_singleton.1 hu]
  exact h1 _
 K_below:=fun _ h=>h
 K_of_M:=fun h=>h
 M_mono:=fun _ h=>h
 M_bound:=fun h=>h
 M_move:=fun _ h=>h
 M_lower:=fun _ h=>h
def int (k:IntKind):Kd Int:=scalar (Value.int k) (fun _=>rfl)
def bool:Kd Bool:=scalar Value.bool (fun _=>rfl)
def string:Kd ByteArray:=scalar Value.string (fun _=>rfl)
def slice {α:Type}(e:Nat)(d:Kd α):Kd (List α) where
 sz:=1
 E:=e::d.E
 K:=fun w xs cs=>∃ A c,cs=[.slice A xs.length c]∧xs.length≤c∧d.C w A xs.length xs
 M:=fun w base ok xs cs=>∃ v,cs=[v]∧d.R e w base ok v xs
 K_len:=by
  rintro w x cs ⟨A,c,rfl,_⟩
  rfl
 K_one:=by
  rintro w x cs ⟨A,c,rfl,_⟩ u hu
  rw[List.mem_singleton.1 hu]
  rfl
 K_below:=by
  rintro w w1 x cs hb ⟨A,c,rfl,hl,hr⟩
  exact⟨A,c,rfl,hl,zPv hr hb⟩
 K_of_M:=by
  rintro w base ok x cs ⟨v,rfl,h⟩
  obtain⟨A,c,rfl,hl,hr⟩:=zTx h
  exact⟨A,c,rfl,hl,hr⟩
 M_mono:=by
  rintro w base ok ok' x cs hok ⟨v,rfl,h⟩
  exact⟨v,rfl,R_mono h hok⟩
 M_bound:=by
  rintro w base ok x cs ⟨v,rfl,h⟩
  exact⟨v,rfl,zJp h⟩
 M_move:=by
  rintro w w1 base ok x cs hm ⟨v,rfl,h⟩
  exact⟨v,rfl,zR4 h hm⟩
 M_lower:=by
  rintro w base base' ok x cs hb ⟨v,rfl,h⟩
  exact⟨v,rfl,R_lower h hb⟩
def bot {α:Type}(sz:Nat)(E:List Nat):Kd α where
 sz:=sz
 E:=E
 K:=fun _ _ _=>False
 M:=fun _ _ _ _ _=>False
 K_len:=fun h=>h.elim
 K_one:=fun h=>h.elim
 K_below:=fun _ h=>h
 K_of_M:=fun h=>h
 M_mono:=fun _ h=>h
 M_bound:=fun h=>h
 M_move:=fun _ h=>h
 M_lower:=fun _ h=>h
def yEe {α:Type}(F:Kd α→Kd α)(sz:Nat)(E:List Nat):Nat→Kd α
 |0=>bot sz E
 |n+1=>F (yEe F sz E n)
theorem zXn {α:Type}{d:Kd α}{e base:Nat}{ok okp:Nat→Prop}{W w1:World}{v v1:Value}{xs:List α}{p:α}{inner cs:List Value}(h0:∀ k,v.ownBlock=some k→ok k)(hr:Reps (d.M W base (fun k=>ok k∧some k≠v.ownBlock)) d.sz xs inner)(hp:d.M W base okp p cs)(hokp:∀ k,okp k→ok k∧some k≠v.ownBlock)(hfresh:∀ k,W.heap.size≤k→ok k)
  (hown:w1.ownsRow base e d.sz v1 (xs.length+1) (inner++cs)) (hg:W.grownBy w1 v.ownBlock) (hat:v1.ownBlock=v.ownBlock∨∃ b,v1.ownBlock=some b∧W.heap.size≤b):d.R e w1 base ok v1 (xs++[p]):=by
 have hne:∀ k,some k≠v.ownBlock→k < W.heap.size→some k≠v1.ownBlock:=by
  intro k hk hlt
  rcases hat with hat|⟨b,hb,hle⟩
  ·rw[hat];exact hk
  ·rw[hb]
   intro he
   injection he with he
   omega
 have step:∀ {q:α} {c:List Value} {o:Nat→Prop},d.M W base o q c→(∀ k,o k→ok k∧some k≠v.ownBlock)→d.M w1 base (fun k=>ok k∧some k≠v1.ownBlock) q c:=by
  intro q c o hq ho
  have h1:=d.M_move (w1:=w1) (fun k hk=>hg.block k hk.2.2.1 (ho k hk.1).2) (d.M_bound hq)
  exact d.M_mono (fun k hk=>⟨(ho k hk.1).1,hne k (ho k hk.1).2 hk.2.2.1⟩) h1
 refine⟨fun k hk=>?_,inner++cs,by rw[List.length_append,List.length_singleton];exact hown,?_⟩
 ·rcases hat with hat|⟨b,hb,hle⟩
  ·exact h0 k (hat ▸ hk)
  ·rw[hb] at hk
   injection hk with hk
   exact hfresh k (by omega)
 ·exact(hr.imp_ (fun _ _ hq=>step hq (fun _ hk=>hk))).snoc (step hp hokp) (d.K_len (d.K_of_M hp))
section
variable {P:Program} {ops:Array Oper} {rest:List Oper} {o:Oper} {a:Act} {Q:Exit→Act→World→Prop} {α:Type}
theorem R_append (d:Kd α){w0 W:World}(base:Nat)(hgd:o.guard=none)(s x:Operand)(t e:TypeId)(z:Value)(bytes:Nat)
  (ho:o.op=.call { callee:=.builtin .append,args:=#[s,x],argTypes:=#[t,t] })
  (ht:P.underlying t=some (.slice e)) (hinfo:(P.info? e).map (fun i=>(i.zero,i.size,i.bytes))=some (some z,d.sz,bytes)) (hz:z.cells.size=d.sz) (hs0:0 < d.sz) (hb0:0 < bytes)
  (v:Value) (xs:List α) (p:α) (cs:List Value) (ok okp:Nat→Prop) (hs:a.eval s=v) (hx:a.eval x=.slice (some ⟨W.heap.size,0,none⟩) 1 1) (hp:d.M W base okp p cs) (hokp:∀ k,okp k→ok k∧some k≠v.ownBlock) (hfresh:∀ k,W.heap.size≤k→ok k)
  (HO:d.R e W base ok v xs) (HB:Below base w0 W) (hbase:base≤W.heap.size) (hl:(xs.length+1) * bytes≤140737488355328)
  (h:∀ v1 w1,d.R e w1 base ok v1 (xs++[p])→Below base w0 w1→W.grownBy w1 v.ownBlock→(v1.ownBlock=v.ownBlock∨∃ b,v1.ownBlock=some b∧W.heap.size≤b)→wpList P ops Q rest (a.put o.dst v1) w1):
  wpList P ops Q (o::rest) a (W.alloc (.cells cs.toArray e)):=by
 obtain⟨h0,inner,hown,hr⟩:=HO
 refine zIx base hgd s x t e z d.sz bytes ho ht hinfo hz hs0 hb0 v xs.length inner cs hs hx (d.K_len (d.K_of_M hp)) (d.K_one (d.K_of_M hp)) hown HB hbase hl ?_
 intro v1 w1 hown1 hb1 hg1 hat1
 exact h v1 w1 (zXn h0 hr hp hokp hfresh hown1 hg1 hat1) hb1 hg1 hat1
end
section
variable {P:Program} {ops:Array Oper} {o:Oper} {a:Act} {Q:Exit→Act→World→Prop} {Kc:Act→World→Prop} {α:Type}
end
end Kd
namespace Kd
section
variable {α:Type} {F:Kd α→Kd α} {sz:Nat} {E:List Nat} {hs:∀ n,(yEe F sz E n).sz=sz} {hE:∀ n q,q∈(yEe F sz E n).E→q∈E}
end
end Kd
namespace Kd
end Kd
namespace Kd
section
variable {α β:Type} {d:Kd α} {d':Kd β} {e e':Nat} {w w1 W:World} {base b b':Nat} {ok ok' okv oku:Nat→Prop} {v u:Value} {xs:List α} {ys:List β}
theorem R_alloc (h:d.R e w base ok v xs)(o:Obj):d.R e (w.alloc o) base ok v xs:=R_below h (zAb (Below.refl _ _) o)
theorem R_drew (h:d.R e w base ok v xs):d.R e w.drew base ok v xs:=R_below h (zN9 (Below.refl _ _))
theorem R_drewN (h:d.R e w base ok v xs)(m:Nat):d.R e (w.drewN m) base ok v xs:=R_below h (zAa (Below.refl _ _) m)
theorem yQd (d:Kd α)(w:World):d.C w none ([]:List α).length []:=⟨rfl,by simp,fun h=>absurd h (Nat.lt_irrefl 0)⟩
theorem R_reads' {A:Option Addr}{n c:Nat}(h:d.R e w base ok (.slice A n c) xs):n=xs.length∧n≤c∧d.C w A xs.length xs:=by
 obtain⟨A',c',he,hl,hr⟩:=zTx h
 injection he with h1 h2 h3
 subst h1
 exact⟨h2,by omega,hr⟩
theorem R_lt (h:d.R e w base ok v xs):∀ k,v.ownBlock=some k→k < w.heap.size:=by
 obtain⟨inner,ho⟩:=yH3 h
 exact yGh ho
theorem R_base (h:d.R e w base ok v xs):∀ k,v.ownBlock=some k→base≤k:=by
 obtain⟨inner,ho⟩:=yH3 h
 exact zKs ho
end
section
variable {w W:World} {A:Option Addr} {n:Nat}
variable {α:Type} {enc:α→Value} {h1:∀ x,(enc x).oneCell'=true} {e base g cap:Nat} {ok:Nat→Prop} {xs:List α}
end
section
variable {P:Program} {ops:Array Oper} {rest:List Oper} {o:Oper} {a:Act} {Q:Exit→Act→World→Prop}
theorem event_run {W w1:World}{v:Value}(hgd:o.guard=none)(hrun:(execOp a.eval o).run P W=.ok (.value v) w1)(h:wpList P ops Q rest (a.put o.dst v) w1):wpList P ops Q (o::rest) a W:=by
 refine wpList_plain hgd fun K hK=>?_
 unfold Oper.wp
 rw[hrun]
 exact hK _ _ h
variable {α:Type}
end
end Kd
section
variable {P:Program}
end
def ySp (w:World) (base:Nat) (e:TypeId) (size:Nat) (v:Value) (n:Nat) (xs:List Value):Prop:=
  xs.length=n * size∧
  ((n=0∧∃ A,v=.slice A 0 0∧∀ a,A=some a→base≤a.block∧∃ cur,w.heap[a.block]?=some (.cells cur e (0,0)))∨
   ∃ g off cap cur,v=.slice (some ⟨g,off * size,none⟩) n cap∧base≤g∧w.heap[g]?=some (.cells cur e (0,0))∧n≤cap∧off+cap≤maxLen∧cur.size=(off+cap) * size∧(cur.toList.drop (off * size)).take (n * size)=xs)
section
variable {w w1:World} {base n size:Nat} {e:TypeId} {v:Value} {xs:List Value}
theorem yEf (h:w.ownsRow base e size v n xs):ySp w base e size v n xs:=by
 obtain⟨h1,h2⟩:=h
 refine⟨h1,?_⟩
 rcases h2 with⟨rfl,h0⟩|⟨g,cap,cur,rfl,hb,hh,hnc,hcm,hcs,ht⟩
 ·exact .inl ⟨h0,none,rfl,fun a ha=>by cases ha⟩
 ·exact .inr ⟨g,0,cap,cur,by rw[Nat.zero_mul],hb,hh,hnc,by rw[Nat.zero_add];exact hcm,by rw[Nat.zero_add];exact hcs,by rw[Nat.zero_mul,List.drop_zero];exact ht⟩
end
section
variable {P:Program}
end
namespace Kd
def Q {α:Type}(d:Kd α)(e:Nat)(w:World)(base:Nat)(ok:Nat→Prop)(v:Value)(xs:List α):Prop:=
 (∀ k,v.ownBlock=some k→ok k)∧∃ inner,ySp w base e d.sz v xs.length inner∧Reps (d.M w base (fun k=>ok k∧some k≠v.ownBlock)) d.sz xs inner
section
variable {α:Type} {d:Kd α} {e:Nat} {w w1 W:World} {base:Nat} {ok ok':Nat→Prop} {v:Value} {xs:List α}
theorem ySq (h:d.R e w base ok v xs):d.Q e w base ok v xs:=by
 obtain⟨h0,inner,ho,hr⟩:=h
 exact⟨h0,inner,yEf ho,hr⟩
end
section
variable {P:Program} {ops:Array Oper} {rest:List Oper} {o:Oper} {a:Act} {Q':Exit→Act→World→Prop} {Kc:Act→World→Prop} {α:Type}
end
end Kd
namespace Kd
section
variable {α:Type} {d:Kd α} {e e':Nat} {w w1 W:World} {base:Nat} {ok:Nat→Prop} {u v:Value} {xs:List α}
theorem R_elder' (hu:d.R e W base ok u xs)(hbase:∀ k,v.ownBlock=some k→W.heap.size≤k)(hb:Below W.heap.size W w1):d.R e w1 base (fun k=>ok k∧some k≠v.ownBlock) u xs:=
 R_mono (zR4 (zJp hu) (fun k hk=>hb.block k hk.2.2.1)) (fun k hk=>⟨hk.1,fun he=>by have:=hbase k he.symm;have:=hk.2.2.1;omega⟩)
theorem R_new' (h:d.R e w1 W.heap.size ok v xs)(hlt:∀ k,u.ownBlock=some k→k < W.heap.size):d.R e w1 W.heap.size (fun k=>ok k∧some k≠u.ownBlock) v xs:=
 R_mono (zJp h) (fun k hk=>⟨hk.1,fun he=>by have:=hlt k he.symm;have:=hk.2.1;omega⟩)
end
end Kd
namespace Kd
section
variable {α:Type} {d:Kd α} {e base g n cap:Nat} {ok okp:Nat→Prop} {W:World} {xs:List α}
end
end Kd
namespace Kd
def yQe {α:Type}(d:Kd α)(w0:World):Kd α where
 sz:=d.sz
 E:=[]
 K:=fun _ x cs=>d.K w0 x cs
 M:=fun _ _ _ x cs=>d.K w0 x cs
 K_len:=d.K_len
 K_one:=d.K_one
 K_below:=fun _ h=>h
 K_of_M:=fun h=>h
 M_mono:=fun _ h=>h
 M_bound:=fun h=>h
 M_move:=fun _ h=>h
 M_lower:=fun _ h=>h
def or_ {α:Type}(a b:Kd α)(h:b.sz=a.sz):Kd α where
 sz:=a.sz
 E:=a.E++b.E
 K:=fun w x cs=>a.K w x cs∨b.K w x cs
 M:=fun w base ok x cs=>a.M w base ok x cs∨b.M w base ok x cs
 K_len:=fun hk=>hk.elim a.K_len (fun hk=>(b.K_len hk).trans h)
 K_one:=fun hk=>hk.elim a.K_one b.K_one
 K_below:=fun hb hk=>hk.imp (a.K_below hb) (b.K_below hb)
 K_of_M:=fun hk=>hk.imp a.K_of_M b.K_of_M
 M_mono:=fun hok hk=>hk.imp (a.M_mono hok) (b.M_mono hok)
 M_bound:=fun hk=>hk.imp
  (fun hk=>a.M_mono (fun _ ⟨h1,h2,h3,q,hq,hc⟩=>⟨h1,h2,h3,q,List.mem_append_left _ hq,hc⟩) (a.M_bound hk))
  (fun hk=>b.M_mono (fun _ ⟨h1,h2,h3,q,hq,hc⟩=>⟨h1,h2,h3,q,List.mem_append_right _ hq,hc⟩) (b.M_bound hk))
 M_move:=fun hm hk=>hk.imp (a.M_move hm) (b.M_move hm)
 M_lower:=fun hb hk=>hk.imp (a.M_lower hb) (b.M_lower hb)
def mix {α : Type} (e : Nat) (d dm : Kd α) (w0 : World) : Kd (List α) := or_ (yQe (slice e d) w0) (slice e dm) rfl
section
variable {α:Type} {F:Kd α→Kd α} {sz:Nat} {E:List Nat} {hs:∀ n,(yEe F sz E n).sz=sz} {hE:∀ n q,q∈(yEe F sz E n).E→q∈E}
end
end Kd
namespace Kd
section
variable {P:Program} {ops:Array Oper} {rest:List Oper} {o:Oper} {a:Act} {Q:Exit→Act→World→Prop} {α:Type}
end
end Kd
namespace Kd
section
variable {P:Program} {ops:Array Oper} {rest:List Oper} {o:Oper} {a:Act} {Q:Exit→Act→World→Prop} {α:Type}
end
end Kd
namespace Kd
section
variable {α:Type} {k:Kd α} {w:World} {A:Option Addr} {xs:List α} {m c:Nat}
end
end Kd
section
variable {P:Program}
end
theorem zAp {w W:World}(h:Below w.heap.size w W):w.heap.size≤W.heap.size:=h.size
theorem zAi {w W w2:World}(h:Below w.heap.size w W)(k:Below W.heap.size W w2):Below w.heap.size w w2:=zXl h h.size k
theorem zAg {w W:World}{g j:Nat}{v:Value}(h:Below w.heap.size w W)(hg:w.heap.size≤g):Below w.heap.size w (W.setCell ⟨g,j,none⟩ v):=h.setCell hg _
theorem zCy {w:World}{g:Nat}{t:TypeId}{cs cs':Array Value}(h:w.heap[g]?=some (.cells cs t (0,0)))(i:Nat)(u:Value)(e:cs.setIfInBounds i u=cs'):(w.setCell ⟨g,i,none⟩ u).heap[g]?=some (.cells cs' t (0,0)):=e ▸ yH1 h i u
theorem zAc {base:Nat}{w W:World}(h:Below base w W):Below base w W.drew:=h.drew
namespace Kd
section
variable {α β:Type} {d:Kd α} {d':Kd β} {e e' base base' n:Nat} {ok ok':Nat→Prop} {w W w1 W1:World} {v u:Value} {xs:List α} {ys:List β} {A:Option Addr} {c:Nat}
end
section
variable {α:Type} {enc:α→Value} {h1:∀ x,(enc x).oneCell'=true} {w W:World} {A:Option Addr} {n g:Nat} {xs:List α}
end
end Kd
namespace Kd
section
variable {α:Type} {d:Kd α} {e base g:Nat} {ok:Nat→Prop} {w w1:World} {v:Value} {xs:List α} {o:Obj}
end
end Kd
section
variable {P:Program} {ops:Array Oper} {rest:List Oper} {o:Oper} {a:Act} {Q:Exit→Act→World→Prop}
theorem zCr {W:World}(hgd:o.guard=none){N:Tmp}(_hd:o.dst=some N){cs:Array Value}{t:TypeId}
  (hrun:(execOp a.eval o).run P W=.ok (.value (.pointer (some ⟨W.heap.size,0,none⟩))) (W.alloc (.cells cs t (0,0))))
  (h:∀ g,g=W.heap.size→∀ w1,w1.heap[g]?=some (.cells cs t (0,0))→Below W.heap.size W w1→wpList P ops Q rest (a.put o.dst (.pointer (some ⟨g,0,none⟩))) w1):wpList P ops Q (o::rest) a W:=
 Kd.event_run hgd hrun (h _ rfl _ (yH2 W _) (zAb (Below.refl _ _) _))
end
namespace Kd
section
variable {α:Type} {enc:α→Value} {h1:∀ x,(enc x).oneCell'=true} {e base g n cap:Nat} {ok:Nat→Prop} {W:World} {xs:List α}
end
end Kd
section
variable {P:Program} {ops:Array Oper} {rest:List Oper} {o:Oper} {a:Act} {Q:Exit→Act→World→Prop}
end
namespace Kd
section
variable {α:Type} {enc:α→Value} {h1:∀ x,(enc x).oneCell'=true} {e base g n cap:Nat} {ok:Nat→Prop} {W:World} {xs:List α}
end
end Kd
section
variable {P:Program} {ops:Array Oper} {rest:List Oper} {o:Oper} {a:Act} {Q:Exit→Act→World→Prop} {W:World}
theorem zBv {N:Tmp}(_hN:o.dst=some N)(h:wpList P ops Q (o::rest) a W):wpList P ops Q (o::rest) a W:=h
end
section
variable {P:Program} {ops:Array Oper} {o:Oper} {a:Act} {Q:Exit→Act→World→Prop} {Kc:Act→World→Prop}
namespace Kd
variable {α:Type}
end Kd
end
section
variable {P:Program} {tmps:Array Value} {w:World}
end
namespace Kd
section
variable {P:Program} {α:Type}
end
section
variable {P:Program} {ops:Array Oper} {rest:List Oper} {o:Oper} {a:Act} {Q:Exit→Act→World→Prop} {Kc:Act→World→Prop} {α:Type}
end
end Kd
end Go.Proofs.YtfnacgojmdbjmaaGreatDoorW.PrintWords
end
section
namespace Go.Proofs.YtfnacgojmdbjmaaGreatDoorW.PrintLast
section
variable {P:Program} {ops:Array Oper} {Q:Exit→Act→World→Prop} {md:Region.Mode} {S:World→Prop} {ds:List Nat}
end
section
variable {P:Program} {ops:Array Oper} {Q:Exit→Act→World→Prop} {md:Region.Mode} {S:World→Prop} {ds:List Nat}
theorem yH4 {f:FuncId}{fn:Func}(hf:P.funcs[f]?=some fn)(hname:(fn.name== "runtime.NumGoroutine")=false)(hb:fn.body.isSome=true)(args:Array Value)(w:World):(callFunc f args).run P w=.ok (.enter f args) w:=by
 have h1:fn.name≠ "runtime.NumGoroutine":=by simpa using hname
 obtain⟨c,hc⟩:=Option.isSome_iff_exists.1 hb
 simp[callFunc,hf,h1,hc]
theorem zCa {rest:List Oper}{oi:Oper}{a:Act}{w:World}(N:Option Tmp)(hd:oi.dst=N)(hg:oi.guard=none){f:FuncId}{fn:Func}{aso:Array Operand}{ts:Array TypeId}(hf:P.funcs[f]?=some fn)(hname:(fn.name== "runtime.NumGoroutine")=false)(hb:fn.body.isSome=true)(args:Array Value)
  (hop:oi.op=.call { callee:=.value (.func f),args:=aso,argTypes:=ts }) (hargs:aso.map a.eval=args)
  (h:Calls P f args w fun e w'=>∃ v,e=.returned v∧wpList P ops Q rest (a.put N v) w'):wpList P ops Q (oi::rest) a w:=by
 refine wpList_plain hg fun K hK=>?_
 have he:=yH4 hf hname hb args w
 have hrun:(execOp a.eval oi).run P w=.ok (.enter f args) w:=by
  unfold execOp
  simp[hop,resolve,Deferred.ofValue,invoke,Act.eval,hargs,he]
 unfold Oper.wp
 rw[hrun,Oper.upon_enter]
 refine h.mono fun e w'' hh=>?_
 obtain⟨v,rfl,hk⟩:=hh
 subst hd
 exact hK _ _ hk
theorem zG1 (n:Int):IntKind.i64.wrap n=Go.RowKit.wrap64 n:=by unfold Go.RowKit.wrap64;exact IntKind.wrap_i64 n
theorem zIy (n:Int):IntKind.i32.wrap n=Go.RowKit.wrap32 n:=by unfold Go.RowKit.wrap32;exact IntKind.wrap_i32 n
end
end Go.Proofs.YtfnacgojmdbjmaaGreatDoorW.PrintLast
end
section
namespace Go.Proofs.YtfnacgojmdbjmaaGreatDoorW.PrintWords
open Go.RowKit
namespace Kd
section
variable {α:Type} {d:Kd α} {e base g o n cap:Nat} {ok okp:Nat→Prop} {w W:World} {v:Value} {xs:List α}
end
section
variable {α:Type} {enc:α→Value} {h1:∀ x,(enc x).oneCell'=true} {e base g o n cap:Nat} {ok:Nat→Prop} {W:World} {xs:List α}
end
end Kd
end Go.Proofs.YtfnacgojmdbjmaaGreatDoorW.PrintWords
end
section
namespace Go.Proofs.YtfnacgojmdbjmaaGreatDoorW.PrintWords
open Go.RowKit
namespace Kd
def raw (sz:Nat):Kd (List Value) where
 sz:=sz
 E:=[]
 K:=fun _ x cs=>cs=x∧cs.length=sz∧∀ u∈cs,u.oneCell'=true
 M:=fun _ _ _ x cs=>cs=x∧cs.length=sz∧∀ u∈cs,u.oneCell'=true
 K_len:=fun h=>h.2.1
 K_one:=fun h=>h.2.2
 K_below:=fun _ h=>h
 K_of_M:=fun h=>h
 M_mono:=fun _ h=>h
 M_bound:=fun h=>h
 M_move:=fun _ h=>h
 M_lower:=fun _ h=>h
section
variable {α β:Type} {d:Kd α} {d':Kd β} {e e':Nat} {w w1 W:World} {base b:Nat} {ok ok' okv oku:Nat→Prop} {u v:Value} {xs:List α} {ys:List β}
end
section
variable {α β:Type} {d:Kd α} {d':Kd β} {e e' g:Nat} {w w1 W:World} {base b:Nat} {ok ok' okv oku:Nat→Prop} {u v:Value} {xs:List α} {ys:List β}
end
section
open Classical in
variable {P:Program} {ops:Array Oper} {rest:List Oper} {o:Oper} {a:Act} {Q:Exit→Act→World→Prop} {Kc:Act→World→Prop} {α:Type}
end
def gap {α:Type}(f:Nat→Nat)(d:Kd α)(i:Nat)(c:List Value):Kd (α×Nat) where
 sz:=d.sz
 E:=d.E
 K:=fun w x cs=>(x.2=i→cs=c∧cs.length=d.sz∧∀ u∈cs,u.oneCell'=true)∧(x.2≠i→d.K w x.1 cs)
 M:=fun w base ok x cs=>(x.2=i→cs=c∧cs.length=d.sz∧∀ u∈cs,u.oneCell'=true)∧(x.2≠i→d.M w base (fun k=>ok k∧f k=x.2) x.1 cs)
 K_len:=fun {w x cs} h=>by
  by_cases hx:x.2=i
  ·exact(h.1 hx).2.1
  ·exact d.K_len (h.2 hx)
 K_one:=fun {w x cs} h=>by
  by_cases hx:x.2=i
  ·exact(h.1 hx).2.2
  ·exact d.K_one (h.2 hx)
 K_below:=fun hb h=>⟨h.1,fun hx=>d.K_below hb (h.2 hx)⟩
 K_of_M:=fun h=>⟨h.1,fun hx=>d.K_of_M (h.2 hx)⟩
 M_mono:=fun hok h=>⟨h.1,fun hx=>d.M_mono (fun k hk=>⟨hok k hk.1,hk.2⟩) (h.2 hx)⟩
 M_bound:=fun h=>⟨h.1,fun hx=>d.M_mono (fun _ hk=>⟨⟨hk.1.1,hk.2⟩,hk.1.2⟩) (d.M_bound (h.2 hx))⟩
 M_move:=fun hm h=>⟨h.1,fun hx=>d.M_move (fun k hk=>hm k hk.1) (h.2 hx)⟩
 M_lower:=fun hb h=>⟨h.1,fun hx=>d.M_lower hb (h.2 hx)⟩
def H {α : Type} (d : Kd α) (e : Nat) (w : World) (base : Nat) (ok : Nat → Prop) (v : Value) (xs : List α) (i : Int) (oki : Nat → Prop) (c : List Value) : Prop :=
  (∀ k, oki k → ok k) ∧ ∃ f, (gap f d i.toNat c).R e w base (fun k => ok k ∧ ¬ oki k) v xs.zipIdx
section
variable {α β:Type} {d:Kd α} {e e' g n cap:Nat} {w w1 W:World} {base:Nat} {ok ok' oki okp:Nat→Prop} {u v:Value} {xs:List α} {i:Int} {c:List Value}
open Classical in
end
section
variable {P:Program} {ops:Array Oper} {rest:List Oper} {o:Oper} {a:Act} {Q:Exit→Act→World→Prop} {α:Type}
end
end Kd
end Go.Proofs.YtfnacgojmdbjmaaGreatDoorW.PrintWords
end
section
namespace Go.Proofs.YtfnacgojmdbjmaaGreatDoorW.PrintWords
open Go.RowKit
namespace Kd
theorem yPk {α:Type}{R:α→List Value→Prop}{size:Nat}{ps:List α}{cs:List Value}(h:Reps R size ps cs)(hs0:0 < size)(hR:∀ p c,R p c→∀ u∈c,u.oneCell'=true):∀ u∈cs,u.oneCell'=true:=by
 intro u hu
 obtain⟨q,hq,rfl⟩:=List.mem_iff_getElem.1 hu
 have hql:q / size < ps.length:=by
  rw[Nat.div_lt_iff_lt_mul hs0,← h.1]
  exact hq
 refine hR _ _ (h.2 (q / size) _ (List.getElem?_eq_getElem hql)) _ ?_
 rw[List.mem_iff_getElem?]
 refine⟨q % size,?_⟩
 rw[List.getElem?_take,if_pos (Nat.mod_lt _ hs0),List.getElem?_drop,Nat.mul_comm,Nat.div_add_mod,List.getElem?_eq_getElem hq]
section
variable {α:Type} {n:Nat} {d:Kd α} {hs:0 < d.sz} {w:World} {base:Nat} {ok:Nat→Prop} {xs:List α} {cs:List Value}
end
section
variable {α:Type} {n:Nat} {enc:α→Value} {h1:∀ x,(enc x).oneCell'=true} {hs:0 < (scalar enc h1).sz} {w:World} {base:Nat} {ok:Nat→Prop} {xs:List α} {cs:List Value}
end
end Kd
end Go.Proofs.YtfnacgojmdbjmaaGreatDoorW.PrintWords
end
section
namespace Go.Proofs.YtfnacgojmdbjmaaGreatDoorW.PrintWords
open Go.RowKit
section
variable {P:Program}
end
namespace Kd
section
variable {P:Program} {ops:Array Oper} {rest:List Oper} {o:Oper} {a:Act} {Q:Exit→Act→World→Prop} {Kc:Act→World→Prop} {α:Type}
end
section
variable {α:Type} {d:Kd α} {e:Nat} {w:World} {base:Nat} {ok:Nat→Prop} {v:Value} {xs:List α}
end
section
variable {P:Program} {ops:Array Oper} {rest:List Oper} {o:Oper} {a:Act} {Q:Exit→Act→World→Prop} {Kc:Act→World→Prop} {α:Type}
end
end Kd
end Go.Proofs.YtfnacgojmdbjmaaGreatDoorW.PrintWords
end
section
namespace Go.Proofs.YtfnacgojmdbjmaaGreatDoorW.PrintWords
open Go.RowKit
namespace Kd
structure Heap {α:Type} (d:Kd α):Prop where
 K:∀ {w w1:World} {x:α} {cs:List Value},(∀ k,k < w.heap.size→w1.heap[k]?=w.heap[k]?)→d.K w x cs→d.K w1 x cs
section
variable {α:Type} {d:Kd α} {e base g n c:Nat} {ok:Nat→Prop} {w w0 W:World} {A:Option Addr} {xs:List α}
end
end Kd
end Go.Proofs.YtfnacgojmdbjmaaGreatDoorW.PrintWords
end
section
namespace Go.Proofs.YtfnacgojmdbjmaaGreatDoorW.PrintWords
open Go.RowKit
def yQf (w W:World)(S:Nat→Prop):Prop:=w.heap.size≤W.heap.size∧∀ i,i < w.heap.size→¬ S i→W.heap[i]?=w.heap[i]?
section
variable {w W W2:World} {S S2 S':Nat→Prop}
end
namespace Kd
section
variable {α:Type} {d:Kd α} {e base n c:Nat} {ok oki S S2:Nat→Prop} {w w0 W W1 W2:World} {v:Value} {A:Option Addr} {xs:List α} {i:Int} {cs:List Value}
end
end Kd
end Go.Proofs.YtfnacgojmdbjmaaGreatDoorW.PrintWords
end
section
namespace Go.Proofs.YtfnacgojmdbjmaaGreatDoorW.PrintWords
open Go.RowKit
def zDv (P:World→Prop)(W:World)(ok:Nat→Prop):Prop:=∀ W':World,(∀ k,ok k→k < W.heap.size→W'.heap[k]?=W.heap[k]?)→P W'
theorem yH5 {W W1:World}{k:Nat}(h:W1.heap[k]?=W.heap[k]?)(hlt:k < W.heap.size):k < W1.heap.size:=by
 rw[Array.getElem?_eq_getElem hlt] at h
 exact(Array.getElem?_eq_some_iff.1 h).1
namespace zDv
variable {P Q:World→Prop} {W W1:World} {ok ok':Nat→Prop}
theorem mono (h:zDv P W ok)(hok:∀ k,ok k→ok' k):zDv P W ok':=fun W' hW=>h W' (fun k hk hlt=>hW k (hok k hk) hlt)
theorem bound (h:zDv P W ok):zDv P W (fun k=>ok k∧k < W.heap.size):=fun W' hW=>h W' (fun k hk hlt=>hW k ⟨hk,hlt⟩ hlt)
theorem step (h:zDv P W ok)(hm:∀ k,ok k→k < W.heap.size→W1.heap[k]?=W.heap[k]?):zDv P W1 ok:=fun W' hW=>h W' (fun k hk hlt=>(hW k hk (yH5 (hm k hk hlt) hlt)).trans (hm k hk hlt))
theorem old (h:zDv P W ok)(hb:Below W.heap.size W W1):zDv P W1 (fun k=>ok k∧k < W.heap.size):=(h.bound).step (fun k _ hlt=>hb.block k hlt)
end zDv
namespace Kd
def F {α:Type}(d:Kd α)(W:World)(ok:Nat→Prop)(A:Option Addr)(n:Nat)(xs:List α):Prop:=zDv (fun W=>d.C W A n xs) W ok
def FK {α:Type}(d:Kd α)(W:World)(ok:Nat→Prop)(x:α)(c:List Value):Prop:=zDv (fun W=>d.K W x c) W ok
section
variable {α β:Type} {d:Kd α} {e base n n' cc g N:Nat} {ok ok' okp S:Nat→Prop} {w w0 w1 W W1:World} {A A':Option Addr} {u v v1:Value} {xs:List α} {xs':List β} {d':Kd β} {x:α} {c:List Value}
theorem yTq (d:Kd α)(W:World)(ok:Nat→Prop):F d W ok none ([]:List α).length []:=fun W' _=>yQd d W'
theorem yH6 (h:d.M W base ok x c):FK d W ok x c:=fun _ hW=>d.K_of_M (yGi h hW)
end
end Kd
end Go.Proofs.YtfnacgojmdbjmaaGreatDoorW.PrintWords
end
section
namespace Go.Proofs.YtfnacgojmdbjmaaGreatDoorW.PrintWords
open Go.RowKit
namespace Kd
def zMg (sz:Nat)(n:Nat)(inner:List Value):List (List Value):=(List.range n).map fun j=>(inner.drop (j * sz)).take sz
theorem zDg (sz n:Nat)(inner:List Value):(zMg sz n inner).length=n:=by simp[zMg]
theorem zZ1 {sz n:Nat}{inner:List Value}{j:Nat}(hj:j < n):(zMg sz n inner)[j]?=some ((inner.drop (j * sz)).take sz):=by simp[zMg,hj]
theorem zOb {sz n:Nat}{inner:List Value}{j:Nat}{c:List Value}(h:(zMg sz n inner)[j]?=some c):c=(inner.drop (j * sz)).take sz:=by
 have hj:j < n:=by have:=(List.getElem?_eq_some_iff.1 h).1;rwa [zDg] at this
 rw[zZ1 hj] at h
 injection h with h
 exact h.symm
theorem yEg {α:Type}{Rr:α→List Value→Prop}{sz:Nat}{xs:List α}{inner:List Value}(h:Reps Rr sz xs inner)(hR:∀ x c,Rr x c→c.length=sz∧∀ u∈c,u.oneCell'=true):Reps (fun x cs=>cs=x∧cs.length=sz∧∀ u∈cs,u.oneCell'=true) sz (zMg sz xs.length inner) inner:=by
 refine⟨by rw[zDg];exact h.1,fun j p hj=>?_⟩
 have hjl:j < xs.length:=by have:=(List.getElem?_eq_some_iff.1 hj).1;rwa [zDg] at this
 have hp:=zOb hj
 exact⟨hp.symm,hR _ _ (h.2 j _ (List.getElem?_eq_getElem hjl))⟩
section
variable {α:Type} {d:Kd α} {e base n cc g:Nat} {ok ok' okp S:Nat→Prop} {w w1 W W1:World} {A:Option Addr} {u v v1:Value} {xs:List α} {x:α} {c:List Value}
def N {α:Type}(d:Kd α)(e:Nat)(w:World)(base:Nat)(ok:Nat→Prop)(v:Value)(xs:List α):Prop:=
 (∀ k,v.ownBlock=some k→ok k)∧∃ rows:List (List Value),rows.length=xs.length∧(raw d.sz).R e w base (fun k=>some k=v.ownBlock) v rows∧∀ (j:Nat) (x:α) (c:List Value),xs[j]?=some x→rows[j]?=some c→FK d w (fun k=>ok k∧some k≠v.ownBlock) x c
theorem R_N (h:d.R e w base ok v xs):N d e w base ok v xs:=by
 obtain⟨h0,inner,ho,hr⟩:=h
 refine⟨h0,zMg d.sz xs.length inner,zDg _ _ _,⟨fun k hk=>hk.symm,inner,by rw[zDg];exact ho,yEg hr (fun x c hp=>⟨d.K_len (d.K_of_M hp),d.K_one (d.K_of_M hp)⟩)⟩,fun j x c hx hc=>?_⟩
 rw[zOb hc]
 exact yH6 (hr.2 j x hx)
theorem N_nil (d : Kd α) (e : Nat) (w : World) (base : Nat) (ok : Nat → Prop) : N d e w base ok (.slice none 0 0) [] := R_N (R_nil _ _ _ _ _)
end
end Kd
end Go.Proofs.YtfnacgojmdbjmaaGreatDoorW.PrintWords
end
section
namespace Go.Proofs.YtfnacgojmdbjmaaGreatDoorW.PrintWords
open Go.RowKit
namespace Kd
section
variable {α:Type} {d:Kd α} {e base n cap g:Nat} {ok ok' okp:Nat→Prop} {w w1 W:World} {v v1:Value} {xs ys:List α}
end
section
variable {P:Program} {ops:Array Oper} {rest:List Oper} {o:Oper} {a:Act} {Q:Exit→Act→World→Prop} {Kc:Act→World→Prop} {α:Type}
end
end Kd
end Go.Proofs.YtfnacgojmdbjmaaGreatDoorW.PrintWords
end
section
namespace Go.Proofs.YtfnacgojmdbjmaaGreatDoorW.PrintMore
open Go.RowKit YtfnacgojmdbjmaaGreatDoorW.PrintWords
namespace Kd
open YtfnacgojmdbjmaaGreatDoorW.PrintWords.Kd
end Kd
namespace Kd
open YtfnacgojmdbjmaaGreatDoorW.PrintWords.Kd
section
variable {α:Type} {d:Kd α} {e base g N:Nat} {ok:Nat→Prop} {W w1:World} {u v:Value} {xs:List α}
end
end Kd
theorem zEz (k k':IntKind)(x y:Int):Builtin.max2 (.int k x) (.int k' y)=pure (.int k (if x < y then y else x)):=by simp only[Builtin.max2,gt_iff_lt]
theorem zE0 (k k':IntKind)(x y:Int):Builtin.min2 (.int k x) (.int k' y)=pure (.int k (if y < x then y else x)):=by simp only[Builtin.min2]
theorem zG2 (ats:Array TypeId)(ty:TypeId)(a b:Value):Builtin.max_ ats ty #[a,b]=(Builtin.max2 a b >>= fun s=>pure s):=by simp only[Builtin.max_,List.foldlM_cons,List.foldlM_nil]
theorem zG3 (ats:Array TypeId)(ty:TypeId)(a b:Value):Builtin.min_ ats ty #[a,b]=(Builtin.min2 a b >>= fun s=>pure s):=by simp only[Builtin.min_,List.foldlM_cons,List.foldlM_nil]
theorem zDy (ats:Array TypeId)(ty:TypeId)(a b c:Value):Builtin.max_ ats ty #[a,b,c]=(Builtin.max2 a b >>= fun s=>Builtin.max2 s c >>= fun s=>pure s):=by simp only[Builtin.max_,List.foldlM_cons,List.foldlM_nil]
theorem zDz (ats:Array TypeId)(ty:TypeId)(a b c:Value):Builtin.min_ ats ty #[a,b,c]=(Builtin.min2 a b >>= fun s=>Builtin.min2 s c >>= fun s=>pure s):=by simp only[Builtin.min_,List.foldlM_cons,List.foldlM_nil]
theorem zE1 (ats:Array TypeId)(ty:TypeId)(a b c d:Value):Builtin.max_ ats ty #[a,b,c,d]=(Builtin.max2 a b >>= fun s=>Builtin.max2 s c >>= fun s=>Builtin.max2 s d >>= fun s=>pure s):=by simp only[Builtin.max_,List.foldlM_cons,List.foldlM_nil]
theorem zE2 (ats:Array TypeId)(ty:TypeId)(a b c d:Value):Builtin.min_ ats ty #[a,b,c,d]=(Builtin.min2 a b >>= fun s=>Builtin.min2 s c >>= fun s=>Builtin.min2 s d >>= fun s=>pure s):=by simp only[Builtin.min_,List.foldlM_cons,List.foldlM_nil]
end Go.Proofs.YtfnacgojmdbjmaaGreatDoorW.PrintMore
namespace Go.Proofs.YtfnacgojmdbjmaaGreatDoorW.PrintWords
open Go.RowKit
section
variable {P:Program} {ops:Array Oper} {rest:List Oper} {o:Oper} {a:Act} {Q:Exit→Act→World→Prop} {W:World}
theorem zAu {f:FuncId}{aso:Array Operand}{ts:Array TypeId}(_ho:o.op=.call { callee:=.value (.func f),args:=aso,argTypes:=ts })(h:wpList P ops Q (o::rest) a W):wpList P ops Q (o::rest) a W:=h
theorem zCs {b:Builtin}{xs:Array Operand}{ts:Array TypeId}(_ho:o.op=.call { callee:=.builtin b,args:=xs,argTypes:=ts })(h:wpList P ops Q (o::rest) a W):wpList P ops Q (o::rest) a W:=h
end
def mx (a b:Int):Int:=if a < b then b else a
def mn (a b:Int):Int:=if b < a then b else a
def shl (k:IntKind)(x y:Int):Int:=k.wrap (x * 2 ^ min y.toNat k.bits)
def shr (k:IntKind)(x y:Int):Int:=x / 2 ^ min y.toNat k.bits
theorem zIz {k:IntKind}{x y j:Int}(h:shl k x y=j)(hy:y≤k.bits):k.wrap (x * 2 ^ y.toNat)=j:=by rw[← h];unfold shl;rw[Nat.min_eq_left (by omega)]
theorem zI0 {k:IntKind}{x y j:Int}(h:shr k x y=j)(hy:y≤k.bits):x / 2 ^ y.toNat=j:=by rw[← h];unfold shr;rw[Nat.min_eq_left (by omega)]
namespace Kd
section
variable {α:Type} {d:Kd α} {e base:Nat} {ok:Nat→Prop} {W w1:World} {v:Value} {xs:List α}
end
section
variable {α:Type} {d:Kd α} {e base g n cap:Nat} {ok oki okp:Nat→Prop} {W:World} {xs:List α} {i:Int} {c:List Value}
end
section
variable {α:Type} {d:Kd α} {e base b b' g N:Nat} {ok ok1:Nat→Prop} {W W2 w1:World} {u v:Value} {xs ys:List α} {S:Nat→Prop}
end
end Kd
end Go.Proofs.YtfnacgojmdbjmaaGreatDoorW.PrintWords
namespace Go.Proofs.YtfnacgojmdbjmaaGreatDoorW.PrintWords
open Go.RowKit
namespace Kd
def V {α:Type}(d:Kd α)(_e:Nat)(W:World)(_base:Nat)(ok:Nat→Prop)(v:Value)(xs:List α):Prop:=∃ A c,v=.slice A xs.length c∧xs.length≤c∧F d W ok A xs.length xs
section
variable {α β:Type} {d:Kd α} {e base base' n m c g N' lo hi:Nat} {ok ok' S:Nat→Prop} {w W w1:World} {A:Option Addr} {ad:Addr} {u v v1:Value} {xs:List α}
end
end Kd
end Go.Proofs.YtfnacgojmdbjmaaGreatDoorW.PrintWords
end
end
namespace Go.Proofs.YtfnacgojmdbjmaaGreatDoor
open Go.Det Go.RowKit YtfnacgojmdbjmaaGreatDoorW.PrintWords
def zAd (f:Func):Code:=match f.body with|some c=>c|none=>.skip
theorem zBb (k:IntKind)(a b:Int):zB2 k a b=Go.bits .and k a b:=rfl
theorem zBs (k:IntKind)(a b:Int):orI k a b=Go.bits .or k a b:=rfl
theorem zCc (x:Int):IntKind.wrap IntKind.i64 x=wrap64 x:=by rw[IntKind.wrap_i64,wrap64]
theorem zA5 {f:FuncId}{fn:Func}{c:Code}{F:List Value→Option Value}{W:World}(hW:GoodW W)(hf:Tryz.prog.funcs[f]?=some fn)(hb:fn.body=some c)(hn:(fn.name== "runtime.NumGoroutine")=false)
  (h:∀ args v,F args=some v→zCp args=true∧flat v=true∧∀ w,GoodW w→Calls Tryz.prog f ⟨args⟩ w fun e w'=>e=.returned v∧Below w.heap.size w w'):zAr Tryz.prog W 6 f (zDb F):=by
 refine⟨zF2 F,fun W1 k1 args s v s' e φ w args' H _ hA _ _=>?_⟩
 unfold zDb at e
 split at e
 case h_2=>cases e
 rename_i r hr
 cases e
 obtain⟨h1,h2,h3⟩:=h args v hr
 rw[zCf h1 hA,zBj hf hb hn]
 have kw:Later W w:=k1.trans H.later
 refine(h3 w (hW.later kw.size kw.old)).mono ?_
 rintro e W' ⟨rfl,hB⟩
 exact⟨v,φ,rfl,Ext.refl _ _ _,zCi h2 _,H.keep ⟨hB.os,hB.output,hB.size,hB.block⟩ hB.tape⟩
theorem zE3 {f:FuncId}{fn:Func}{c:Code}{g:Own}{w:World}{args:List Value}{v:Value}(h:zAr Tryz.prog w 6 f g)(hG:GoodW w)(hf:Tryz.prog.funcs[f]?=some fn)(hb:fn.body=some c)(hn:(fn.name== "runtime.NumGoroutine")=false)
  (e:g args (zAo [] 64)=some (v,zAo [] 64)) (h1:zCp args=true) (h2:flat v=true) (h3:v≠und):
  Calls Tryz.prog f ⟨args⟩ w fun e w'=>e=.returned v∧Below w.heap.size w w':=
 zR2 (h.2 w (Later.refl w)) (by decide) hG.size hf hb hn e h1 h2 h3
end Go.Proofs.YtfnacgojmdbjmaaGreatDoor
section
section
namespace Go.Proofs.YtfnacgojmdbjmaaGreatDoorW.PrintLast
open YtfnacgojmdbjmaaGreatDoorW.PrintWords (Aside0)
def yH7 (md:Region.Mode)(o:Oper):List Nat:=(o.after.toList.filter (fun e=>Region.binds md e)).map (fun e=>e.on)
def yH8 (md:Region.Mode)(ops:Array Oper)(i:Nat)(oi:Oper):List Nat:=(List.range ops.size).filter fun j=>!(j==i)&&match ops[j]? with
 |some oj=>!(oj.after.any (fun e=>Region.binds md e&&e.on==i)||oi.apart ops oj)
 |none=>false
def ySr (md:Region.Mode)(ops:Array Oper):Bool×List (List Nat×List Nat):=(Region.noSelect ops,(List.range ops.size).map fun i=>match ops[i]? with
 |some o=>(yH7 md o,yH8 md ops i o)
 |none=>([],[]))
def yGj (T:List (List Nat×List Nat))(i:Nat):Nat→Nat→Bool
 |0,_=>false
 |fuel+1,d=>match T[d]? with
  |some r=>r.1.any fun j=>j==i||yGj T i fuel j
  |none=>false
def lastT (T : List (List Nat × List Nat)) (l : List Bool) (ds : List Nat) (i : Nat) : Bool := ds.all fun d => l.getD d true || yGj T i T.length d
section
variable {md:Region.Mode} {ops:Array Oper} {T:Bool×List (List Nat×List Nat)} {l l' li lj lk:Array Bool} {ds:List Nat} {i j k:Nat}
theorem gd (l:Array Bool)(j:Nat)(b:Bool):l.getD j b=l.toList.getD j b:=by simp[Array.getD_eq_getD_getElem?,List.getD_eq_getElem?_getD]
theorem yH9:(ySr md ops).2.length=ops.size:=by simp[ySr]
end
end Go.Proofs.YtfnacgojmdbjmaaGreatDoorW.PrintLast
end
section
namespace Go.Proofs.YtfnacgojmdbjmaaGreatDoorW.PrintLast
section
variable {P:Program} {ops:Array Oper} {Q:Exit→Act→World→Prop} {md:Region.Mode} {S:World→Prop} {ds:List Nat} {T:Bool×List (List Nat×List Nat)}
end
end Go.Proofs.YtfnacgojmdbjmaaGreatDoorW.PrintLast
end
section
namespace Go.Proofs.YtfnacgojmdbjmaaGreatDoorW.PrintWords
open Go.RowKit
namespace Kd
section
variable {α:Type} {d:Kd α} {W:World} {g n:Nat} {S ok:Nat→Prop} {A:Option Addr} {ad:Addr} {xs:List α}
end
end Kd
end Go.Proofs.YtfnacgojmdbjmaaGreatDoorW.PrintWords
end
section
namespace Go.Proofs.YtfnacgojmdbjmaaGreatDoorW.PrintWords
open Go.RowKit
section
variable {w w' u:World} {m B g:Nat} {o:Obj} {row:Option Nat} {S:Nat→Prop} {a:Addr} {v:Value}
theorem cell_at (hq:w.drewN m=w')(h:w.cell? a=some v):w'.cell? a=some v:=by subst hq;exact h
end
namespace Kd
section
variable {α:Type} {d:Kd α} {e base n m:Nat} {ok:Nat→Prop} {w w':World} {v:Value} {A:Option Addr} {xs:List α}
end
end Kd
end Go.Proofs.YtfnacgojmdbjmaaGreatDoorW.PrintWords
end
section
namespace Go.Proofs.YtfnacgojmdbjmaaGreatDoorW.PrintWords
open Go.RowKit
section
variable {P:Program} {d:Nat} {xs ys:Array Value} {f:Field} {fs:List Field} {a b:Value} {r s:Bool} {w:World}
end
end Go.Proofs.YtfnacgojmdbjmaaGreatDoorW.PrintWords
end
namespace Go.Proofs.YtfnacgojmdbjmaaGreatDoorW.PrintWords
theorem Reps.one {α:Type}{R:α→List Value→Prop}{ps:List α}{cs:List Value}{p:α}{v:Value}(hp:R p [v])(h:Reps R 1 ps cs):Reps R 1 (p::ps) (v::cs):=by
 refine⟨by simp[h.1],fun j q hq=>?_⟩
 cases j with
 |zero=>
  simp only[List.getElem?_cons_zero,Option.some.injEq] at hq
  subst hq
  simpa using hp
 |succ j=>
  simp only[List.getElem?_cons_succ] at hq
  have h1:=h.2 j q hq
  simpa [Nat.mul_one] using h1
end Go.Proofs.YtfnacgojmdbjmaaGreatDoorW.PrintWords
section
namespace Go.Proofs.YtfnacgojmdbjmaaGreatDoorW.PrintLast
section
variable {P:Program} {ops:Array Oper} {Q:Exit→Act→World→Prop} {md:Region.Mode} {T:Bool×List (List Nat×List Nat)} {B:List Nat} {O:List Nat} {b:Nat→Bool} {i j n:Nat}
def Closed (T:List (List Nat×List Nat))(O:List Nat)(b:Nat→Bool):Prop:=∀ d r,T[d]?=some r→O.contains d=true→b d=true→∀ n∈r.1,O.contains n=true→b n=true
end
end Go.Proofs.YtfnacgojmdbjmaaGreatDoorW.PrintLast
end
section
namespace Go.Proofs.YtfnacgojmdbjmaaGreatDoorW.PrintWords
open Go.RowKit
end Go.Proofs.YtfnacgojmdbjmaaGreatDoorW.PrintWords
namespace Go.Proofs.YtfnacgojmdbjmaaGreatDoorW.PrintLast
section
variable {ops:Array Oper} {a:Act} {o og:Oper} {g:Nat} {t:Tmp} {u:Bool}
end
end Go.Proofs.YtfnacgojmdbjmaaGreatDoorW.PrintLast
end
section
namespace Go.Proofs.YtfnacgojmdbjmaaGreatDoorW.PrintWords
open Go.RowKit
section
variable {P:Program} {ops:Array Oper} {rest:List Oper} {o:Oper} {a:Act} {Q:Exit→Act→World→Prop} {W:World}
theorem zCw (hw:Region.wanted o (yielded ops a.tmps)=true)(h:wpList P ops Q ({ o with guard:=none }::rest) a W):wpList P ops Q (o::rest) a W:=by
 have h1:Region.wanted { o with guard:=none } (yielded ops a.tmps)=true:=rfl
 unfold wpList at h ⊢
 rw[if_pos h1] at h
 rw[if_pos hw]
 exact h
end
end Go.Proofs.YtfnacgojmdbjmaaGreatDoorW.PrintWords
end
end
section
namespace Go.Proofs.YtfnacgojmdbjmaaGreatDoor.PRD
open Go.RowKit YtfnacgojmdbjmaaGreatDoorW.PrintWords YtfnacgojmdbjmaaGreatDoorW.PrintLast YtfnacgojmdbjmaaGreatDoorW.PrintMore
attribute [local go_sem] zEz zE0 zG2 zG3 zDy zDz zE1 zE2
open Go.Det (inQ M64 zCh qn zXk zJo zFk)
def errW:Option Int→Value
 |none=>.nilIface
 |some c=>.iface 0 (.int .i64 c)
theorem errW_none:errW none=.nilIface:=rfl
theorem errW_some (c:Int):errW (some c)=.iface 0 (.int .i64 c):=rfl
end Go.Proofs.YtfnacgojmdbjmaaGreatDoor.PRD
end
end

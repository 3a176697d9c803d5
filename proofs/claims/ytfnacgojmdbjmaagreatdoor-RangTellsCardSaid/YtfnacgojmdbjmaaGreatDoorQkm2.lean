/- Texts of a proof, joined: words of the print (those that are named here) and printed functions. -/
import Derived.Test.YtfnacgojmdbjmaaGreatDoorQkm1
import Derived.Laws.Externs
import Derived.Lib.Bytealg
import Derived.Lib.Index
import Derived.Lib.MakeNoZero
import Derived.Test.YtfnacgojmdbjmaaGreatDoorRows
import Derived.Test.YtfnacgojmdbjmaaGreatDoorCards
import Derived.Test.YtfnacgojmdbjmaaGreatDoorTie
import Derived.ChangeSame
import Derived.ProofKit
import Derived.LaidMore
import Derived.OpenShut
import Derived.Stop.Joined
import Derived.HandedShaped
import Derived.Lay
import Derived.Shelf.LaysM
import Derived.Shelf.Strings.Search2
import Derived.Shelf.Strings.Shaped
import Derived.Below
import Derived.Deep.Draws
import Derived.Shelf.Spec.TrailingZeros
set_option linter.unusedSimpArgs false
set_option linter.unusedVariables false
set_option maxRecDepth 100000
noncomputable section
namespace Go.Det
variable {P:Program}
abbrev Own:=List Value→St→Option (Value×St)
def yBh (g:Own):Prop:=∀ args,Tr (g args)
def zGy (P:Program)(w0:World)(G:Nat)(f:FuncId)(g:Own):Prop:=∀ args s v s',g args s=some (v,s')→∀ φ w args',HR φ s.h w0 w→Glob G φ→VRL φ args args'→(∀ id,s.next≤id→id < s'.hi→φ id=none)→Full s'.hi s→
  Gives P w0 φ s.next s' v ((callFunc f ⟨args'⟩).run P w)
def zU3:List (Nat×Own)→zUf
 |[]=>fun _=>none
 |x::t=>fun f=>match Nat.beq x.1 f with|true=>some x.2|false=>zU3 t f
theorem zI7:∀ {l:List (Nat×Own)} {f:FuncId} {g:Own},zU3 l f=some g→(f,g)∈l
 |[],f,g,h=>by cases h
 |x::t,f,g,h=>by
  unfold zU3 at h
  split at h
  ·rename_i hb
   cases h
   rw[← xG3 hb]
   exact xH1
  ·exact xIg _ (zI7 h)
theorem yKu {l:List (Nat×Own)}(h:∀ x∈l,yBh x.2):zMs (zU3 l):=fun _ _ e=>h _ (zI7 e)
theorem yKv {w0:World}{G:Nat}{l:List (Nat×Own)}(h:∀ x∈l,zGy P w0 G x.1 x.2):zMt P w0 G (zU3 l):=fun _ _ e=>h _ (zI7 e)
def zCz (h:List Value→Option Value):Own:=fun args s=>match h args with|some v=>some (v,s)|none=>none
theorem zFb (h:List Value→Option Value):yBh (zCz h):=fun args=>zBe (h args) fun s=>by unfold zCz;cases h args<;>rfl
theorem zQt {w0:World}{G:Nat}{f:FuncId}{h:List Value→Option Value}(k:∀ args v,h args=some v→zCo args=true∧flat v=true∧∀ w,(callFunc f ⟨args⟩).run P w=.ok (.value v) w):zGy P w0 G f (zCz h):=by
 intro args s v s' e φ w args' H _ hA _ _
 unfold zCz at e
 split at e
 ·rename_i r hr
  cases e
  obtain⟨h1,h2,h3⟩:=k args v hr
  rw[zB5 h1 hA,h3 w]
  exact⟨φ,Ext.refl _ _ _,zCp h2 φ,H⟩
 ·cases e
def Entry (P:Program)(f:FuncId)(e:Array Value→Sem Value):Prop:=∀ args w,(callFunc f args).run P w=((e args).run P w).andThen fun v w'=>.ok (.value v) w'
theorem Entry.mk {f:FuncId}{fn:Func}{e:Array Value→Sem Value}(hf:P.funcs[f]?=some fn)(hname:(fn.name== "runtime.NumGoroutine")=false)
  (hb:fn.body.isNone=true) (hn:Extern.findNext fn=none) (he:Extern.find fn=some e):Entry P f e:=fun args w=>run_callFunc_extern hf hname hb hn he args w
def yQz:List Value→Option Value
 |[.int .u64 x,.int .u64 y,.int .u64 c]=>match Nat.ble c.toNat 1 with
  |true=>some (.tuple #[.int .u64 (((x.toNat+y.toNat+c.toNat) % 18446744073709551616:Nat):Int),.int .u64 (((x.toNat+y.toNat+c.toNat) / 18446744073709551616:Nat):Int)])
  |false=>none
 |_=>none
def yX1:List Value→Option Value
 |[.int .u64 x,.int .u64 y,.int .u64 c]=>match Nat.ble c.toNat 1 with
  |true=>some (.tuple #[.int .u64 (((x.toNat+18446744073709551616 - y.toNat - c.toNat) % 18446744073709551616:Nat):Int),
    .int .u64 ((match Nat.ble (y.toNat+c.toNat) x.toNat with|true=>(0:Nat)|false=>1:Nat):Int)])
  |false=>none
 |_=>none
theorem zWv {w0:World}{G:Nat}{f:FuncId}(he:Entry P f add64Entry):zGy P w0 G f (zCz yQz):=by
 refine zQt fun args v h=>?_
 unfold yQz at h
 split at h
 case h_2=>cases h
 rename_i x y c
 split at h
 case h_2=>cases h
 rename_i hc
 have hc:=xHg hc
 cases h
 refine⟨rfl,rfl,fun w=>?_⟩
 rw[he]
 have key:(add64Entry #[.int .u64 x,.int .u64 y,.int .u64 c]).run P w=.ok (Extern.MathBitsCarry.pair ((x.toNat+y.toNat+c.toNat) % Extern.MathBitsCarry.m64) ((x.toNat+y.toNat+c.toNat) / Extern.MathBitsCarry.m64)) w:=by
  match c,hc with
  |.ofNat 0,_=>rfl
  |.ofNat 1,_=>rfl
  |.negSucc _,_=>rfl
 exact congrArg (fun r:Result Value=>Result.andThen r fun v w'=>Result.ok (Next.value v) w') key
def yKw:Own:=fun args s=>match args with|[]=>some (.bool true,s)|_=>none
theorem HR.keep {φ:Ren}{h:Heap}{w0 w w':World}(H:HR φ h w0 w)(k:yU7 w w')(ht:w'.tape=w.tape):HR φ h w0 w':=by
 refine⟨k.os.trans H.os,k.output.trans H.output,ht.trans H.tape,xHf H.size k.size,fun b hb=>(k.old b (xHd hb H.size)).trans (H.old b hb),fun id b sh sz e=>xHd (H.dom _ _ _ _ e) k.size,fun id cs e ro g=>?_,H.inj,fun id es g=>?_,H.oinj⟩
 ·obtain⟨b,sh,sz,c,fz,q⟩:=H.cells _ _ _ _ g
  exact⟨b,sh,sz,c,fz,q.at_,(k.old b (H.dom _ _ _ _ q.at_)).trans q.blk,q.exact_,q.size,q.fit,q.cell,q.mine⟩
 ·obtain⟨b,sh,sz,O,q⟩:=H.obs _ _ g
  exact⟨b,sh,sz,O,q.at_,(k.old b (H.dom _ _ _ _ q.at_)).trans q.blk,q.zero,q.mine,q.ob⟩
theorem Laying.move {G:Nat}{W w:World}{h:Heap}(L:Laying G W h)(hs:W.heap.size≤w.heap.size)(hold:∀ b,b < W.heap.size→w.heap[b]?=W.heap[b]?)(hG:G≤W.heap.size):Laying G w h:=by
 have hg:glob G w=glob G W:=by
  funext g
  unfold glob
  by_cases q:g < G
  ·rw[xGq q,xGq q,hold g (by omega)]
  ·rw[xGr q,xGr q]
 refine⟨⟨rfl,rfl,rfl,xGv _,fun _ _=>rfl,fun id b sh sz e=>?_,fun id cs e ro q=>?_,fun i j ci ei cj ej r bi si zi bj sj zj hij gi gj ai aj=>?_,fun id es q=>absurd q (L.nomp id es),fun i j ei ej bi si zi bj sj zj hij gi _ _ _=>absurd gi (L.nomp i ei)⟩,L.ro,L.nomp,L.top⟩
 ·rw[hg] at e;exact xHd (L.hr.dom _ _ _ _ e) hs
 ·obtain⟨b,sh,sz,c,fz,k⟩:=L.hr.cells _ _ _ _ q
  have hr:=L.ro _ _ _ _ q
  exact⟨b,sh,sz,c,fz,by rw[hg];exact k.at_,(hold b (L.hr.dom _ _ _ _ k.at_)).trans k.blk,k.exact_,k.size,k.fit,fun i hi=>by rw[hg];exact k.cell i hi,fun hn=>by rw[hr] at hn;cases hn⟩
 ·rw[hg] at ai aj;exact L.hr.inj _ _ _ _ _ _ _ _ _ _ _ _ _ hij gi gj ai aj
theorem yKx {W:World}{G mask N n k top:Nat}{ext:zUf}{f:FuncId}{fn:Func}{c:Code}{h:Heap}(L:Laying G W h)(hGW:G≤W.heap.size)(hGt:G≤top)
  (hm:P.follows .mixedOrders=true) (hok:(Nat.ble (mask+1) (Nat.shiftLeft 1 N)&&zMw P G mask N)=true) (hit:zMs ext) (hio:∀ w,W.heap.size≤w.heap.size→(∀ b,b < W.heap.size→w.heap[b]?=W.heap[b]?)→zMt P w G ext)
  (hf:P.funcs[f]?=some fn) (hb:fn.body=some c) (hn:(fn.name== "runtime.NumGoroutine")=false)
  (e:isTrue (zJz P (zE9 mask ext) n k f [] (zAh h top))=true):zGy P W G f yKw:=by
 intro args s v s' ed φ w args' H _ hA _ _
 unfold yKw at ed
 split at ed
 case h_2=>cases ed
 cases ed
 rw[hA.of_nil,zBg hf hb hn]
 have Lw:=L.move H.size H.old hGW
 obtain⟨s1,e⟩:=zU2 e
 refine(zWu (args:=[]) hm hok hit (hio w H.size H.old) hf hb hn Lw.hr (zD4 G w) (VRL.nil _) (zC6 G w hGt) (fun id q=>Lw.top id (xHf hGt q)) e).mono ?_
 rintro e W' ⟨v',φ',rfl,_,hv,H'⟩
 rw[zHn hv]
 exact⟨.bool true,φ,rfl,Ext.refl _ _ _,.bool true,H.keep H'.kept H'.tape⟩
end Go.Det
namespace Go.Det
variable (P:Program)
def zAd (b:Bool)(A B:Prop):Prop:=match b with|true=>A|false=>B
theorem zFs {b:Bool}{A B:Prop}(h1:b=true→A)(h2:b=false→B):zAd b A B:=by
 cases b
 ·exact h2 rfl
 ·exact h1 rfl
theorem zFt {b:Bool}{A B A' B':Prop}(h1:A→A')(h2:B→B')(h:zAd b A B):zAd b A' B':=by
 cases b
 ·exact h2 h
 ·exact h1 h
abbrev KV:=Value→St→Prop
abbrev KT:=zAv→St→Prop
abbrev KC:=Ex→zAv→St→Prop
def zZ0 (r:Option (Value×St))(K:KV):Prop:=match r with|some x=>K x.1 x.2|none=>False
def yT1:List Value→Nat→(Value→Prop)→Prop
 |[],_,_=>False
 |v::_,0,K=>K v
 |_::t,n+1,K=>yT1 t n K
def yGw:Nat→List Value→(List Value→Prop)→Prop
 |0,cs,K=>K cs
 |_+1,[],_=>False
 |n+1,_::t,K=>yGw n t K
def yBi:Nat→List Value→(List Value→Prop)→Prop
 |0,_,K=>K []
 |_+1,[],_=>False
 |n+1,v::t,K=>yBi n t fun r=>K (v::r)
def yT2:Nat→List Value→List Value→(List Value→Prop)→Prop
 |0,l,ws,K=>yBi ws.length l fun _=>K (ws++l.drop ws.length)
 |_+1,[],_,_=>False
 |n+1,x::t,ws,K=>yT2 n t ws fun r=>K (x::r)
theorem zPa {K:Value→Prop}:∀ {l:List Value} {n:Nat} {v:Value},l[n]?=some v→K v→yT1 l n K
 |[],n,v,h,_=>by simp at h
 |x::t,0,v,h,k=>by simp only[xHl,xGu] at h;subst h;exact k
 |x::t,n+1,v,h,k=>by rw[xIk] at h;exact zPa (l:=t) h k
theorem zMy {K:Value→Prop}:∀ {l:List Value} {n:Nat},yT1 l n K→∃ v,l[n]?=some v∧K v
 |[],_,h=>h.elim
 |v::_,0,h=>⟨v,rfl,h⟩
 |_::t,n+1,h=>by obtain⟨v,e,k⟩:=zMy (l:=t) h;exact⟨v,by rw[xIk];exact e,k⟩
theorem zIf {K:List Value→Prop}:∀ {n:Nat} {l:List Value},n≤l.length→K (l.drop n)→yGw n l K
 |0,l,_,k=>k
 |n+1,[],h,_=>by simp at h
 |n+1,x::t,h,k=>zIf (l:=t) (by simpa using h) k
theorem zJ5 {K:List Value→Prop}:∀ {n:Nat} {l:List Value},yGw n l K→n≤l.length∧K (l.drop n)
 |0,l,k=>⟨xIc _,k⟩
 |n+1,[],h=>h.elim
 |n+1,x::t,h=>by obtain⟨a,b⟩:=zJ5 (l:=t) h;exact⟨by simpa using a,b⟩
theorem zGh {K:List Value→Prop}:∀ {n:Nat} {l:List Value},n≤l.length→K (l.take n)→yBi n l K
 |0,l,_,k=>k
 |n+1,[],h,_=>by simp at h
 |n+1,x::t,h,k=>zGh (l:=t) (by simpa using h) k
theorem zHr {K:List Value→Prop}:∀ {n:Nat} {l:List Value},yBi n l K→n≤l.length∧K (l.take n)
 |0,l,k=>⟨xIc _,k⟩
 |n+1,[],h=>h.elim
 |n+1,x::t,h=>by obtain⟨a,b⟩:=zHr (l:=t) h;exact⟨by simpa using a,b⟩
theorem zPb {K:List Value→Prop}:∀ {n:Nat} {l ws:List Value},n+ws.length≤l.length→K (l.take n++ws++l.drop (n+ws.length))→yT2 n l ws K
 |0,l,ws,h,k=>zGh (by omega) (by simpa using k)
 |n+1,[],ws,h,_=>by simp at h
 |n+1,x::t,ws,h,k=>zPb (l:=t) (by simp at h;omega) (by rw[show n+1+ws.length=(n+ws.length)+1 by omega] at k;exact k)
theorem zMz {K:List Value→Prop}:∀ {n:Nat} {l ws:List Value},yT2 n l ws K→n+ws.length≤l.length∧K (l.take n++ws++l.drop (n+ws.length))
 |0,l,ws,h=>by obtain⟨a,b⟩:=zHr h;exact⟨by omega,by simpa using b⟩
 |n+1,[],ws,h=>h.elim
 |n+1,x::t,ws,h=>by
  obtain⟨a,b⟩:=zMz (l:=t) h
  refine⟨by simp;omega,?_⟩
  rw[show n+1+ws.length=(n+ws.length)+1 by omega]
  exact b
theorem zDy:∀ {n:Nat} {l:List Value},n≤l.length→zEm n l=some (l.take n)
 |0,l,_=>rfl
 |n+1,[],h=>by simp at h
 |n+1,v::t,h=>by rw[zG5,zDy (l:=t) (by simpa using h)];rfl
theorem zM0:∀ {l ws:List Value},ws.length≤l.length→zRv l ws=some (ws++l.drop ws.length)
 |l,[],_=>by rw[zR7];simp
 |[],w::ws,h=>by simp at h
 |x::t,w::ws,h=>by rw[zO1,zM0 (l:=t) (by simpa using h)];simp
theorem zPc:∀ {n:Nat} {l ws:List Value},n+ws.length≤l.length→zV8 l n ws=some (l.take n++ws++l.drop (n+ws.length))
 |0,l,ws,h=>by rw[zR8,zM0 (by omega)];simp
 |n+1,[],ws,h=>by simp at h
 |n+1,x::t,ws,h=>by
  rw[zH2,zPc (l:=t) (by simp at h;omega),show n+1+ws.length=(n+ws.length)+1 by omega];simp
def zS8 (s:St)(t:TypeId)(a:Value)(K:KV):Prop:=
 match a with
 |.pointer (some ⟨id,off,none⟩)=>
  match s.h.get id with
  |some (.cells cs _ _)=>
   match zG1 P t with
   |some true=>match zGz P t with
    |some 0=>K (.agg ([]:List Value).toArray) (s.read id)
    |some (n+1)=>yGw off cs fun r=>yBi (n+1) r fun r=>K (.agg r.toArray) (s.read id)
    |none=>False
   |some false=>yT1 cs off fun v=>K v (s.read id)
   |none=>False
  |_=>False
 |_=>False
theorem zPd {P:Program}{s:St}{t:TypeId}{a:Value}{K:KV}(h:zS8 P s t a K):∃ v s',zD2 P s t a=some (v,s')∧K v s':=by
 unfold zS8 at h
 split at h
 case h_2=>exact h.elim
 rename_i id off
 split at h
 case h_2=>exact h.elim
 rename_i cs e ro hg
 split at h
 ·rename_i hb
  split at h
  ·rename_i hn
   exact⟨_,_,by simp only[zD2,hg,hb,hn,zO0],h⟩
  ·rename_i n hn
   obtain⟨h1,h⟩:=zJ5 h
   obtain⟨h2,h⟩:=zHr h
   exact⟨_,_,by simp only[zD2,hg,hb,hn,zCh,zDy h2],h⟩
  ·exact h.elim
 ·rename_i hb
  obtain⟨v,e,h⟩:=zMy h
  refine⟨_,_,?_,h⟩
  have hd:cs.drop off=v::cs.drop (off+1):=by
   obtain⟨hlt,rfl⟩:=xHu.1 e
   rw[xHk hlt]
  simp only[zD2,hg,hb,zCh,hd]
 ·exact h.elim
theorem zPe {P:Program}{s:St}{t:TypeId}{a:Value}{K K':KV}(k:∀ v s,K v s→K' v s)(h:zS8 P s t a K):zS8 P s t a K':=by
 unfold zS8 at h ⊢
 split at h
 case h_2=>exact h.elim
 split at h
 case h_2=>exact h.elim
 split at h
 ·split at h
  ·exact k _ _ h
  ·obtain⟨h1,h⟩:=zJ5 h
   obtain⟨h2,h⟩:=zHr h
   exact zIf h1 (zGh h2 (k _ _ h))
  ·exact h.elim
 ·obtain⟨v,e,h⟩:=zMy h
  exact zPa e (k _ _ h)
 ·exact h.elim
def zPf (s:St)(t:TypeId)(a v:Value)(K:St→Prop):Prop:=
 match a with
 |.pointer (some ⟨id,off,none⟩)=>
  match s.h.get id with
  |some (.cells cs e false)=>
   match zGz P t with
   |some n=>match Nat.beq (zA8 v).length n&&zV9 (zA8 v) with
    |true=>yT2 off cs (zA8 v) fun cs'=>K (s.write id (.cells cs' e false))
    |false=>False
   |none=>False
  |_=>False
 |_=>False
theorem zU4 {P:Program}{s:St}{t:TypeId}{a v:Value}{K:St→Prop}(h:zPf P s t a v K):∃ s',zOq P s t a v=some s'∧K s':=by
 unfold zPf at h
 split at h
 case h_2=>exact h.elim
 rename_i id off
 split at h
 case h_2=>exact h.elim
 rename_i cs e hg
 split at h
 case h_2=>exact h.elim
 rename_i n hn
 split at h
 case h_2=>exact h.elim
 rename_i hc
 obtain⟨h1,h⟩:=zMz h
 exact⟨_,by simp only[zOq,hg,hn,hc,if_true,zPc h1],h⟩
theorem zU5 {P:Program}{s:St}{t:TypeId}{a v:Value}{K K':St→Prop}(k:∀ s,K s→K' s)(h:zPf P s t a v K):zPf P s t a v K':=by
 unfold zPf at h ⊢
 split at h
 case h_2=>exact h.elim
 split at h
 case h_2=>exact h.elim
 split at h
 case h_2=>exact h.elim
 split at h
 case h_2=>exact h.elim
 obtain⟨h1,h⟩:=zMz h
 exact zPb h1 (k _ h)
def zAf (p:Prop):Bool:=@decide p (Classical.propDecidable p)
theorem zAz (p:Prop)[d:Decidable p]:decide p=zAf p:=by
 unfold zAf
 congr
theorem zBy {p:Prop}:zAf p=true↔p:=by unfold zAf;simp
theorem zCm {p:Prop}:zAf p=false↔¬ p:=by unfold zAf;simp
theorem zAx (a b:Int):(a==b)=zAf (a=b):=zAz (a=b)
theorem yGx (a b:Int):(a != b)=zAf (a≠b):=by
 rw[← zAz (a≠b)]
 show(!(decide (a=b)))=decide (a≠b)
 simp
theorem yBj (a b:Bool):(a==b)=zAf (a=b):=by rw[← zAz (a=b)];cases a<;>cases b<;>rfl
theorem zQu (a b:ByteArray):zLu a b=zAf (a.data.toList=b.data.toList):=by
 rw[← zAz (a.data.toList=b.data.toList)]
 unfold zLu
 rw[Bool.eq_iff_iff];simp
def zFc:List Nat→List Value→List Value→Option Bool
 |[],[],[]=>some true
 |0::ks,.int k a::s,.int k' b::t=>match zGt k k' with
  |true=>(match zFc ks s t with|some r=>some (zAf (a=b)&&r)|none=>none)
  |false=>none
 |1::ks,.bool a::s,.bool b::t=>match zFc ks s t with|some r=>some (zAf (a=b)&&r)|none=>none
 |2::ks,.string a::s,.string b::t=>match zFc ks s t with|some r=>some (zAf (a.data.toList=b.data.toList)&&r)|none=>none
 |_,_,_=>none
theorem zU6 (ks:List Nat):∀ (a b:List Value),zB2 ks a b=zFc ks a b:=by
 induction ks with
 |nil=>intro a b;cases a<;>cases b<;>rfl
 |cons k ks ih=>
  intro a b
  rcases k with _|_|_|k
  ·cases a with
   |nil=>cases b<;>rfl
   |cons v s=>cases b with
    |nil=>cases v<;>rfl
    |cons u t=>
     cases v with
     |int q x=>cases u with
      |int q' y=>
       show(match zGt q q' with|true=>(match zB2 ks s t with|some r=>some ((x==y)&&r)|none=>none)|false=>none)=(match zGt q q' with|true=>(match zFc ks s t with|some r=>some (zAf (x=y)&&r)|none=>none)|false=>none)
       rw[ih,zAx]
      |_=>rfl
     |_=>rfl
  ·cases a with
   |nil=>cases b<;>rfl
   |cons v s=>cases b with
    |nil=>cases v<;>rfl
    |cons u t=>
     cases v with
     |bool x=>cases u with
      |bool y=>
       show(match zB2 ks s t with|some r=>some ((x==y)&&r)|none=>none)=(match zFc ks s t with|some r=>some (zAf (x=y)&&r)|none=>none)
       rw[ih,yBj]
      |_=>rfl
     |_=>rfl
  ·cases a with
   |nil=>cases b<;>rfl
   |cons v s=>cases b with
    |nil=>cases v<;>rfl
    |cons u t=>
     cases v with
     |string x=>cases u with
      |string y=>
       show(match zB2 ks s t with|some r=>some (zLu x y&&r)|none=>none)=(match zFc ks s t with|some r=>some (zAf (x.data.toList=y.data.toList)&&r)|none=>none)
       rw[ih,zQu]
      |_=>rfl
     |_=>rfl
  ·cases a<;>cases b<;>rfl
def zWw (t:TypeId)(a b:List Value):Option Bool:=
 match P.underlying t with
 |some (.struct fs)=>(match P.stoodInHeld t||P.eqGuardType P.depth t with
  |true=>none
  |false=>(match zEr P (zH7 P 11) 0 fs.toList with
   |some ks=>zFc ks a b
   |none=>none))
 |_=>none
def yJb (op:BinOp)(t:TypeId)(x y:Operand)(a b:Value)(s:St)(K:KV):Prop:=
 match a,b with
 |.int k m,.int k' n=>(match op with
  |.shl=>0≤n∧K (.int k (zE2 k m n)) s
  |.shr=>0≤n∧K (.int k (shrI k m n)) s
  |op=>(match zGt k k' with
   |false=>False
   |true=>(match op with
    |.quo=>n≠0∧K (.int k (k.wrap (m.tdiv n))) s
    |.rem=>n≠0∧K (.int k (m.tmod n)) s
    |.eql=>K (.bool (zAf (m=n))) s
    |.neq=>K (.bool (zAf (m≠n))) s
    |.lss=>K (.bool (zAf (m < n))) s
    |.leq=>K (.bool (zAf (m≤n))) s
    |.gtr=>K (.bool (zAf (n < m))) s
    |.geq=>K (.bool (zAf (n≤m))) s
    |op=>zZ0 (ofV (zEq op k m n) s) K)))
 |.string p,.string q=>(match op with
  |.add=>p.size+q.size≤9223372036854775807∧K (.string (p++q)) s
  |.eql=>K (.bool (zAf (p.data.toList=q.data.toList))) s
  |.neq=>K (.bool (!zAf (p.data.toList=q.data.toList))) s
  |op=>zZ0 (ofV (zWc P op t x y (.string p) (.string q)) s) K)
 |.agg p,.agg q=>(match op with
  |.eql=>(match zWw P t p.toList q.toList with|some r=>K (.bool r) s|none=>False)
  |.neq=>(match zWw P t p.toList q.toList with|some r=>K (.bool (!r)) s|none=>False)
  |_=>False)
 |a,b=>zZ0 (ofV (zWc P op t x y a b) s) K
def zEj (t:TypeId)(x ix:Value)(s:St)(K:KV):Prop:=
 match typ P t,x,ix with
 |some (.slice elem),.slice (some ⟨id,off,none⟩) n _,.int _ i=>(match zGz P elem with
  |some size=>(0≤i∧i < (n:Int))∧K (.pointer (some ⟨id,off+i.toNat * size,none⟩)) s
  |none=>False)
 |some (.array n elem),.pointer (some ⟨id,off,none⟩),.int _ i=>(match zGz P elem with
  |some size=>(0≤i∧i < (n:Int))∧K (.pointer (some ⟨id,off+i.toNat * size,none⟩)) s
  |none=>False)
 |_,_,_=>False
def zPg (t:TypeId)(x ix:Value)(s:St)(K:KV):Prop:=
 match typ P t,x,ix with
 |some .string,.string b,.int _ i=>(0≤i∧i < (b.data.toList.length:Int))∧K (.int .u8 (b.data.toList.getD i.toNat 0).toNat) s
 |_,x,ix=>zZ0 (ofV (zRx P t x ix) s) K
def zQv (all:List Oper)(l:zAv)(o:Oper)(yes no:zAv→Prop):Prop:=
 match o.guard with
 |none=>yes l
 |some g=>
  match nth all g.1 with
  |some q=>(match q.dst with
   |some d=>(match zD7 l d with
    |.bool b=>zAd b ((match g.2 with|true=>yes|false=>no) (zZz l d (.bool true))) ((match g.2 with|true=>no|false=>yes) (zZz l d (.bool false)))
    |.tuple _=>False
    |_=>no l)
   |none=>False)
  |none=>False
abbrev Cw:=FuncId→List Value→St→KV→Prop
def zU7:Call:=fun _ _ _=>none
def opW (cw:Cw)(o:Oper)(l:zAv)(s:St)(K:KV):Prop:=
 match o.op with
 |.binOp op t x y _=>yJb P op t x y (evalO l x) (evalO l y) s K
 |.load t a=>zS8 P s t (evalO l a) K
 |.store t a x=>zPf P s t (evalO l a) (evalO l x) fun s=>K und s
 |.pick c a b=>(match evalO l c with|.bool t=>zAd t (K (evalO l a) s) (K (evalO l b) s)|_=>False)
 |.indexAddr t x i=>zEj P t (evalO l x) (evalO l i) s K
 |.index t x i=>zPg P t (evalO l x) (evalO l i) s K
 |.call c=>(match c.callee with
  |.value f=>(match evalO l f with
   |.func (.func g) first cap=>cw g (first.toList++(zEs l c.args.toList++cap.toList)) s K
   |_=>False)
  |.builtin b=>zZ0 (zBs P s b c.argTypes o.type (zEs l c.args.toList)) K
  |.invoke _ _=>False)
 |_=>zZ0 (opD P zU7 o l s) K
def yGy (cw:Cw)(all:List Oper):List Oper→zAv→St→KT→Prop
 |[],l,s,K=>K l s
 |o::rest,l,s,K=>zQv all l o (fun l=>opW P cw o l s fun v s=>yGy cw all rest (zJx l o.dst v) s K) (fun l=>yGy cw all rest (zJx l o.dst skp) s K)
def zJ6 (cw:Cw)(all:List Oper):List Oper→List zDz→zAv→St→KT→Prop
 |[],_,l,s,K=>K l s
 |o::rest,done,l,s,K=>match zF7 done.length o.after.toList with
  |true=>zQv all l o
   (fun l=>opW P cw o l (solo s) fun v x=>match zF8 (zDl all o done x.rd x.wr) 0 done with
    |true=>zJ6 cw all rest (done++[zDl all o done x.rd x.wr]) (zJx l o.dst v) (zSw s x) K
    |false=>False)
   (fun l=>match zF8 (zDl all o done 0 0) 0 done with
    |true=>zJ6 cw all rest (done++[zDl all o done 0 0]) (zJx l o.dst skp) (zSw s (solo s)) K
    |false=>False)
  |false=>False
def yBk (l:zAv)(c:Operand)(b:Bool):zAv:=match c with|.tmp t=>zZz l t (.bool b)|_=>l
def zCi (R:KT)(K:KC):KC:=fun e l s=>match e with|.normal=>R l s|.exit i=>K (.exit i) l s|.ret=>K .ret l s
structure At (w0:World) (φ0:Ren) (n:Nat) (l:zAv) (s:St) (a:Act) (w:World) (φ:Ren):Prop where
 hr:HR φ s.h w0 w
 le:Le φ0 φ
 fr:Fr n φ l a
 fresh:∀ id,s.next≤id→φ id=none
 none_:∀ id,s.next≤id→s.h.get id=none
 hi:s.next≤s.hi
def zDf (l:zAv)(s:St)(l':zAv)(s':St):Prop:=
 ∀ w0 φ0 n a w φ,(∀ id,64≤id→φ0 id=none)→At w0 φ0 n l s a w φ→∃ φ',At w0 φ0 n l' s' a w φ'
def yUs (body:zAv→St→KC→Prop)(l:zAv)(s:St)(K:KC):Prop:=
 ∀ R:KT,(∀ l s,body l s (zCi R K)→R l s)→(∀ l s l' s',zDf l s l' s'→R l' s'→R l s)→R l s
def zAo (cw:Cw):Code→zAv→St→KC→Prop
 |.skip,l,s,K=>K .normal l s
 |.region _ ops draw,l,s,K=>(match draw with
  |true=>zJ6 P cw ops.toList ops.toList [] l s (K .normal)
  |false=>yGy P cw ops.toList ops.toList l s (K .normal))
 |.seq a b,l,s,K=>zAo cw a l s fun e l s=>match e with|.normal=>zAo cw b l s K|.exit i=>K (.exit i) l s|.ret=>K .ret l s
 |.cond c a b,l,s,K=>(match evalO l c with
  |.bool t=>zAd t (zAo cw a (yBk l c true) s K) (zAo cw b (yBk l c false) s K)
  |_=>False)
 |.block id a,l,s,K=>zAo cw a l s fun e l s=>match e with
  |.exit i=>(match Nat.beq i id with|true=>K .normal l s|false=>K (.exit i) l s)
  |.normal=>K .normal l s
  |.ret=>K .ret l s
 |.loop a,l,s,K=>yUs (fun l s K=>zAo cw a l s K) l s K
 |.exit i,l,s,K=>K (.exit i) l s
 |.ret,l,s,K=>K .ret l s
 |_,_,_,_=>False
def yJc (l:zAv)(s:St):List ResultVar→(List Value→St→Prop)→Prop
 |[],K=>K [] s
 |.tmp t::rest,K=>yJc l s rest fun vs s=>K (zD7 l t::vs) s
 |.cell a t::rest,K=>zS8 P s t (zD7 l a) fun v s=>yJc l s rest fun vs s=>K (v::vs) s
def zA2 (fn:Func)(Q:KV):KC:=fun e l s=>match e with
 |.exit _=>False
 |.normal=>yJc P l s fn.results.toList fun vs s=>Q (zHz vs) s
 |.ret=>yJc P l s fn.results.toList fun vs s=>Q (zHz vs) s
end Go.Det
namespace Go.Det
variable {P:Program}
def LE (l l':zAv):Prop:=∀ t,zD7 l t=zD7 l' t
theorem LE.refl (l:zAv):LE l l:=fun _=>rfl
theorem LE.evalO {l l':zAv}(h:LE l l')(x:Operand):evalO l x=evalO l' x:=by cases x<;>first|rfl|exact h _
theorem LE.set {l l':zAv}(h:LE l l')(d:Nat)(v:Value):LE (zZz l d v) (zZz l' d v):=fun t=>by rw[zF9,zF9];split;rfl;exact h t
theorem LE.put {l l':zAv}(h:LE l l')(d:Option Tmp)(v:Value):LE (zJx l d v) (zJx l' d v):=by
 cases d with
 |none=>exact h
 |some d=>exact h.set d v
theorem LE.know {l l':zAv}(h:LE l l'){d:Nat}{v:Value}(e:zD7 l' d=v):LE l (zZz l' d v):=fun t=>by
 rw[zF9]
 split
 ·rename_i q;subst q;rw[h,e]
 ·exact h t
theorem LE.op {call:Call}{o:Oper}{l l':zAv}(h:LE l l'):opD P call o l=opD P call o l':=by
 exact zSy fun x _=>LE.evalO h x
structure CwOk (call:Call) (cw:Cw):Prop where
 some_:∀ g args s K,cw g args s K→∃ v s',call g args s=some (v,s')∧K v s'∧∀ K':KV,K' v s'→cw g args s K'
 mono:∀ g args s (K K':KV),(∀ v s,K v s→K' v s)→cw g args s K→cw g args s K'
def zDs (cw:Cw):Prop:=∀ g args s (K K':KV),(∀ v s,K v s→K' v s)→cw g args s K→cw g args s K'
theorem zS9 {call:Call}{c:Go.Call}{t:TypeId}{l:zAv}{s:St}{r:Value×St}(h:zIu P zU7 c t l s=some r):zIu P call c t l s=some r:=by
 unfold zIu at h ⊢
 cases hc:c.callee with
 |builtin b=>rw[hc] at h;exact h
 |invoke a b=>rw[hc] at h;exact h
 |value f=>
  rw[hc] at h
  simp only[zFi] at h
  split at h
  ·split at h
   ·cases h
   ·cases h
  ·cases h
theorem yBl {call:Call}{o:Oper}{l:zAv}{s:St}{r:Value×St}(h:opD P zU7 o l s=some r):opD P call o l s=some r:=by
 unfold opD at h ⊢
 cases hop:o.op<;>rw[hop] at h<;>first
  |exact h
  |exact zS9 h
theorem zFu {r:Option (Value×St)}{K:KV}(h:zZ0 r K):∃ v s',r=some (v,s')∧K v s':=by
 cases r with
 |none=>exact h.elim
 |some x=>exact⟨x.1,x.2,rfl,h⟩
theorem zFv {r:Option (Value×St)}{K K':KV}(k:∀ v s,K v s→K' v s)(h:zZ0 r K):zZ0 r K':=by
 cases r with
 |none=>exact h
 |some x=>exact k _ _ h
theorem zTa {t:TypeId}{a b:List Value}:zX6 P t a b=zWw P t a b:=by
 unfold zX6 zWw
 simp only[zU6]
 try rfl
theorem yBm {op:BinOp}{t:TypeId}{x y:Operand}{a b:Value}{s:St}{K:KV}(h:yJb P op t x y a b s K):∃ v s',ofV (zWc P op t x y a b) s=some (v,s')∧K v s':=by
 unfold yJb at h
 split at h
 ·rename_i k m k' n
  split at h
  ·refine⟨_,_,?_,h.2⟩
   have:decide (n < 0)=false:=xG1 (by omega)
   simp only[zWc,zE3,this,ofV]
  ·refine⟨_,_,?_,h.2⟩
   have:decide (n < 0)=false:=xG1 (by omega)
   simp only[zWc,zE3,this,ofV]
  ·rename_i hs1 hs2
   split at h
   ·exact h.elim
   rename_i hk
   have hsh:zE3 op k m n=none:=by
    cases op<;>first|rfl|exact(hs1 rfl).elim|exact(hs2 rfl).elim
   have e:zWc P op t x y (.int k m) (.int k' n)=zEq op k m n:=by simp only[zWc,hsh,hk]
   rw[e]
   split at h
   ·refine⟨_,_,?_,h.2⟩
    have:decide (n=0)=false:=xG1 h.1
    simp only[zEq,this,ofV]
   ·refine⟨_,_,?_,h.2⟩
    have:decide (n=0)=false:=xG1 h.1
    simp only[zEq,this,ofV]
   ·exact⟨_,_,by simp only[zEq,zAx,ofV],h⟩
   ·exact⟨_,_,by simp only[zEq,yGx,ofV],h⟩
   ·exact⟨_,_,by simp only[zEq,zAz,ofV],h⟩
   ·exact⟨_,_,by simp only[zEq,zAz,ofV],h⟩
   ·exact⟨_,_,by simp only[zEq,zAz,ofV],h⟩
   ·exact⟨_,_,by simp only[zEq,zAz,ofV],h⟩
   ·exact zFu h
 ·rename_i p q
  split at h
  ·refine⟨_,_,?_,h.2⟩
   have:Nat.ble (p.size+q.size) 9223372036854775807=true:=xH0 h.1
   simp only[zWc,zKi,this,ofV]
  ·exact⟨_,_,by simp only[zWc,zKi,zQu,ofV],h⟩
  ·exact⟨_,_,by simp only[zWc,zKi,zQu,ofV],h⟩
  ·exact zFu h
 ·rename_i p q
  split at h
  ·split at h
   ·rename_i r hr
    exact⟨_,_,by simp only[zWc,zWb,zTa,hr,ofV],h⟩
   ·exact h.elim
  ·split at h
   ·rename_i r hr
    exact⟨_,_,by simp only[zWc,zWb,zTa,hr,ofV],h⟩
   ·exact h.elim
  ·exact h.elim
 ·exact zFu h
theorem yBn {op:BinOp}{t:TypeId}{x y:Operand}{a b:Value}{s:St}{K K':KV}(k:∀ v s,K v s→K' v s)(h:yJb P op t x y a b s K):yJb P op t x y a b s K':=by
 unfold yJb at h ⊢
 split at h
 ·split at h
  ·exact⟨h.1,k _ _ h.2⟩
  ·exact⟨h.1,k _ _ h.2⟩
  ·split at h
   ·exact h.elim
   ·split at h<;>first
     |exact⟨h.1,k _ _ h.2⟩
     |exact k _ _ h
     |exact zFv k h
 ·split at h
  ·exact⟨h.1,k _ _ h.2⟩
  ·exact k _ _ h
  ·exact k _ _ h
  ·exact zFv k h
 ·split at h
  ·split at h
   ·exact k _ _ h
   ·exact h.elim
  ·split at h
   ·exact k _ _ h
   ·exact h.elim
  ·exact h.elim
 ·exact zFv k h
theorem zM1 {k:IntKind}{i:Int}(h:0≤i):zIo (.int k i)=some i.toNat:=by simp only[zIo,xGq h]
theorem yJd {n:Nat}{i:Int}(h0:0≤i)(h:i < (n:Int)):Nat.ble n i.toNat=false:=by
 cases hb:Nat.ble n i.toNat with
 |false=>rfl
 |true=>have:=xHg hb;omega
theorem zM2 {t:TypeId}{x ix:Value}{s:St}{K:KV}(h:zEj P t x ix s K):∃ v s',ofV (zFp P t x ix) s=some (v,s')∧K v s':=by
 unfold zEj at h
 split at h
 ·rename_i elem id off n c k i ht
  split at h
  case h_2=>exact h.elim
  rename_i size hs
  obtain⟨⟨h0,h1⟩,h⟩:=h
  refine⟨_,_,?_,h⟩
  simp only[zFp,ht,zM1 h0,hs,yJd h0 h1]
  rfl
 ·rename_i n elem id off k i ht
  split at h
  case h_2=>exact h.elim
  rename_i size hs
  obtain⟨⟨h0,h1⟩,h⟩:=h
  refine⟨_,_,?_,h⟩
  simp only[zFp,ht,zM1 h0,hs,yJd h0 h1]
  rfl
 ·exact h.elim
theorem zM3 {t:TypeId}{x ix:Value}{s:St}{K K':KV}(k:∀ v s,K v s→K' v s)(h:zEj P t x ix s K):zEj P t x ix s K':=by
 unfold zEj at h ⊢
 split at h
 ·split at h
  ·exact⟨h.1,k _ _ h.2⟩
  ·exact h.elim
 ·split at h
  ·exact⟨h.1,k _ _ h.2⟩
  ·exact h.elim
 ·exact h.elim
theorem zU8 {t:TypeId}{x ix:Value}{s:St}{K:KV}(h:zPg P t x ix s K):∃ v s',ofV (zRx P t x ix) s=some (v,s')∧K v s':=by
 unfold zPg at h
 split at h
 ·rename_i b k i ht
  obtain⟨⟨h0,h1⟩,h⟩:=h
  refine⟨_,_,?_,h⟩
  have hlt:i.toNat < (b.data.toList.map fun x=>Value.int .u8 x.toNat).length:=by rw[xHm];omega
  have hlt2:i.toNat < b.data.toList.length:=by omega
  simp only[zRx,ht,zM1 h0,zCh]
  rw[xHk hlt,List.getElem_map,xGw,xGz hlt2]
  rfl
 ·exact zFu h
theorem zU9 {t:TypeId}{x ix:Value}{s:St}{K K':KV}(k:∀ v s,K v s→K' v s)(h:zPg P t x ix s K):zPg P t x ix s K':=by
 unfold zPg at h ⊢
 split at h
 ·exact⟨h.1,k _ _ h.2⟩
 ·exact zFv k h
theorem zWx {call:Call}{cw:Cw}(ho:CwOk call cw){o:Oper}{l:zAv}{s:St}{K:KV}(h:opW P cw o l s K):∃ v s',opD P call o l s=some (v,s')∧K v s':=by
 unfold opW at h
 split at h
 ·rename_i op t x y yt hop
  unfold opD;rw[hop]
  exact yBm h
 ·rename_i t a hop
  unfold opD;rw[hop]
  exact zPd h
 ·rename_i t a x hop
  unfold opD;rw[hop]
  obtain⟨s',e,k⟩:=zU4 h
  exact⟨und,s',by simp only[zG4,e],k⟩
 ·rename_i c a b hop
  unfold opD;rw[hop]
  split at h
  ·rename_i t ht
   cases t with
   |true=>exact⟨_,_,by simp only[zIr,ht],h⟩
   |false=>exact⟨_,_,by simp only[zIr,ht],h⟩
  ·exact h.elim
 ·rename_i t x i hop
  unfold opD;rw[hop]
  exact zM2 h
 ·rename_i t x i hop
  unfold opD;rw[hop]
  exact zU8 h
 ·rename_i c hop
  unfold opD;rw[hop]
  unfold zIu
  simp only
  split at h
  ·rename_i f hc
   simp only[hc,zFi]
   split at h
   ·rename_i g first cap hv
    obtain⟨v,s',e,k,_⟩:=ho.some_ _ _ _ _ h
    exact⟨v,s',by simp only[hv];exact e,k⟩
   ·exact h.elim
  ·rename_i b hc
   simp only[hc,zFr]
   exact zFu h
  ·exact h.elim
 ·obtain⟨v,s',e,k⟩:=zFu h
  exact⟨v,s',yBl e,k⟩
theorem zHs {cw:Cw}(hm:zDs cw){o:Oper}{l:zAv}{s:St}{K K':KV}(k:∀ v s,K v s→K' v s)(h:opW P cw o l s K):opW P cw o l s K':=by
 unfold opW at h ⊢
 split at h
 ·exact yBn k h
 ·exact zPe k h
 ·exact zU5 (fun s=>k _ s) h
 ·split at h
  ·exact zFt (k _ _) (k _ _) h
  ·exact h.elim
 ·exact zM3 k h
 ·exact zU9 k h
 ·split at h
  ·split at h
   ·exact hm _ _ _ _ _ k h
   ·exact h.elim
  ·exact zFv k h
  ·exact h.elim
 ·exact zFv k h
theorem zPh {all:List Oper}{l:zAv}{o:Oper}{yes no:zAv→Prop}(h:zQv all l o yes no):∃ l',LE l l'∧((zBw all l o=some true∧yes l')∨(zBw all l o=some false∧no l')):=by
 unfold zQv at h
 unfold zBw
 split at h
 ·rename_i hg;exact⟨l,LE.refl l,.inl ⟨by simp only[hg],h⟩⟩
 ·rename_i g hg
  split at h
  case h_2=>exact h.elim
  rename_i q hq
  split at h
  case h_2=>exact h.elim
  rename_i d hd
  simp only[hg,hq,hd]
  split at h
  ·rename_i b hb
   cases b with
   |true=>
    refine⟨_,(LE.refl l).know hb,?_⟩
    cases h2:g.2 with
    |true=>left;simp only[hb];exact⟨rfl,by simpa only[zAd,h2] using h⟩
    |false=>right;simp only[hb];exact⟨rfl,by simpa only[zAd,h2] using h⟩
   |false=>
    refine⟨_,(LE.refl l).know hb,?_⟩
    cases h2:g.2 with
    |true=>right;simp only[hb];exact⟨rfl,by simpa only[zAd,h2] using h⟩
    |false=>left;simp only[hb];exact⟨rfl,by simpa only[zAd,h2] using h⟩
  ·exact h.elim
  ·rename_i h1 h2
   refine⟨l,LE.refl l,.inr ⟨?_,h⟩⟩
   split
   ·rename_i b hb;exact absurd hb (h1 b)
   ·rename_i vs hv;exact absurd hv (h2 vs)
   ·rfl
theorem zEk {all:List Oper}{l:zAv}{o:Oper}{yes no yes' no':zAv→Prop}(k1:∀ l,yes l→yes' l)(k2:∀ l,no l→no' l)(h:zQv all l o yes no):zQv all l o yes' no':=by
 unfold zQv at h ⊢
 split at h
 ·exact k1 _ h
 ·rename_i g hg
  split at h
  case h_2=>exact h.elim
  split at h
  case h_2=>exact h.elim
  split at h
  ·cases h2:g.2 with
   |true=>simp only[h2] at h ⊢;exact zFt (k1 _) (k2 _) h
   |false=>simp only[h2] at h ⊢;exact zFt (k2 _) (k1 _) h
  ·exact h.elim
  ·exact k2 _ h
theorem zI8 {all:List Oper}{l l':zAv}{o:Oper}(h:LE l l'):zBw all l o=zBw all l' o:=by
 unfold zBw
 cases o.guard with
 |none=>rfl
 |some g=>
  simp only
  cases nth all g.1 with
  |none=>rfl
  |some q=>
   simp only
   cases q.dst with
   |none=>rfl
   |some d=>simp only[h d]
theorem LE.trans {a b c:zAv}(h:LE a b)(k:LE b c):LE a c:=fun t=>(h t).trans (k t)
theorem zM4 {call:Call}{cw:Cw}(ho:CwOk call cw){all:List Oper}:∀ {ops:List Oper} {l:zAv} {s:St} {K:KT},yGy P cw all ops l s K→∀ l0,LE l0 l→∃ l1 s1 l',zYb P call all ops l0 s=some (l1,s1)∧LE l1 l'∧K l' s1
 |[],l,s,K,h,l0,hl=>⟨l0,s,l,rfl,hl,h⟩
 |o::rest,l,s,K,h,l0,hl=>by
  rw[zG9]
  unfold zH9
  rw[hl.op (P:=P)]
  simp only[zI8 hl]
  obtain⟨l1,h1,⟨hw,h⟩|⟨hw,h⟩⟩:=zPh h
  ·simp only[hw]
   obtain⟨v,s1,e,k⟩:=zWx ho h
   rw[← h1.op (P:=P)] at e
   obtain⟨l2,s2,l3,e2,q1,q2⟩:=zM4 ho k (zJx l0 o.dst v) ((hl.trans h1).put _ _)
   exact⟨l2,s2,l3,by simp only[e,zOw];exact e2,q1,q2⟩
  ·simp only[hw]
   obtain⟨l2,s2,l3,e2,q1,q2⟩:=zM4 ho h (zJx l0 o.dst skp) ((hl.trans h1).put _ _)
   exact⟨l2,s2,l3,e2,q1,q2⟩
theorem zM5 {cw:Cw}(hm:zDs cw){all:List Oper}:∀ {ops:List Oper} {l:zAv} {s:St} {K K':KT},(∀ l s,K l s→K' l s)→yGy P cw all ops l s K→yGy P cw all ops l s K'
 |[],_,_,_,_,k,h=>k _ _ h
 |_::_,_,_,_,_,k,h=>zEk (fun _ h=>zHs hm (fun _ _ h=>zM5 hm k h) h) (fun _ h=>zM5 hm k h) h
theorem zJ7 {call:Call}{cw:Cw}(ho:CwOk call cw){all:List Oper}:∀ {ops:List Oper} {done:List zDz} {l:zAv} {s:St} {K:KT},zJ6 P cw all ops done l s K→∀ l0,LE l0 l→∀ sl,∃ l1 s1 l',zK0 P call all ops done sl l0 s=some (l1,s1)∧LE l1 l'∧K l' s1
 |[],done,l,s,K,h,l0,hl,sl=>⟨l0,s,l,rfl,hl,h⟩
 |o::rest,done,l,s,K,h,l0,hl,sl=>by
  rw[zHp]
  unfold zJ6 at h
  split at h
  case h_2=>exact h.elim
  rename_i he
  rw[he]
  simp only
  unfold zC9
  rw[hl.op (P:=P)]
  simp only[zI8 hl]
  obtain⟨l1,h1,⟨hw,h⟩|⟨hw,h⟩⟩:=zPh h
  ·simp only[hw]
   obtain⟨v,x,e,k⟩:=zWx ho h
   rw[← h1.op (P:=P)] at e
   split at k
   case h_2=>exact k.elim
   rename_i ha
   obtain⟨l2,s2,l3,e2,q1,q2⟩:=zJ7 ho k (zJx l0 o.dst v) ((hl.trans h1).put _ _) (sl++[zKj all o l0 v])
   refine⟨l2,s2,l3,?_,q1,q2⟩
   rw[e]
   unfold zHm zOx
   simp only
   unfold zDl at ha e2
   rw[zHb ha]
   exact e2
  ·simp only[hw]
   split at h
   case h_2=>exact h.elim
   rename_i ha
   obtain⟨l2,s2,l3,e2,q1,q2⟩:=zJ7 ho h (zJx l0 o.dst skp) ((hl.trans h1).put _ _) (sl++[zKj all o l0 skp])
   refine⟨l2,s2,l3,?_,q1,q2⟩
   unfold zHm zOx
   simp only
   unfold zDl at ha e2
   simp only[solo] at e2 ⊢
   rw[zHb ha]
   exact e2
theorem zJ8 {cw:Cw}(hm:zDs cw){all:List Oper}:∀ {ops:List Oper} {done:List zDz} {l:zAv} {s:St} {K K':KT},(∀ l s,K l s→K' l s)→zJ6 P cw all ops done l s K→zJ6 P cw all ops done l s K'
 |[],_,_,_,_,_,k,h=>k _ _ h
 |o::rest,done,l,s,K,K',k,h=>by
  unfold zJ6 at h ⊢
  split at h
  case h_2=>exact h.elim
  refine zEk (fun l h=>zHs hm (fun v x h=>?_) h) (fun l h=>?_) h
  ·split at h
   ·exact zJ8 hm k h
   ·exact h.elim
  ·split at h
   ·exact zJ8 hm k h
   ·exact h.elim
theorem zBq {R R':KT}{K K':KC}(h:∀ l s,R l s→R' l s)(k:∀ e l s,K e l s→K' e l s)(e:Ex)(l:zAv)(s:St)(q:zCi R K e l s):zCi R' K' e l s:=by
 cases e with
 |normal=>exact h _ _ q
 |exit i=>exact k _ _ _ q
 |ret=>exact k _ _ _ q
theorem zA1 {cw:Cw}(hm:zDs cw):∀ (c:Code) {l:zAv} {s:St} {K K':KC},(∀ e l s,K e l s→K' e l s)→zAo P cw c l s K→zAo P cw c l s K'
 |.skip,_,_,_,_,k,h=>k _ _ _ h
 |.region _ ops draw,_,_,_,_,k,h=>by
  cases draw with
  |true=>exact zJ8 hm (k .normal) h
  |false=>exact zM5 hm (k .normal) h
 |.seq a b,_,_,_,_,k,h=>zA1 hm a (fun e l s h=>by
   cases e with
   |normal=>exact zA1 hm b k h
   |exit i=>exact k _ _ _ h
   |ret=>exact k _ _ _ h) h
 |.cond c a b,l,s,K,K',k,h=>by
  unfold zAo at h ⊢
  split at h
  ·exact zFt (zA1 hm a k) (zA1 hm b k) h
  ·exact h.elim
 |.block id a,_,_,_,_,k,h=>zA1 hm a (fun e l s h=>by
   cases e with
   |normal=>exact k _ _ _ h
   |exit i=>
    simp only at h ⊢
    split at h
    ·exact k _ _ _ h
    ·exact k _ _ _ h
   |ret=>exact k _ _ _ h) h
 |.loop a,l,s,K,K',k,h=>by
  intro R h1 h2
  exact h R (fun l s q=>h1 l s (zA1 hm a (zBq (fun _ _ h=>h) k) q)) h2
 |.exit i,_,_,_,_,k,h=>k _ _ _ h
 |.ret,_,_,_,_,k,h=>k _ _ _ h
 |.rangeFunc ..,_,_,_,_,_,h=>h.elim
 |.scope ..,_,_,_,_,_,h=>h.elim
 |.label ..,_,_,_,_,_,h=>h.elim
 |.goto ..,_,_,_,_,_,h=>h.elim
 |.refuse ..,_,_,_,_,_,h=>h.elim
end Go.Det
section
namespace Go.Det
variable {P:Program}
theorem zM6 {l:zAv}:∀ {rs:List ResultVar} {s:St} {K:List Value→St→Prop},yJc P l s rs K→∃ vs s',zR6 P l s rs=some (vs,s')∧K vs s'
 |[],s,K,h=>⟨[],s,rfl,h⟩
 |.tmp t::rest,s,K,h=>by
  obtain⟨vs,s',e,k⟩:=zM6 (rs:=rest) h
  exact⟨zD7 l t::vs,s',by rw[zQo,e],k⟩
 |.cell a t::rest,s,K,h=>by
  obtain⟨v,s1,e1,h⟩:=zPd h
  obtain⟨vs,s',e,k⟩:=zM6 (rs:=rest) h
  exact⟨v::vs,s',by rw[zMl,e1];simp only[e],k⟩
theorem Fr.le {n:Nat}{φ:Ren}{l l':zAv}{a:Act}(h:Fr n φ l a)(k:LE l l'):Fr n φ l' a:=⟨h.size,fun t=>by rw[← k t];exact h.tmp t,h.defers⟩
section
variable {w0:World} {φ0:Ren} {n G:Nat} {call:Call} {cw:Cw}
theorem At.le' {l l':zAv}{s:St}{a:Act}{w:World}{φ:Ren}(h:At w0 φ0 n l s a w φ)(k:LE l l'):At w0 φ0 n l' s a w φ:=⟨h.hr,h.le,h.fr.le k,h.fresh,h.none_,h.hi⟩
theorem At.next {l l1:zAv}{s s1:St}{a a1:Act}{w w1:World}{φ φ1:Ren}(h:At w0 φ0 n l s a w φ)(g:G1 s s1)(e:Ext φ φ1 s.next s1.next)(H:HR φ1 s1.h w0 w1)(F:Fr n φ1 l1 a1):
  At w0 φ0 n l1 s1 a1 w1 φ1:=by
 refine⟨H,h.le.trans e.le,F,fun id q=>?_,fun id q=>?_,g.inv h.hi⟩
 ·cases hφ:φ1 id with
  |none=>rfl
  |some y=>
   rcases e.new id (by rw[hφ];simp) with r|r
   ·exact absurd (h.fresh id (xHf g.next q)) r
   ·omega
 ·cases hh:s1.h.get id with
  |none=>rfl
  |some y=>
   rcases g.dom id (by rw[hh];simp) with r|r
   ·exact absurd (h.none_ id (xHf g.next q)) r
   ·omega
def zZc (w0:World)(φ0:Ren)(n:Nat)(K:KC)(e:Exit)(a:Act)(w:World):Prop:=∃ ex l s φ,e=Ex.out ex∧K ex l s∧At w0 φ0 n l s a w φ
theorem zQw (ho:CwOk call cw)(hcall:zH3 P w0 G call)(hT:∀ f args,Tr (call f args))(hm:P.follows .mixedOrders=true)(hG:Glob G φ0){id:Nat}{ops:Array Oper}{draw:Bool}
  (hok:zE7 n G (.region id ops draw)=true) {l:zAv} {s:St} {K:KC} {a:Act} {w:World} {φ:Ren} (h:zAo P cw (.region id ops draw) l s K) (A:At w0 φ0 n l s a w φ):
  (Code.region id ops draw).wp P (zZc w0 φ0 n K) a w:=by
 have hs:=zO9 (P:=P) (w0:=w0) hcall hT hm 0 (.region id ops draw) hok
 have key:∃ l1 s1 l',zOb P call 0 (.region id ops draw) l s=some (.normal,l1,s1)∧LE l1 l'∧K .normal l' s1∧G1 s s1:=by
  cases draw with
  |true=>
   obtain⟨l1,s1,l',e,q1,q2⟩:=zJ7 (P:=P) ho (K:=K .normal) h l (LE.refl l) []
   refine⟨l1,s1,l',?_,q1,q2,(zQm (P:=P) hT _ _ _ _ _ _ _ _ e).1⟩
   show yI2 (zK0 P call ops.toList ops.toList [] [] l s)=_
   rw[e];rfl
  |false=>
   obtain⟨l1,s1,l',e,q1,q2⟩:=zM4 (P:=P) ho (K:=K .normal) h l (LE.refl l)
   refine⟨l1,s1,l',?_,q1,q2,(zMj (P:=P) hT _ _ _ _ _ _ e).1⟩
   show yI2 (zYb P call ops.toList ops.toList l s)=_
   rw[e];rfl
 obtain⟨l1,s1,l',e,q1,q2,g⟩:=key
 refine hs l s _ l1 s1 φ a w e ⟨A.hr,hG.mono A.le,A.fr,fun id p _=>A.fresh id p,⟨A.hi,fun id p _=>A.none_ id p⟩⟩ _ fun φ' a' w' po=>?_
 obtain⟨e1,H1,F1⟩:=po
 exact⟨.normal,l',s1,φ',rfl,q2,(A.next g e1 H1 F1).le' q1⟩
theorem zWy {l:zAv}{c:Operand}{b:Bool}(h:evalO l c=.bool b):LE l (yBk l c b):=by
 cases c with
 |tmp t=>exact(LE.refl l).know h
 |_=>exact LE.refl l
theorem zVa (ho:CwOk call cw)(hcall:zH3 P w0 G call)(hT:∀ f args,Tr (call f args))(hm:P.follows .mixedOrders=true)(hG:Glob G φ0)(h64:∀ id,64≤id→φ0 id=none)(c:Code)(hok:zE7 n G c=true):
  ∀ (l:zAv) (s:St) (K:KC) (a:Act) (w:World) (φ:Ren),zAo P cw c l s K→At w0 φ0 n l s a w φ→c.wp P (zZc w0 φ0 n K) a w:=by
 induction c with
 |skip=>exact fun l s K a w φ h A=>wp_skip ⟨.normal,l,s,φ,rfl,h,A⟩
 |region id ops draw=>exact fun l s K a w φ h A=>zQw ho hcall hT hm hG hok h A
 |seq a b ha hb=>
  intro l s K ac w φ h A
  simp only[zE7,xG0] at hok
  refine wp_seq (wp_mono (ha hok.1 l s _ ac w φ h A) ?_)
  rintro e a1 w1 ⟨ex,l1,s1,φ1,rfl,k,A1⟩
  cases ex with
  |normal=>exact hb hok.2 l1 s1 K a1 w1 φ1 k A1
  |exit i=>exact⟨.exit i,l1,s1,φ1,rfl,k,A1⟩
  |ret=>exact⟨.ret,l1,s1,φ1,rfl,k,A1⟩
 |cond c a b ha hb=>
  intro l s K ac w φ h A
  simp only[zE7,xG0] at hok
  have hv:=zLf (hG.mono A.le) A.fr hok.1
  unfold zAo at h
  split at h
  case h_2=>exact h.elim
  rename_i t ht
  rw[ht] at hv
  refine wp_cond (t:=t) (zHn hv) ?_
  cases t with
  |true=>exact ha hok.2.1 _ s K ac w φ h (A.le' (zWy ht))
  |false=>exact hb hok.2.2 _ s K ac w φ h (A.le' (zWy ht))
 |block id c ih=>
  intro l s K ac w φ h A
  refine wp_block (wp_mono (ih hok l s _ ac w φ h A) ?_)
  rintro e a1 w1 ⟨ex,l1,s1,φ1,rfl,k,A1⟩
  cases ex with
  |normal=>exact⟨.normal,l1,s1,φ1,rfl,k,A1⟩
  |ret=>exact⟨.ret,l1,s1,φ1,rfl,k,A1⟩
  |exit i=>
   show(if i=id then zZc w0 φ0 n K .normal a1 w1 else zZc w0 φ0 n K (.exit i) a1 w1)
   simp only at k
   cases hb:Nat.beq i id with
   |true=>
    rw[hb] at k
    rw[xGq (xG3 hb)]
    exact⟨.normal,l1,s1,φ1,rfl,k,A1⟩
   |false=>
    rw[hb] at k
    rw[xGr (Nat.ne_of_beq_eq_false hb)]
    exact⟨.exit i,l1,s1,φ1,rfl,k,A1⟩
 |loop c ih=>
  intro l s K ac w φ h A
  have key:∀ a w φ,At w0 φ0 n l s a w φ→∀ (b:Frame) (t:List Item) (cs:List Frame),∃ e a' w',zZc w0 φ0 n K e a' w'∧Arrives P (lone (b.at a (.code c::.inLoop c::t)) cs w) b t cs e a' w':=by
   refine h (fun l s=>∀ a w φ,At w0 φ0 n l s a w φ→∀ (b:Frame) (t:List Item) (cs:List Frame),∃ e a' w',zZc w0 φ0 n K e a' w'∧Arrives P (lone (b.at a (.code c::.inLoop c::t)) cs w) b t cs e a' w') ?_ ?_
   ·intro l s hb a w φ A b t cs
    obtain⟨e,a1,w1,⟨ex,l1,s1,φ1,rfl,k,A1⟩,harr⟩:=ih hok l s _ a w φ hb A b (.inLoop c::t) cs
    cases ex with
    |normal=>
     obtain⟨e2,a2,w2,hq2,harr2⟩:=k a1 w1 φ1 A1 b t cs
     exact⟨e2,a2,w2,hq2,.of_steps (Steps.trans harr (.one step_inLoop)) harr2⟩
    |exit i=>exact⟨_,a1,w1,⟨.exit i,l1,s1,φ1,rfl,k,A1⟩,.pass (x:=.inLoop c) rfl (fun _ _=>.inl (by simp[Ex.out])) harr⟩
    |ret=>exact⟨_,a1,w1,⟨.ret,l1,s1,φ1,rfl,k,A1⟩,.pass (x:=.inLoop c) rfl (fun _ _=>.inl (by simp[Ex.out])) harr⟩
   ·intro l s l' s' hw hr a w φ A
    obtain⟨φ',A'⟩:=hw w0 φ0 n a w φ h64 A
    exact hr a w φ' A'
  intro b t cs
  obtain⟨e,a',w',hq,harr⟩:=key ac w φ A b t cs
  exact⟨e,a',w',hq,.of_steps (.one step_loop) harr⟩
 |exit id=>exact fun l s K a w φ h A=>wp_exit ⟨.exit id,l,s,φ,rfl,h,A⟩
 |ret=>exact fun l s K a w φ h A=>wp_ret ⟨.ret,l,s,φ,rfl,h,A⟩
 |_=>intro l s K a w φ h;exact h.elim
theorem zHd (ho:CwOk call cw)(hcall:zH3 P w0 G call)(hT:∀ f args,Tr (call f args))(hm:P.follows .mixedOrders=true)(hG:Glob G φ0)(h64:∀ id,64≤id→φ0 id=none)
  {f:FuncId} {fn:Func} {c:Code} (hf:P.funcs[f]?=some fn) (hb:fn.body=some c) (hok:zEb G fn=true)
  {args args':List Value} {s:St} {w:World} {Q:KV} (hle:Nat.ble args.length fn.ntmps=true)
  (H:HR φ0 s.h w0 w) (hA:VRL φ0 args args') (hfr:∀ id,s.next≤id→φ0 id=none) (hno:∀ id,s.next≤id→s.h.get id=none) (hhi:s.next≤s.hi)
  (h:zAo P cw c (zAg args 8) s (zA2 P fn Q)):
  Calls P f ⟨args'⟩ w fun e w'=>∃ v v' s' φ',e=.returned v'∧Q v s'∧VR φ' v v'∧HR φ' s'.h w0 w'∧Le φ0 φ'∧(∀ id,s'.next≤id→φ' id=none):=by
 refine calls_of_wp hf hb ?_
 unfold zEb at hok
 rw[hb] at hok
 simp only[xG0] at hok
 have A:At w0 φ0 fn.ntmps (zAg args 8) s { tmps:=(⟨args'⟩:Array Value)++Array.replicate (fn.ntmps - (⟨args'⟩:Array Value).size) undef,defers:=[] } w φ0:=
  ⟨H,Le.refl _,zMu hA (xHg hle),hfr,hno,hhi⟩
 refine wp_mono (zVa ho hcall hT hm hG h64 c hok.1 _ _ _ _ _ _ h A) ?_
 rintro e a1 w1 ⟨ex,l1,s1,φ1,rfl,k,A1⟩
 have hend:yJc P l1 s1 fn.results.toList (fun vs s=>Q (zHz vs) s)→a1.defers=[]∧∃ v2,(results fn a1.tmps).run P w1=.ok v2 w1∧∃ v v' s' φ',Ending.returned v2=.returned v'∧Q v s'∧VR φ' v v'∧HR φ' s'.h w0 w1∧Le φ0 φ'∧(∀ id,s'.next≤id→φ' id=none):=by
  intro k
  obtain⟨vs,s2,e2,q⟩:=zM6 k
  obtain⟨vs',r1,r3,r4,r5⟩:=zQr fn.results.toList e2 A1.hr A1.fr.tmp
  exact⟨A1.fr.defers,zHz vs',zMr r1,zHz vs,zHz vs',s2,φ1,rfl,q,zWs r3,by rw[r4];exact A1.hr,A1.le,fun id p=>A1.fresh id (by rw[← r5];exact p)⟩
 cases ex with
 |normal=>exact hend k
 |ret=>exact hend k
 |exit i=>exact k.elim
end
structure Later (W w:World):Prop where
 size:W.heap.size≤w.heap.size
 old:∀ b,b < W.heap.size→w.heap[b]?=W.heap[b]?
theorem Later.refl (W:World):Later W W:=⟨xGv _,fun _ _=>rfl⟩
theorem Later.trans {A B C:World}(h:Later A B)(k:Later B C):Later A C:=⟨xHf h.size k.size,fun b q=>(k.old b (xHd q h.size)).trans (h.old b q)⟩
theorem HR.later {φ:Ren}{h:Heap}{W w:World}(H:HR φ h W w):Later W w:=⟨H.size,H.old⟩
def zAk (P:Program)(W:World)(G:Nat)(f:FuncId)(g:Own):Prop:=yBh g∧∀ w,Later W w→zGy P w G f g
def zDc (l:List (Nat×Own)):Call:=fun f args s=>match zU3 l f with|some g=>g args s|none=>none
def OwnsAll (P:Program)(W:World)(G:Nat)(l:List (Nat×Own)):Prop:=∀ x∈l,zAk P W G x.1 x.2
theorem zAb (W:World)(G:Nat):OwnsAll P W G []:=fun _ h=>by cases h
theorem OwnsAll.cons {W:World}{G:Nat}{l:List (Nat×Own)}{f:Nat}{g:Own}(h:zAk P W G f g)(k:OwnsAll P W G l):OwnsAll P W G ((f,g)::l):=by
 intro x hx
 rcases xG6.1 hx with rfl|hx
 ·exact h
 ·exact k x hx
theorem zFw {W:World}{G:Nat}{l:List (Nat×Own)}(h:OwnsAll P W G l)(f:FuncId)(args:List Value):Tr (zDc l f args):=by
 unfold zDc
 cases he:zU3 l f with
 |none=>exact zA4 fun _=>rfl
 |some g=>exact(h _ (zI7 he)).1 args
theorem zFx {W w:World}{G:Nat}{l:List (Nat×Own)}(h:OwnsAll P W G l)(k:Later W w):zH3 P w G (zDc l):=by
 intro f args s v s' e
 unfold zDc at e
 split at e
 ·rename_i g he
  exact(h _ (zI7 he)).2 w k args s v s' e
 ·cases e
theorem zWz {cw:Cw}{W:World}{G:Nat}{l:List (Nat×Own)}{h:Heap}{f:FuncId}{fn:Func}{c:Code}{F:List Value→Option Value}(L:Laying G W h)(hGW:G≤W.heap.size)(hG64:G≤64)
  (hm:P.follows .mixedOrders=true) (hl:OwnsAll P W G l) (ho:CwOk (zDc l) cw) (hf:P.funcs[f]?=some fn) (hb:fn.body=some c) (hok:zEb G fn=true)
  (hF:∀ args v,F args=some v→zCo args=true∧flat v=true∧Nat.ble args.length fn.ntmps=true∧zAo P cw c (zAg args 8) (zAh h 64) (zA2 P fn fun v' _=>v'=v)):zAk P W G f (zCz F):=by
 refine⟨zFb F,fun W1 k1 args s v s' e φ w args' H _ hA _ _=>?_⟩
 unfold zCz at e
 split at e
 case h_2=>cases e
 rename_i r hr
 cases e
 obtain⟨h1,h2,h3,h4⟩:=hF args v hr
 have hn:(fn.name== "runtime.NumGoroutine")=false:=by
  unfold zEb at hok
  rw[hb] at hok
  simp only[xG0,xIi] at hok
  exact hok.2
 rw[zB5 h1 hA,zBg hf hb hn]
 have kw:Later W w:=k1.trans H.later
 have Lw:=L.move kw.size kw.old hGW
 refine(zHd (P:=P) (w0:=w) (φ0:=glob G w) (G:=G) ho (zFx hl kw) (zFw hl) hm (zD4 G w) (fun id q=>zC6 G w hG64 id q) hf hb hok h3 Lw.hr (zDa h1 _) (fun id q=>zC6 G w hG64 id q) (fun id q=>Lw.top id (xHf hG64 q)) (xGv 64) h4).mono ?_
 rintro e W' ⟨v1,v',s1,φ',rfl,rfl,hv,H',_,_⟩
 exact⟨v',φ,rfl,Ext.refl _ _ _,zE8 h2 hv,H.keep H'.kept H'.tape⟩
end Go.Det
end
namespace Go.Det
variable {P:Program}
theorem zD5 {cw:Cw}(hm:zDs cw){a:Code}{l:zAv}{s:St}{K:KC}(h:zAo P cw a l s (zCi (fun l s=>zAo P cw (.loop a) l s K) K)):zAo P cw (.loop a) l s K:=by
 intro R h1 h2
 exact h1 l s (zA1 hm a (zBq (fun l s q=>q R h1 h2) fun _ _ _ q=>q) h)
theorem zHt {cw:Cw}{a:Code}{l l':zAv}{s s':St}{K:KC}(w:zDf l s l' s')(h:zAo P cw (.loop a) l' s' K):zAo P cw (.loop a) l s K:=
 fun R h1 h2=>h2 l s l' s' w (h R h1 h2)
def zZ1 (ρ:Nat→Option Nat)(φ:Ren):Ren:=fun id=>if id < 64 then φ id else match ρ id with|some o=>φ o|none=>none
def Wk (ρ:Nat→Option Nat)(v' v:Value):Prop:=∀ φ x,VR φ v x→VR (zZ1 ρ φ) v' x
theorem Wk.und (ρ:Nat→Option Nat)(v:Value):Wk ρ und v:=fun _ _ _=>.any _
theorem Wk.flat {ρ:Nat→Option Nat}{v:Value}(h:flat v=true):Wk ρ v v:=fun _ _ k=>zE8 h k
theorem Wk.slice {ρ:Nat→Option Nat}{i o off n c:Nat}(hi:64≤i)(h:ρ i=some o):Wk ρ (.slice (some ⟨i,off,none⟩) n c) (.slice (some ⟨o,off,none⟩) n c):=by
 intro φ x k
 have e:∀ y,φ o=some y→zZ1 ρ φ i=some y:=fun y q=>by unfold zZ1;rw[xGr (by omega),h];exact q
 rcases zB7 k with⟨hc,a',rfl,h2⟩|⟨id',off',b,sh,sz,es,c',e1,rfl,e3,p,q,r,rfl⟩
 ·rcases h2 with⟨q,_⟩|⟨id',off',b,sh,sz,q,e1,rfl⟩
  ·cases q
  ·cases q;exact .slice _ _ _ _ _ _ _ (e _ e1) hc
 ·cases e1;exact .sliceU _ _ _ _ _ _ _ _ (e _ e3) p q r
theorem Wk.ptr {ρ:Nat→Option Nat}{i o off:Nat}(hi:64≤i)(h:ρ i=some o):Wk ρ (.pointer (some ⟨i,off,none⟩)) (.pointer (some ⟨o,off,none⟩)):=by
 intro φ x k
 obtain⟨b,sh,sz,e,rfl⟩:=zDu k
 exact .ptr _ _ _ _ _ (by unfold zZ1;rw[xGr (by omega),h];exact e)
theorem yGz {v:Value}(h:zG0 v=true):flat v=true:=by
 cases v<;>first
  |(simp[zG0] at h;done)
  |exact h
theorem zTb (ρ:Nat→Option Nat){l l':zAv}{s s':St}(ht:∀ t,Wk ρ (zD7 l' t) (zD7 l t))
  (hlow:∀ id cs e ro,id < 64→s'.h.get id=some (.cells cs e ro)→s.h.get id=some (.cells cs e ro)∧zEn cs=true)
  (hcells:∀ id cs e ro,64≤id→s'.h.get id=some (.cells cs e ro)→∃ o cs0,ρ id=some o∧s.h.get o=some (.cells cs0 e ro)∧cs.length=cs0.length∧∀ i,Wk ρ (cs.getD i und) (cs0.getD i und))
  (hinj:∀ i j o,ρ i=some o→ρ j=some o→i=j) (hge:∀ i o,ρ i=some o→64≤o)
  (hnm:∀ id es,s'.h.get id≠some (.ob es)) (hn:∀ id,s'.next≤id→ρ id=none∧s'.h.get id=none) (h64:64≤s'.next) (hhi:s'.next≤s'.hi):zDf l s l' s':=by
 intro w0 φ0 n a w φ hφ0 A
 have hrn:∀ id x,zZ1 ρ φ id=some x→(id < 64∧φ id=some x)∨(64≤id∧∃ o,ρ id=some o∧φ o=some x):=by
  intro id x e
  unfold zZ1 at e
  by_cases q:id < 64
  ·rw[xGq q] at e;exact .inl ⟨q,e⟩
  ·rw[xGr q] at e
   split at e
   ·rename_i o ho;exact .inr ⟨by omega,o,ho,e⟩
   ·cases e
 refine⟨zZ1 ρ φ,⟨A.hr.os,A.hr.output,A.hr.tape,A.hr.size,A.hr.old,fun id b sh sz e=>?_,fun id cs e ro g=>?_,?_,fun id es g=>absurd g (hnm id es),fun i j ei ej bi si zi bj sj zj hij gi _ _ _=>absurd gi (hnm i ei)⟩,fun id x e=>?_,⟨A.fr.size,fun t=>ht t _ _ (A.fr.tmp t),A.fr.defers⟩,fun id q=>?_,fun id q=>(hn id q).2,hhi⟩
 ·rcases hrn _ _ e with⟨_,e⟩|⟨_,o,_,e⟩
  ·exact A.hr.dom _ _ _ _ e
  ·exact A.hr.dom _ _ _ _ e
 ·by_cases q:id < 64
  ·obtain⟨g0,hf⟩:=hlow _ _ _ _ q g
   obtain⟨b,sh,sz,c,fz,k⟩:=A.hr.cells _ _ _ _ g0
   refine⟨b,sh,sz,c,fz,by unfold zZ1;rw[xGq q];exact k.at_,k.blk,k.exact_,k.size,k.fit,fun i hi=>?_,k.mine⟩
   have hv:=k.cell i hi
   refine zE8 ?_ hv
   have hfl:∀ {l:List Value} {i:Nat},zEn l=true→i < l.length→flat (l.getD i und)=true:=by
    intro l
    induction l with
    |nil=>intro i _ h;simp at h
    |cons v t ih=>
     intro i h1 h2
     simp only[zEn,xG0] at h1
     cases i with
     |zero=>exact yGz h1.1
     |succ i=>simpa using ih h1.2 (by simpa using h2)
   exact hfl hf hi
  ·obtain⟨o,cs0,ho,g0,hl,hc⟩:=hcells _ _ _ _ (by omega) g
   obtain⟨b,sh,sz,c,fz,k⟩:=A.hr.cells _ _ _ _ g0
   exact⟨b,sh,sz,c,fz,by unfold zZ1;rw[xGr q,ho];exact k.at_,k.blk,k.exact_,k.size,by rw[hl];exact k.fit,fun i hi=>hc i _ _ (k.cell i (by omega)),k.mine⟩
 ·intro i j ci ei cj ej ro bi si zi bj sj zj hij gi gj ai aj
  have old:∀ {id cs e r b sh sz},s'.h.get id=some (.cells cs e r)→zZ1 ρ φ id=some (b,sh,sz)→∃ o cs0,s.h.get o=some (.cells cs0 e r)∧φ o=some (b,sh,sz)∧((id < 64∧o=id)∨(64≤id∧ρ id=some o)):=by
   intro id cs e r b sh sz g e1
   rcases hrn _ _ e1 with⟨q,e2⟩|⟨q,o,ho,e2⟩
   ·exact⟨id,cs,(hlow _ _ _ _ q g).1,e2,.inl ⟨q,rfl⟩⟩
   ·obtain⟨o',cs0,ho',g0,_,_⟩:=hcells _ _ _ _ q g
    rw[ho] at ho';cases ho'
    exact⟨o,cs0,g0,e2,.inr ⟨q,ho⟩⟩
  obtain⟨oi,c1,g1,a1,k1⟩:=old gi ai
  obtain⟨oj,c2,g2,a2,k2⟩:=old gj aj
  refine A.hr.inj oi oj c1 ei c2 ej ro bi si zi bj sj zj ?_ g1 g2 a1 a2
  intro e
  subst e
  rcases k1 with⟨q1,rfl⟩|⟨q1,e1⟩<;>rcases k2 with⟨q2,e3⟩|⟨q2,e2⟩
  ·exact hij e3
  ·have:=hge _ _ e2;omega
  ·have:=hge _ _ e1;omega
  ·exact hij (hinj _ _ _ e1 e2)
 ·have hlt:id < 64:=by
   rcases xHr id 64 with q|q
   ·exact q
   ·rw[hφ0 id q] at e;cases e
  unfold zZ1;rw[xGq hlt];exact A.le _ _ e
 ·unfold zZ1
  rw[xGr (by omega),(hn id q).1]
end Go.Det
namespace Go.Det
variable {P:Program}
structure Con where
 own:Own
 w:List Value→St→KV→Prop
 ok:∀ args s (K:KV),w args s K→∃ v s',own args s=some (v,s')∧K v s'∧∀ K':KV,K' v s'→w args s K'
 mono:∀ args s (K K':KV),(∀ v s,K v s→K' v s)→w args s K→w args s K'
def cwC:List (Nat×Con)→Cw
 |[]=>fun _ _ _ _=>False
 |x::t=>fun g args s K=>match Nat.beq x.1 g with|true=>x.2.w args s K|false=>cwC t g args s K
def zZ2:List (Nat×Con)→List (Nat×Own)
 |[]=>[]
 |x::t=>(x.1,x.2.own)::zZ2 t
theorem zAp:∀ l,zDs (cwC l)
 |[]=>fun _ _ _ _ _ _ h=>h
 |x::t=>fun g args s K K' k h=>by
  unfold cwC at h ⊢
  split at h
  ·exact x.2.mono args s K K' k h
  ·exact zAp t g args s K K' k h
theorem zAq (l:List (Nat×Con)):CwOk (zDc (zZ2 l)) (cwC l):=by
 refine⟨?_,zAp l⟩
 induction l with
 |nil=>exact fun _ _ _ _ h=>h.elim
 |cons x t ih=>
  intro g args s K h
  unfold cwC at h ⊢
  unfold zDc zZ2 zU3
  split at h
  ·rename_i hb
   simp only[hb]
   exact x.2.ok args s K h
  ·rename_i hb
   simp only[hb]
   exact ih g args s K h
def Con.flat {α:Type}(dec:List Value→Option α)(dom:α→Bool)(res:α→Value):Con where
 own:=zCz fun args=>match dec args with
  |some a=>(match dom a with|true=>some (res a)|false=>none)
  |none=>none
 w:=fun args s K=>match dec args with
  |some a=>dom a=true∧K (res a) s
  |none=>False
 ok:=by
  intro args s K h
  unfold zCz
  split at h
  ·rename_i a ha
   exact⟨res a,s,by simp only[ha,h.1],h.2,fun K' k=>⟨h.1,k⟩⟩
  ·exact h.elim
 mono:=by
  intro args s K K' k h
  split at h
  ·exact⟨h.1,k _ _ h.2⟩
  ·exact h.elim
theorem zQx {W:World}{G:Nat}{l:List (Nat×Con)}{h:Heap}{f:FuncId}{fn:Func}{c:Code}{α:Type}{dec:List Value→Option α}{dom:α→Bool}{res:α→Value}(enc:α→List Value)
  (L:Laying G W h) (hGW:G≤W.heap.size) (hG64:G≤64)
  (hm:P.follows .mixedOrders=true) (hl:OwnsAll P W G (zZ2 l)) (hf:P.funcs[f]?=some fn) (hb:fn.body=some c) (hok:zEb G fn=true)
  (hdec:∀ args a,dec args=some a→args=enc a) (hflat:∀ a,zCo (enc a)=true∧flat (res a)=true∧Nat.ble (enc a).length fn.ntmps=true)
  (hF:∀ a,dom a=true→zAo P (cwC l) c (zAg (enc a) 8) (zAh h 64) (zA2 P fn fun v' _=>v'=res a)):zAk P W G f (Con.flat dec dom res).own:=by
 refine zWz L hGW hG64 hm hl (zAq l) hf hb hok fun args v hv=>?_
 split at hv
 case h_2=>cases hv
 rename_i a ha
 split at hv
 case h_2=>cases hv
 rename_i hd
 cases hv
 obtain rfl:=hdec _ _ ha
 exact⟨(hflat a).1,(hflat a).2.1,(hflat a).2.2,hF a hd⟩
theorem OwnsAll.con {W:World}{G:Nat}{l:List (Nat×Con)}{f:Nat}{c:Con}(h:zAk P W G f c.own)(k:OwnsAll P W G (zZ2 l)):OwnsAll P W G (zZ2 ((f,c)::l)):=OwnsAll.cons h k
def yG0:List Value→Option (Int×Int×Int×Int)
 |[.agg ⟨[.int .u64 a,.int .u64 b]⟩,.agg ⟨[.int .u64 c,.int .u64 d]⟩]=>some (a,b,c,d)
 |_=>none
def zZd (x:Int×Int×Int×Int):List Value:=[.agg ⟨[.int .u64 x.1,.int .u64 x.2.1]⟩,.agg ⟨[.int .u64 x.2.2.1,.int .u64 x.2.2.2]⟩]
theorem yBo {args a}(h:yG0 args=some a):args=zZd a:=by
 unfold yG0 at h;split at h
 ·cases h;rfl
 ·cases h
def encQ (x:Int×Int):List Value:=[.agg ⟨[.int .u64 x.1,.int .u64 x.2]⟩]
end Go.Det
namespace Go.Det
variable {P:Program}
def Con.opt {α β:Type}(dec:List Value→Option α)(f:α→Option β)(enc:β→Value):Con where
 own:=zCz fun args=>match dec args with
  |some a=>(match f a with|some b=>some (enc b)|none=>none)
  |none=>none
 w:=fun args s K=>match dec args with
  |some a=>∃ x,f a=some x∧K (enc x) s
  |none=>False
 ok:=by
  intro args s K h
  unfold zCz
  split at h
  ·rename_i a ha
   obtain⟨x,hx,hk⟩:=h
   exact⟨enc x,s,by simp only[ha,hx],hk,fun K' k=>⟨x,hx,k⟩⟩
  ·exact h.elim
 mono:=by
  intro args s K K' k h
  split at h
  ·obtain⟨x,hx,hk⟩:=h
   exact⟨x,hx,k _ _ hk⟩
  ·exact h.elim
theorem zQy {α β:Type}{dec:List Value→Option α}{f:α→Option β}{enc:β→Value}{args:List Value}{a:α}{b:β}(h1:dec args=some a)(h2:f a=some b)(s:St):(Con.opt dec f enc).own args s=some (enc b,s):=by
 simp only[Con.opt,zCz,h1,h2]
theorem zA0 {W:World}{G:Nat}{l:List (Nat×Con)}{h:Heap}{f:FuncId}{fn:Func}{c:Code}{α β:Type}{dec:List Value→Option α}{F:α→Option β}{zEe:β→Value}(enc:α→List Value)
  (L:Laying G W h) (hGW:G≤W.heap.size) (hG64:G≤64)
  (hm:P.follows .mixedOrders=true) (hl:OwnsAll P W G (zZ2 l)) (hf:P.funcs[f]?=some fn) (hb:fn.body=some c) (hok:zEb G fn=true)
  (hdec:∀ args a,dec args=some a→args=enc a) (hflat:∀ a,zCo (enc a)=true∧Nat.ble (enc a).length fn.ntmps=true) (hres:∀ b,flat (zEe b)=true)
  (hF:∀ a b,F a=some b→zAo P (cwC l) c (zAg (enc a) 8) (zAh h 64) (zA2 P fn fun v' _=>v'=zEe b)):zAk P W G f (Con.opt dec F zEe).own:=by
 refine zWz L hGW hG64 hm hl (zAq l) hf hb hok fun args v hv=>?_
 split at hv
 case h_2=>cases hv
 rename_i a ha
 split at hv
 case h_2=>cases hv
 rename_i b hd
 cases hv
 obtain rfl:=hdec _ _ ha
 exact⟨(hflat a).1,hres b,(hflat a).2,hF a b hd⟩
end Go.Det
section
namespace Go.Det
variable {P:Program}
abbrev OpX:=Oper→zAv→St→KV→Prop
abbrev LpX:=zAv→St→KC→Prop
def yY4 (o:Oper):Nat:=match o.dst with|some d=>d|none=>1000000
def opX (P:Program)(cw:Cw)(ox:Nat→Option OpX)(o:Oper)(l:zAv)(s:St)(K:KV):Prop:=
 match ox (yY4 o) with
 |some X=>X o l s K
 |none=>opW P cw o l s K
def yT3 (P:Program)(cw:Cw)(ox:Nat→Option OpX)(all:List Oper):List Oper→zAv→St→KT→Prop
 |[],l,s,K=>K l s
 |o::rest,l,s,K=>zQv all l o (fun l=>opX P cw ox o l s fun v s=>yT3 P cw ox all rest (zJx l o.dst v) s K) (fun l=>yT3 P cw ox all rest (zJx l o.dst skp) s K)
def yBp (P:Program)(cw:Cw)(ox:Nat→Option OpX)(all:List Oper):List Oper→List zDz→zAv→St→KT→Prop
 |[],_,l,s,K=>K l s
 |o::rest,done,l,s,K=>match zF7 done.length o.after.toList with
  |true=>zQv all l o
   (fun l=>opX P cw ox o l (solo s) fun v x=>match zF8 (zDl all o done x.rd x.wr) 0 done with
    |true=>yBp P cw ox all rest (done++[zDl all o done x.rd x.wr]) (zJx l o.dst v) (zSw s x) K
    |false=>False)
   (fun l=>match zF8 (zDl all o done 0 0) 0 done with
    |true=>yBp P cw ox all rest (done++[zDl all o done 0 0]) (zJx l o.dst skp) (zSw s (solo s)) K
    |false=>False)
  |false=>False
def zJt:Code→Nat
 |.region id _ _=>id
 |.seq a _=>zJt a
 |.cond _ a _=>zJt a
 |.block _ a=>zJt a
 |.loop a=>zJt a
 |_=>1000000
def zB8 (P:Program)(cw:Cw)(ox:Nat→Option OpX)(lx:Nat→Option LpX):Code→zAv→St→KC→Prop
 |.skip,l,s,K=>K .normal l s
 |.region _ ops draw,l,s,K=>(match draw with
  |true=>yBp P cw ox ops.toList ops.toList [] l s (K .normal)
  |false=>yT3 P cw ox ops.toList ops.toList l s (K .normal))
 |.seq a b,l,s,K=>zB8 P cw ox lx a l s fun e l s=>match e with|.normal=>zB8 P cw ox lx b l s K|.exit i=>K (.exit i) l s|.ret=>K .ret l s
 |.cond c a b,l,s,K=>(match evalO l c with
  |.bool t=>zAd t (zB8 P cw ox lx a (yBk l c true) s K) (zB8 P cw ox lx b (yBk l c false) s K)
  |_=>False)
 |.block id a,l,s,K=>zB8 P cw ox lx a l s fun e l s=>match e with
  |.exit i=>(match Nat.beq i id with|true=>K .normal l s|false=>K (.exit i) l s)
  |.normal=>K .normal l s
  |.ret=>K .ret l s
 |.loop a,l,s,K=>(match lx (zJt a) with|some X=>X l s K|none=>False)
 |.exit i,l,s,K=>K (.exit i) l s
 |.ret,l,s,K=>K .ret l s
 |_,_,_,_=>False
def zBb:Code→List Code
 |.seq a b=>zBb a++zBb b
 |.cond _ a b=>zBb a++zBb b
 |.block _ a=>zBb a
 |.loop a=>[a]
 |_=>[]
def zVb (P:Program)(cw:Cw)(ox:Nat→Option OpX):Prop:=∀ n X,ox n=some X→∀ o l s K,X o l s K→opW P cw o l s K
def zZe (P:Program)(cw:Cw)(lx:Nat→Option LpX)(l:List Code):Prop:=∀ a∈l,∀ X,lx (zJt a)=some X→∀ l s K,X l s K→zAo P cw (.loop a) l s K
section
variable {cw:Cw} {ox:Nat→Option OpX} {lx:Nat→Option LpX}
theorem yBq (ho:zVb P cw ox){o:Oper}{l:zAv}{s:St}{K:KV}(h:opX P cw ox o l s K):opW P cw o l s K:=by
 unfold opX at h
 split at h
 ·rename_i X e;exact ho _ _ e _ _ _ _ h
 ·exact h
theorem zM7 (hm:zDs cw)(ho:zVb P cw ox){all:List Oper}:∀ {ops:List Oper} {l:zAv} {s:St} {K:KT},yT3 P cw ox all ops l s K→yGy P cw all ops l s K
 |[],_,_,_,h=>h
 |_::_,_,_,_,h=>zEk (fun _ h=>zHs hm (fun _ _ h=>zM7 hm ho h) (yBq ho h)) (fun _ h=>zM7 hm ho h) h
theorem zIg (hm:zDs cw)(ho:zVb P cw ox){all:List Oper}:∀ {ops:List Oper} {done:List zDz} {l:zAv} {s:St} {K:KT},yBp P cw ox all ops done l s K→zJ6 P cw all ops done l s K
 |[],_,_,_,_,h=>h
 |o::rest,done,l,s,K,h=>by
  unfold yBp at h
  unfold zJ6
  split at h
  ·rename_i he
   try simp only[he]
   refine zEk (fun l h=>?_) (fun l h=>?_) h
   ·refine zHs hm (fun v x h=>?_) (yBq ho h)
    split at h
    ·rename_i hc;(try simp only[hc]);exact zIg hm ho h
    ·exact h.elim
   ·split at h
    ·rename_i hc;(try simp only[hc]);exact zIg hm ho h
    ·exact h.elim
  ·exact h.elim
theorem zAr (hm:zDs cw)(ho:zVb P cw ox):∀ (c:Code) {l:zAv} {s:St} {K:KC},zZe P cw lx (zBb c)→zB8 P cw ox lx c l s K→zAo P cw c l s K
 |.skip,_,_,_,_,h=>h
 |.region _ ops draw,_,_,_,_,h=>by
  cases draw with
  |true=>exact zIg hm ho h
  |false=>exact zM7 hm ho h
 |.seq a b,_,_,_,hl,h=>by
  have h1:=zAr hm ho a (fun x hx=>hl x (List.mem_append_left _ hx)) h
  refine zA1 hm a (fun e l s q=>?_) h1
  cases e with
  |normal=>exact zAr hm ho b (fun x hx=>hl x (List.mem_append_right _ hx)) q
  |exit i=>exact q
  |ret=>exact q
 |.cond c a b,l,s,K,hl,h=>by
  unfold zB8 at h
  unfold zAo
  split at h
  ·rename_i hc
   try simp only[hc]
   exact zFt (zAr hm ho a (fun x hx=>hl x (List.mem_append_left _ hx))) (zAr hm ho b (fun x hx=>hl x (List.mem_append_right _ hx))) h
  ·exact h.elim
 |.block id a,_,_,_,hl,h=>zAr hm ho a hl h
 |.loop a,l,s,K,hl,h=>by
  unfold zB8 at h
  split at h
  ·rename_i X e;exact hl a (xHs.2 rfl) X e l s K h
  ·exact h.elim
 |.exit i,_,_,_,_,h=>h
 |.ret,_,_,_,_,h=>h
end
inductive Star {V:Type} (R:V→V→Prop):V→V→Prop
 |refl (v:V):Star R v v
 |step {a b c:V}:R a b→Star R b c→Star R a c
theorem zEu {cw:Cw}(hm:zDs cw){a:Code}{V:Type}(L:V→zAv)(S:V→St){Step:V→V→Prop}
  (hstep:∀ v v1,Step v v1→zAo P cw a (L v) (S v) (zCi (fun l s=>zDf l s (L v1) (S v1)) (fun _ _ _=>False)))
  {v v':V} (hs:Star Step v v') {K:KC}:∀ {l:zAv} {s:St},zDf l s (L v) (S v)→zAo P cw a (L v') (S v') (zCi (fun _ _=>False) K)→zAo P cw (.loop a) l s K:=by
 induction hs with
 |refl v=>
  intro l s hw hend
  exact zHt hw (zD5 hm (zA1 hm a (zBq (fun _ _ h=>h.elim) (fun _ _ _ h=>h)) hend))
 |@step x y z h1 h2 ih=>
  intro l s hw hend
  exact zHt hw (zD5 hm (zA1 hm a (zBq (fun _ _ q=>ih q hend) (fun _ _ _ h=>h.elim)) (hstep x y h1)))
abbrev zK4:=List (Nat×Value)
abbrev zZf:=List (Nat×List Value×TypeId×Bool)
def zBo:zK4→zAv
 |[]=>[]
 |x::t=>zZz (zBo t) x.1 x.2
def zPi:zZf→Heap
 |[]=>[]
 |x::t=>(zPi t).set x.1 (.cells x.2.1 x.2.2.1 x.2.2.2)
def zDr (b:zZf)(N:Nat):St:={ h:=zPi b,next:=N,hi:=N,rd:=0,wr:=0 }
def eqL:List Value→List Value→Prop
 |[],[]=>True
 |x::s,y::t=>x=y∧eqL s t
 |_,_=>False
theorem yJe:∀ {a b:List Value},eqL a b→a=b
 |[],[],_=>rfl
 |x::s,y::t,h=>by rw[h.1,yJe h.2]
 |[],_::_,h=>h.elim
 |_::_,[],h=>h.elim
def zI9 (l:zAv):zK4→Prop
 |[]=>True
 |x::t=>zD7 l x.1=x.2∧zI9 l t
def zPj (s:St)(id:Nat)(cs:List Value)(e:TypeId)(ro:Bool):Prop:=match s.h.get id with
 |some (.cells cs' e' ro')=>eqL cs' cs∧(e'=e∧ro'=ro)
 |_=>False
def yG1 (s:St)(id:Nat)(cs:List Value)(e:TypeId)(ro:Bool):Prop:=match s.h.get id with
 |some (.cells cs' e' ro')=>cs'=cs∧(e'=e∧ro'=ro)
 |_=>False
theorem zBu {s:St}{id:Nat}{cs:List Value}{e:TypeId}{ro:Bool}(h:zPj s id cs e ro):s.h.get id=some (.cells cs e ro):=by
 unfold zPj at h
 split at h
 ·rename_i cs' e' ro' hg;obtain⟨h1,rfl,rfl⟩:=h;rw[hg,yJe h1]
 ·exact h.elim
theorem zGi {s:St}{id:Nat}{cs:List Value}{e:TypeId}{ro:Bool}(h:yG1 s id cs e ro):s.h.get id=some (.cells cs e ro):=by
 unfold yG1 at h
 split at h
 ·rename_i cs' e' ro' hg;obtain⟨rfl,rfl,rfl⟩:=h;exact hg
 ·exact h.elim
def yKy (s:St):zZf→Prop
 |[]=>True
 |x::t=>s.h.get x.1=some (.cells x.2.1 x.2.2.1 x.2.2.2)∧yKy s t
def yG2 (N:Nat)(v:Value):Bool:=match v with
 |.pointer (some ⟨i,_,none⟩)=>decide (64≤i∧i < N)
 |.slice (some ⟨i,_,none⟩) _ _=>decide (64≤i∧i < N)
 |v=>flat v
def yKz (N:Nat)(l:List Value):Bool:=l.all (yG2 N)
def zTc (N:Nat):Nat→Option Nat:=fun id=>if 64≤id∧id < N then some id else none
theorem Wk.good {N:Nat}{v:Value}(h:yG2 N v=true):Wk (zTc N) v v:=by
 unfold yG2 at h
 split at h
 ·rename_i i off
  have h:=xGt h
  exact Wk.ptr h.1 (by unfold zTc;rw[xGq h])
 ·rename_i i off n c
  have h:=xGt h
  exact Wk.slice h.1 (by unfold zTc;rw[xGq h])
 ·exact Wk.flat h
theorem zM8:∀ (sl:zK4) (t:Nat),zD7 (zBo sl) t=und∨∃ x∈sl,x.1=t∧zD7 (zBo sl) t=x.2
 |[],t=>.inl (zLh t)
 |x::r,t=>by
  unfold zBo
  rw[zF9]
  by_cases e:t=x.1
  ·rw[xGq e];exact .inr ⟨x,xH1,e.symm,rfl⟩
  ·rw[xGr e]
   rcases zM8 r t with h|⟨y,h1,h2,h3⟩
   ·exact .inl h
   ·exact .inr ⟨y,xIg _ h1,h2,h3⟩
theorem zCn:∀ (b:zZf) (id:Nat) (B:Blk),(zPi b).get id=some B→∃ x∈b,x.1=id∧B=.cells x.2.1 x.2.2.1 x.2.2.2
 |[],id,B,h=>by
  exfalso
  have:Heap.get ([]:Heap) id=none:=by
   unfold Heap.get Tab.get
   cases hd:Nat.div id 8<;>cases hm:Nat.mod id 8<;>rfl
  unfold zPi at h
  rw[this] at h;cases h
 |x::r,id,B,h=>by
  unfold zPi at h
  rw[Heap.get_set] at h
  by_cases e:id=x.1
  ·rw[xGq e] at h;cases h;exact⟨x,xH1,e.symm,rfl⟩
  ·rw[xGr e] at h
   obtain⟨y,h1,h2,h3⟩:=zCn r id B h
   exact⟨y,xIg _ h1,h2,h3⟩
theorem zPk {l:zAv}:∀ {sl:zK4},zI9 l sl→∀ x∈sl,zD7 l x.1=x.2
 |[],_,x,hx=>by cases hx
 |y::r,h,x,hx=>by
  rcases xG6.1 hx with rfl|hx
  ·exact h.1
  ·exact zPk h.2 x hx
theorem zTd {s:St}:∀ {b:zZf},yKy s b→∀ x∈b,s.h.get x.1=some (.cells x.2.1 x.2.2.1 x.2.2.2)
 |[],_,x,hx=>by cases hx
 |y::r,h,x,hx=>by
  rcases xG6.1 hx with rfl|hx
  ·exact h.1
  ·exact zTd h.2 x hx
theorem zEv {sl:zK4}{b:zZf}{N:Nat}{l:zAv}{s:St}(h64:64≤N)(hg:∀ x∈sl,yG2 N x.2=true)(hb:∀ x∈b,(64≤x.1∧x.1 < N)∧yKz N x.2.1=true)
  (h1:zI9 l sl) (h2:yKy s b):zDf l s (zBo sl) (zDr b N):=by
 refine zTb (zTc N) (fun t=>?_) (fun id cs e ro q g=>?_) (fun id cs e ro q g=>?_) (fun i j o hi hj=>?_) (fun i o hi=>?_) (fun id es g=>?_) (fun id q=>⟨?_,?_⟩) h64 (xGv _)
 ·rcases zM8 sl t with e|⟨x,hx,rfl,e⟩
  ·rw[e];exact Wk.und _ _
  ·rw[e,zPk h1 x hx];exact Wk.good (hg x hx)
 ·obtain⟨x,hx,rfl,e⟩:=zCn b id _ g
  have:=(hb x hx).1.1;omega
 ·obtain⟨x,hx,rfl,e⟩:=zCn b id _ g
  cases e
  refine⟨x.1,x.2.1,by unfold zTc;rw[xGq (hb x hx).1],zTd h2 x hx,rfl,fun i=>?_⟩
  rcases xHr i x.2.1.length with c|c
  ·have:=List.all_eq_true.1 (hb x hx).2 (x.2.1.getD i und) (by rw[xGw,xGz c];exact xH3 c)
   exact Wk.good this
  ·rw[xGw,xHy c];exact Wk.und _ _
 ·unfold zTc at hi hj
  split at hi
  ·split at hj
   ·cases hi;cases hj;rfl
   ·cases hj
  ·cases hi
 ·unfold zTc at hi
  split at hi
  ·rename_i c;cases hi;exact c.1
  ·cases hi
 ·obtain⟨x,hx,rfl,e⟩:=zCn b id _ g
  cases e
 ·unfold zTc;rw[xGr (by simp only[zDr] at q;omega)]
 ·cases hc:(zDr b N).h.get id with
  |none=>rfl
  |some B=>
   obtain⟨x,hx,rfl,e⟩:=zCn b id _ hc
   have:=(hb x hx).1.2
   simp only[zDr] at q
   omega
def yT4 {α:Type}(enc:α→List Value)(ty:TypeId)(n:Nat):OpX:=fun o l s K=>match o.op with
 |.load t a=>(match evalO l a with
  |.pointer (some ⟨id,off,none⟩)=>(match s.h.get id with
   |some (.cells cs _ _)=>t=ty∧∃ r:List α,cs=r.flatMap enc∧∃ i:Nat,off=i * n∧∃ x:α,r[i]?=some x∧K (.agg (enc x).toArray) (s.read id)
   |_=>False)
  |_=>False)
 |_=>False
theorem zKp {α:Type}{enc:α→List Value}{n:Nat}(hn:∀ x,(enc x).length=n):∀ (r:List α) (i:Nat) (x:α),r[i]?=some x→(r.flatMap enc).drop (i * n)=enc x++(r.drop (i+1)).flatMap enc∧i * n+n≤(r.flatMap enc).length
 |[],i,x,h=>by simp at h
 |y::t,0,x,h=>by
  simp at h;subst h
  simp[hn]
 |y::t,i+1,x,h=>by
  have h':t[i]?=some x:=by simpa using h
  obtain⟨a,b⟩:=zKp hn t i x h'
  refine⟨?_,?_⟩
  ·rw[List.flatMap_cons,Nat.succ_mul,Nat.add_comm,List.drop_append,xHj (by rw[hn];omega),hn,xH4,show n+i * n - n=i * n by omega]
   exact a
  ·rw[List.flatMap_cons,xG8,hn,Nat.succ_mul];omega
theorem yBr {cw:Cw}{α:Type}{enc:α→List Value}{ty:TypeId}{n:Nat}(hn:∀ x,(enc x).length=n+1)(h1:zG1 P ty=some true)(h2:zGz P ty=some (n+1)){o:Oper}{l:zAv}{s:St}{K:KV}
  (h:yT4 enc ty (n+1) o l s K):opW P cw o l s K:=by
 unfold yT4 at h
 split at h
 case h_2=>exact h.elim
 rename_i t a ho
 split at h
 case h_2=>exact h.elim
 rename_i id off hp
 split at h
 case h_2=>exact h.elim
 rename_i cs e ro hg
 obtain⟨rfl,r,rfl,i,rfl,x,hx,hK⟩:=h
 unfold opW
 rw[ho]
 simp only[hp]
 unfold zS8
 simp only[hg,h1,h2]
 obtain⟨d1,d2⟩:=zKp hn r i x hx
 refine zIf (by omega) ?_
 rw[d1]
 refine zGh (by rw[xG8,hn];omega) ?_
 rw[xIw (by rw[hn];exact xGv _),xIu (by rw[hn];exact xGv _)]
 exact hK
end Go.Det
end
namespace Go.Det
variable {P:Program}
theorem bifW_c {p:Prop}{A B:Prop}(h1:p→A)(h2:¬ p→B):zAd (zAf p) A B:=zFs (fun h=>h1 (zBy.1 h)) (fun h=>h2 (zCm.1 h))
theorem bifW_b {b:Bool}{A B:Prop}(h1:b=true→A)(h2:¬ b=true→B):zAd b A B:=zFs h1 (fun h=>h2 (by rw[h];decide))
theorem bifW_n {b:Bool}{A B:Prop}(h1:b=true→B)(h2:¬ b=true→A):zAd (!b) A B:=by cases b;exact h2 (by decide);exact h1 rfl
theorem zW0 {p:Prop}{A B:Prop}(h:p)(k:A):zAd (zAf p) A B:=bifW_c (fun _=>k) (fun q=>absurd h q)
theorem zBh {p:Prop}{A B:Prop}(h:¬ p)(k:B):zAd (zAf p) A B:=bifW_c (fun q=>absurd q h) (fun _=>k)
def yT5 (P:Program)(cw:Cw)(ox:Nat→Option OpX)(lx:Nat→Option LpX)(a:Code):Nat→LpX
 |0=>fun _ _ _=>False
 |n+1=>fun l s K=>zB8 P cw ox lx a l s (zCi (fun l s=>yT5 P cw ox lx a n l s K) K)
theorem zTe {cw:Cw}{ox:Nat→Option OpX}{lx:Nat→Option LpX}(hm:zDs cw)(ho:zVb P cw ox){a:Code}(hl:zZe P cw lx (zBb a)):∀ (n:Nat) {l:zAv} {s:St} {K:KC},yT5 P cw ox lx a n l s K→zAo P cw (.loop a) l s K
 |0,_,_,_,h=>h.elim
 |n+1,l,s,K,h=>zD5 hm (zA1 hm a (zBq (fun _ _ q=>zTe hm ho hl n q) fun _ _ _ q=>q) (zAr hm ho a hl h))
def ox0 (_:Nat):Option OpX:=none
theorem zFd {cw:Cw}:zVb P cw ox0:=fun _ _ h=>by cases h
def lxN (_:Nat):Option LpX:=none
theorem yRl {cw:Cw}(l:List Code):zZe P cw lxN l:=fun _ _ _ h=>by cases h
def lxU (P:Program)(cw:Cw)(ox:Nat→Option OpX)(ls:List Code)(n:Nat)(i:Nat):Option LpX:=match ls with
 |[]=>none
 |a::t=>match Nat.beq (zJt a) i with
  |true=>some (yT5 P cw ox lxN a n)
  |false=>lxU P cw ox t n i
def zTf:List Code→Bool
 |[]=>true
 |a::t=>(t.all fun b=>!Nat.beq (zJt a) (zJt b))&&zTf t
theorem yBs {cw:Cw}{ox:Nat→Option OpX}{n:Nat}:∀ {ls:List Code},zTf ls=true→∀ a∈ls,lxU P cw ox ls n (zJt a)=some (yT5 P cw ox lxN a n)
 |[],_,a,ha=>by cases ha
 |b::t,h,a,ha=>by
  unfold zTf at h
  rw[xG0] at h
  unfold lxU
  rcases xG6.1 ha with rfl|ha
  ·have:Nat.beq (zJt a) (zJt a)=true:=Nat.beq_refl _
   simp only[this]
  ·have:=List.all_eq_true.1 h.1 a ha
   have:Nat.beq (zJt b) (zJt a)=false:=by cases hq:Nat.beq (zJt b) (zJt a)<;>simp_all
   simp only[this]
   exact yBs h.2 a ha
theorem yBt {cw:Cw}{ox:Nat→Option OpX}(hm:zDs cw)(ho:zVb P cw ox){ls:List Code}(n:Nat)(hs:zTf ls=true):zZe P cw (lxU P cw ox ls n) ls:=by
 intro a ha X hX l s K h
 rw[yBs hs a ha] at hX
 cases hX
 exact zTe hm ho (yRl _) n h
def zBj (P:Program)(cw:Cw)(ox:Nat→Option OpX)(n:Nat)(c:Code):zAv→St→KC→Prop:=zB8 P cw ox (lxU P cw ox (zBb c) n) c
theorem zAs {cw:Cw}{ox:Nat→Option OpX}(hm:zDs cw)(ho:zVb P cw ox){n:Nat}{c:Code}(hs:zTf (zBb c)=true){l:zAv}{s:St}{K:KC}(h:zBj P cw ox n c l s K):zAo P cw c l s K:=
 zAr hm ho c (yBt hm ho n hs) h
def yUt:OpX:=fun o l s K=>match o.op with
 |.binOp op _ x y _=>(match evalO l x,evalO l y with
  |.int k m,.int k' n=>zGt k k'=true∧(match op with
   |.eql=>K (.bool (decide (m=n))) s
   |.neq=>K (.bool (decide (m≠n))) s
   |.lss=>K (.bool (decide (m < n))) s
   |.leq=>K (.bool (decide (m≤n))) s
   |.gtr=>K (.bool (decide (n < m))) s
   |.geq=>K (.bool (decide (n≤m))) s
   |_=>False)
  |_,_=>False)
 |_=>False
theorem yK0 {cw:Cw}{o:Oper}{l:zAv}{s:St}{K:KV}(h:yUt o l s K):opW P cw o l s K:=by
 unfold yUt at h
 split at h
 case h_2=>exact h.elim
 rename_i op t x y q ho
 split at h
 case h_2=>exact h.elim
 rename_i k m k' n h1 h2
 obtain⟨hk,h⟩:=h
 unfold opW
 rw[ho]
 simp only[h1,h2]
 unfold yJb
 simp only[zAz] at h
 split at h
 case h_7=>exact h.elim
 all_goals (simp only[hk];exact h)
def oxE (ds:List Nat)(n:Nat):Option OpX:=match ds with
 |[]=>none
 |d::t=>match Nat.beq d n with|true=>some yUt|false=>oxE t n
theorem zEc {cw:Cw}:∀ (ds:List Nat),zVb P cw (oxE ds)
 |[],_,_,h=>by cases h
 |d::t,n,X,h=>by
  unfold oxE at h
  split at h
  ·cases h;exact fun o l s K=>yK0
  ·exact zEc t n X h
end Go.Det
section
namespace Go.Det
variable {P:Program}
def Con.or (c d:Con)(h:d.own=c.own):Con where
 own:=c.own
 w:=fun args s K=>c.w args s K∨d.w args s K
 ok:=by
  intro args s K q
  rcases q with q|q
  ·obtain⟨v,s',h1,h2,h3⟩:=c.ok args s K q
   exact⟨v,s',h1,h2,fun K' k=>.inl (h3 K' k)⟩
  ·obtain⟨v,s',h1,h2,h3⟩:=d.ok args s K q
   exact⟨v,s',h ▸ h1,h2,fun K' k=>.inr (h3 K' k)⟩
 mono:=fun args s K K' k q=>q.imp (c.mono args s K K' k) (d.mono args s K K' k)
section
variable {cw cw':Cw}
theorem yJf (k:∀ g args s K,cw g args s K→cw' g args s K){o:Oper}{l:zAv}{s:St}{K:KV}(h:opW P cw o l s K):opW P cw' o l s K:=by
 unfold opW at h ⊢
 split at h
 ·exact h
 ·exact h
 ·exact h
 ·exact h
 ·exact h
 ·exact h
 ·split at h
  ·split at h
   ·exact k _ _ _ _ h
   ·exact h.elim
  ·exact h
  ·exact h.elim
 ·exact h
theorem zVc (k:∀ g args s K,cw g args s K→cw' g args s K){all:List Oper}:∀ {ops:List Oper} {l:zAv} {s:St} {K:KT},zDs cw→yGy P cw all ops l s K→yGy P cw' all ops l s K
 |[],_,_,_,_,h=>h
 |_::_,_,_,_,hm,h=>zEk (fun _ h=>yJf k (zHs hm (fun _ _ h=>zVc k hm h) h)) (fun _ h=>zVc k hm h) h
theorem zQz (k:∀ g args s K,cw g args s K→cw' g args s K)(hm:zDs cw){all:List Oper}:∀ {ops:List Oper} {done:List zDz} {l:zAv} {s:St} {K:KT},zJ6 P cw all ops done l s K→zJ6 P cw' all ops done l s K
 |[],_,_,_,_,h=>h
 |o::rest,done,l,s,K,h=>by
  unfold zJ6 at h ⊢
  split at h
  ·rename_i he
   try simp only[he]
   refine zEk (fun l h=>?_) (fun l h=>?_) h
   ·refine yJf k (zHs hm (fun v x h=>?_) h)
    split at h
    ·rename_i hc;(try simp only[hc]);exact zQz k hm h
    ·exact h.elim
   ·split at h
    ·rename_i hc;(try simp only[hc]);exact zQz k hm h
    ·exact h.elim
  ·exact h.elim
theorem zFe (k:∀ g args s K,cw g args s K→cw' g args s K)(hm:zDs cw)(hm':zDs cw'):∀ (c:Code) {l:zAv} {s:St} {K:KC},zAo P cw c l s K→zAo P cw' c l s K
 |.skip,_,_,_,h=>h
 |.region _ ops draw,_,_,_,h=>by
  cases draw with
  |true=>exact zQz k hm h
  |false=>exact zVc k hm h
 |.seq a b,_,_,_,h=>by
  refine zA1 hm' a (fun e l s q=>?_) (zFe k hm hm' a h)
  cases e with
  |normal=>exact zFe k hm hm' b q
  |exit i=>exact q
  |ret=>exact q
 |.cond c a b,l,s,K,h=>by
  unfold zAo at h ⊢
  split at h
  ·rename_i hc
   try simp only[hc]
   exact zFt (zFe k hm hm' a) (zFe k hm hm' b) h
  ·exact h.elim
 |.block id a,_,_,_,h=>zFe k hm hm' a h
 |.loop a,l,s,K,h=>fun R h1 h2=>h R (fun l s q=>h1 l s (zFe k hm hm' a q)) h2
 |.exit i,_,_,_,h=>h
 |.ret,_,_,_,h=>h
 |.rangeFunc ..,_,_,_,h=>h.elim
 |.scope ..,_,_,_,h=>h.elim
 |.label ..,_,_,_,h=>h.elim
 |.goto ..,_,_,_,h=>h.elim
 |.refuse ..,_,_,_,h=>h.elim
end
end Go.Det
end
namespace Go.Det
variable {P:Program}
def yT6 (c:Nat):Nat→List UInt8→Option Nat
 |_,[]=>none
 |i,x::t=>match Nat.beq x.toNat c with|true=>some i|false=>yT6 c (i+1) t
def yQ0 (c:Nat):Nat→List UInt8→Nat
 |n,[]=>n
 |n,x::t=>match Nat.beq x.toNat c with|true=>yQ0 c (n+1) t|false=>yQ0 c n t
def yBu:List UInt8→List UInt8→Bool
 |[],_=>true
 |_::_,[]=>false
 |a::s,b::t=>match Nat.beq a.toNat b.toNat with|true=>yBu s t|false=>false
def yQ1 (p:List UInt8):Nat→List UInt8→Option Nat
 |i,[]=>match p with|[]=>some i|_::_=>none
 |i,x::t=>match yBu p (x::t) with|true=>some i|false=>yQ1 p (i+1) t
def zQ0:Option Nat→Value
 |some i=>.int .i64 (i:Nat)
 |none=>.int .i64 (-1)
theorem yBv (x c:UInt8):Nat.beq x.toNat c.toNat=(x==c):=by
 cases h:(x==c) with
 |true=>have:=eq_of_beq h;subst this;exact Nat.beq_refl _
 |false=>
  cases hb:Nat.beq x.toNat c.toNat with
  |false=>rfl
  |true=>have:=UInt8.toNat_inj.1 (xG3 hb);subst this;simp at h
theorem yBw (c:UInt8):∀ (i:Nat) (l:List UInt8),zQ0 (yT6 c.toNat i l)=.int .i64 (if Lib.indexByte l c==-1 then -1 else Lib.indexByte l c+i)
 |i,[]=>rfl
 |i,x::t=>by
  rw[yT6,yBv]
  unfold Lib.indexByte
  cases h:(x==c) with
  |true=>simp[zQ0]
  |false=>
   rw[yBw c (i+1) t]
   have:=Lib.indexByte_ge t c
   by_cases e:Lib.indexByte t c=-1
   ·simp[e]
   ·have h1:(Lib.indexByte t c==-1)=false:=by simpa using e
    have h2:¬ (Lib.indexByte t c+1=-1):=by omega
    simp[h1,h2]
    omega
theorem zVd (c:UInt8):∀ (n:Nat) (l:List UInt8),yQ0 c.toNat n l=n+l.count c
 |n,[]=>by simp[yQ0]
 |n,x::t=>by
  rw[yQ0,yBv,List.count_cons]
  cases h:(x==c) with
  |true=>simp only[zVd c (n+1) t];simp;omega
  |false=>simp only[zVd c n t];simp
theorem yBx:∀ (p l:List UInt8),yBu p l=p.isPrefixOf l
 |[],l=>by simp[yBu]
 |a::s,[]=>by simp[yBu]
 |a::s,b::t=>by
  rw[yBu,yBv,List.isPrefixOf,yBx s t]
  cases (a==b)<;>rfl
theorem yBy (p:List UInt8):∀ (i:Nat) (l:List UInt8),zQ0 (yQ1 p i l)=.int .i64 (if Lib.index l p==-1 then -1 else Lib.index l p+i)
 |i,[]=>by
  cases p with
  |nil=>simp[yQ1,Lib.index,zQ0]
  |cons a s=>simp[yQ1,Lib.index,zQ0]
 |i,x::t=>by
  rw[yQ1,yBx]
  unfold Lib.index
  cases h:p.isPrefixOf (x::t) with
  |true=>simp[zQ0]
  |false=>
   rw[yBy p (i+1) t]
   have:=Lib.index_ge t p
   by_cases e:Lib.index t p=-1
   ·simp[e]
   ·have h1:(Lib.index t p==-1)=false:=by simpa using e
    have h2:¬ (Lib.index t p+1=-1):=by omega
    simp[h1,h2]
    omega
def zHu:List Value→Option Value
 |[.string b,.int .u8 c]=>some (zQ0 (yT6 (c.toNat % 256) 0 b.data.toList))
 |_=>none
def zHv:List Value→Option Value
 |[.string b,.int .u8 c]=>some (.int .i64 (yQ0 (c.toNat % 256) 0 b.data.toList:Nat))
 |_=>none
def zW1:List Value→Option Value
 |[.string b,.string c]=>match Nat.ble (b.size+1) 4294967281 with|true=>some (zQ0 (yQ1 c.data.toList 0 b.data.toList))|false=>none
 |_=>none
theorem zZg (r:Option Nat):flat (zQ0 r)=true:=by cases r<;>rfl
theorem zM9 (n:Nat):n.toUInt8.toNat=n % 256:=by simp
theorem zTg {w0:World}{G:Nat}{f:FuncId}(he:Entry P f Extern.BytealgIndexByte.indexByte):zGy P w0 G f (zCz zHu):=by
 refine zQt fun args v h=>?_
 unfold zHu at h
 split at h
 case h_2=>cases h
 rename_i b c
 cases h
 refine⟨rfl,zZg _,fun w=>?_⟩
 rw[he]
 have key:=Lib.run_indexByteString (P:=P) b c w
 have e:=yBw c.toNat.toUInt8 0 b.data.toList
 rw[zM9] at e
 have e2:(if Lib.indexByte b.data.toList c.toNat.toUInt8==-1 then -1 else Lib.indexByte b.data.toList c.toNat.toUInt8+((0:Nat):Int))=Lib.indexByte b.data.toList c.toNat.toUInt8:=by
  split
  ·rename_i q;exact(eq_of_beq q).symm
  ·simp
 rw[e2] at e
 rw[e]
 exact congrArg (fun r:Result Value=>Result.andThen r fun v w'=>Result.ok (Next.value v) w') key
theorem zTh {w0:World}{G:Nat}{f:FuncId}(he:Entry P f Extern.BytealgCount.count):zGy P w0 G f (zCz zHv):=by
 refine zQt fun args v h=>?_
 unfold zHv at h
 split at h
 case h_2=>cases h
 rename_i b c
 cases h
 refine⟨rfl,rfl,fun w=>?_⟩
 rw[he]
 have key:=Lib.run_countString (P:=P) b c w
 have e:=zVd c.toNat.toUInt8 0 b.data.toList
 rw[zM9,xIz] at e
 rw[e]
 exact congrArg (fun r:Result Value=>Result.andThen r fun v w'=>Result.ok (Next.value v) w') key
theorem yG3 {w0:World}{G:Nat}{f:FuncId}(he:∀ (args:Array Value) (w:World),(callFunc f args).run P w=.ok (.enter f args) w){g:Nat}(hold:g < w0.heap.size)
  (hc:∀ (s sub:ByteArray) (w:World),w.heap[g]?=w0.heap[g]?→s.size < 4294967281→
   Calls P f #[.string s,.string sub] w fun e w'=>e=.returned (.int .i64 (Lib.index s.data.toList sub.data.toList))∧w'=w):zGy P w0 G f (zCz zW1):=by
 intro args s v s' e φ w args' H _ hA _ _
 unfold zCz zW1 at e
 split at e
 case h_2=>cases e
 rename_i r hr
 cases e
 split at hr
 case h_2=>cases hr
 rename_i b c
 split at hr
 case h_2=>cases hr
 rename_i hs
 have hs:=xHg hs
 cases hr
 have ha:zCo [Value.string b,Value.string c]=true:=rfl
 rw[zB5 ha hA,he]
 refine(hc b c w (H.old g hold) hs).mono ?_
 rintro e w' ⟨rfl,rfl⟩
 have e:=yBy c.data.toList 0 b.data.toList
 have e2:(if Lib.index b.data.toList c.data.toList==-1 then -1 else Lib.index b.data.toList c.data.toList+((0:Nat):Int))=Lib.index b.data.toList c.data.toList:=by
  split
  ·rename_i q;exact(eq_of_beq q).symm
  ·simp
 rw[e2] at e
 exact⟨_,φ,rfl,Ext.refl _ _ _,by rw[e];exact .int _ _,H⟩
def yBz:Own:=fun args s=>match args with|[x]=>some (x,s)|_=>none
theorem yG4:yBh yBz:=fun args=>by
 match args with
 |[]=>exact zA4 fun _=>rfl
 |[x]=>exact zBe (some x) fun _=>rfl
 |_::_::_=>exact zA4 fun _=>rfl
theorem yK1 {w0:World}{G:Nat}{f:FuncId}(he:Entry P f Extern.AbiNoEscape.same):zGy P w0 G f yBz:=by
 intro args s v s' e φ w args' H _ hA _ _
 unfold yBz at e
 split at e
 case h_2=>cases e
 cases e
 obtain⟨v',t',rfl,hv,ht⟩:=hA.head
 rw[ht.of_nil,he]
 exact⟨φ,Ext.refl _ _ _,hv,H⟩
def yQ2 (elem:TypeId):Own:=fun args s=>match args with
 |[.int .i64 n]=>match decide (0≤n)&&Nat.ble n.toNat 1048576 with
  |true=>some (.slice (some ⟨s.next,0,none⟩) n.toNat (zBa+1),s.new (.cells (zCk [und] n.toNat) (2 * elem) false))
  |false=>none
 |_=>none
theorem zOo (n:Nat):(zCk [und] n).length=n:=by
 induction n with
 |zero=>rfl
 |succ n ih=>rw[zCk,xG8,ih];simp;omega
theorem zVe (n i:Nat):(zCk [und] n).getD i und=und:=by
 induction n generalizing i with
 |zero=>rfl
 |succ n ih=>
  cases i with
  |zero=>rfl
  |succ i=>exact ih i
theorem yK2 (elem:TypeId):yBh (yQ2 elem):=fun args=>by
 refine zI2 (match args with
  |[.int .i64 n]=>match decide (0≤n)&&Nat.ble n.toNat 1048576 with
   |true=>some (Blk.cells (zCk [und] n.toNat) (2 * elem) false,fun k=>Value.slice (some ⟨k,0,none⟩) n.toNat (zBa+1))
   |false=>none
  |_=>none) fun s=>?_
 unfold yQ2
 split
 ·split<;>rfl
 ·rfl
theorem yRm {w0:World}{G:Nat}{f:FuncId}{ps:Array TypeId}{t elem:TypeId}(he:Entry P f (Extern.BytealgMakeNoZero.makeNoZero ps #[t]))(hu:P.underlying t=some (.slice elem)):zGy P w0 G f (yQ2 elem):=by
 intro args s v s' e φ w args' H _ hA hf hF
 unfold yQ2 at e
 split at e
 case h_2=>cases e
 rename_i n
 split at e
 case h_2=>cases e
 rename_i hc
 cases e
 rw[xG0] at hc
 have h0:=xGt hc.1
 have h1:=xHg hc.2
 have ha:zCo [Value.int .i64 n]=true:=rfl
 rw[zB5 ha hA,he]
 obtain⟨m,rfl⟩:=xH8 h0
 obtain⟨cs,hrun,hcs,_⟩:=Lib.run_makeNoZero w ps t elem hu m (xHf (show m≤1048576 from h1) (by decide))
 have hrun2:((Extern.BytealgMakeNoZero.makeNoZero ps #[t] ⟨[.int .i64 m]⟩).run P w)=_:=hrun
 rw[hrun2]
 have hnew:φ s.next=none:=hf s.next (xGv _) (by show s.next < Nat.max s.hi (s.next+1);exact xHd (xHw _) (xIy _ _))
 refine⟨upd φ s.next (w.heap.size,0,cs.size),Ext.upd hnew _,?_,?_⟩
 ·exact VR.sliceU (φ:=upd φ s.next (w.heap.size,0,cs.size)) s.next 0 w.heap.size 0 cs.size m cs.size 1 (zBd _ _ _) (by decide) (by omega) hcs
 ·refine H.adopt (w':=w.drew.drew.alloc (.cells cs elem)) hnew rfl rfl rfl (by show w.heap.size≤(w.heap.push _).size;rw[Array.size_push];omega) (fun j hj hj2=>?_) H.size (fz:=(0,0)) (c:=cs) ?_ (fun _=>rfl) ?_ rfl ?_ (fun i hi=>?_) (fun _ o _=>by simp) (fun O q=>by rw[xIb (xGv _)] at q;cases q)
  ·show(w.heap.push _)[j]?=w.heap[j]?
   rw[xI4,xGr (by omega)]
  ·show(w.heap.push _)[w.heap.size]?=_
   rw[xI4,xGq rfl,zSa]
  ·intro j cj ej rj bj sj zj g a
   have:=H.dom _ _ _ _ a
   omega
  ·rw[zOo];show 0+m≤cs.size;omega
  ·rw[zVe];exact .any _
end Go.Det
namespace Go.Det
variable {P:Program}
def eqB (a b:ByteArray):Bool:=yBu a.data.toList b.data.toList&&yBu b.data.toList a.data.toList
def yRn (a b:Int):Bool:=decide (a=b)
def yT7:Value→Value→Bool
 |.int k a,.int k' b=>zGt k k'&&yRn a b
 |.bool a,.bool b=>a==b
 |.string a,.string b=>eqB a b
 |_,_=>false
def yT8:List Value→List Value→Bool
 |[],[]=>true
 |a::s,b::t=>yT7 a b&&yT8 s t
 |_,_=>false
def yT9:Value→Value→Bool
 |.agg a,.agg b=>yT8 a.toList b.toList
 |a,b=>yT7 a b
def yB0:List Value→List Value→Bool
 |[],[]=>true
 |a::s,b::t=>yT9 a b&&yB0 s t
 |_,_=>false
def eqV:Value→Value→Bool
 |.tuple a,.tuple b=>yB0 a.toList b.toList
 |a,b=>yT9 a b
theorem zJa:∀ {a b:List UInt8},yBu a b=true→yBu b a=true→a=b
 |[],[],_,_=>rfl
 |[],_::_,_,h=>by cases h
 |_::_,[],h,_=>by cases h
 |x::s,y::t,h,k=>by
  unfold yBu at h k
  split at h
  ·rename_i hb
   split at k
   ·rw[UInt8.toNat_inj.1 (xG3 hb),zJa h k]
   ·cases k
  ·cases h
theorem yRo {a b:ByteArray}(h:eqB a b=true):a=b:=by
 unfold eqB at h
 rw[xG0] at h
 have:=zJa h.1 h.2
 cases a with|mk a=>cases b with|mk b=>
  cases a with|mk a=>cases b with|mk b=>simp at this;rw[this]
theorem yB1 {a b:Value}(h:yT7 a b=true):a=b:=by
 unfold yT7 at h
 split at h
 ·rw[xG0] at h
  rw[zIw h.1,xGt h.2]
 ·rw[eq_of_beq h]
 ·rw[yRo h]
 ·cases h
theorem yB2:∀ {a b:List Value},yT8 a b=true→a=b
 |[],[],_=>rfl
 |[],_::_,h=>by cases h
 |_::_,[],h=>by cases h
 |x::s,y::t,h=>by
  unfold yT8 at h
  rw[xG0] at h
  rw[yB1 h.1,yB2 h.2]
theorem yB3 {a b:Value}(h:yT9 a b=true):a=b:=by
 unfold yT9 at h
 split at h
 ·rename_i a b;have:=yB2 h;cases a;cases b;simp at this;rw[this]
 ·exact yB1 h
theorem zW2:∀ {a b:List Value},yB0 a b=true→a=b
 |[],[],_=>rfl
 |[],_::_,h=>by cases h
 |_::_,[],h=>by cases h
 |x::s,y::t,h=>by
  unfold yB0 at h
  rw[xG0] at h
  rw[yB3 h.1,zW2 h.2]
theorem yJg {a b:Value}(h:eqV a b=true):a=b:=by
 unfold eqV at h
 split at h
 ·rename_i a b;have:=zW2 h;cases a;cases b;simp at this;rw[this]
 ·exact yB3 h
abbrev Tbl:=List (List Value×Value)
def yUu (args:List Value):Tbl→Option Value
 |[]=>none
 |e::t=>match yB0 e.1 args with|true=>some e.2|false=>yUu args t
def zZh (r:Option (Value×St))(v:Value):Bool:=match r with|some x=>eqV x.1 v|none=>false
def yG5 (run:List Value→Option (Value×St)):Tbl→Bool
 |[]=>true
 |e::t=>match zCo e.1&&(flat e.2&&zZh (run e.1) e.2) with|true=>yG5 run t|false=>false
theorem zTi {run:List Value→Option (Value×St)}:∀ {t:Tbl},yG5 run t=true→∀ e∈t,zCo e.1=true∧flat e.2=true∧∃ s,run e.1=some (e.2,s)
 |[],_,e,h=>by cases h
 |x::t,h,e,he=>by
  unfold yG5 at h
  split at h
  case h_2=>cases h
  rename_i hb
  rcases xG6.1 he with rfl|he
  ·simp only[xG0] at hb
   obtain⟨h1,h2,h3⟩:=hb
   refine⟨h1,h2,?_⟩
   unfold zZh at h3
   split at h3
   ·rename_i y hy
    exact⟨y.2,by rw[hy,← yJg h3]⟩
   ·cases h3
  ·exact zTi h e he
end Go.Det
namespace Go.Proofs
open Go.Shelf
def Tryz.lays219_ren:Go.Shelf.Ren:=⟨fun|219=>100|217=>111|225=>112|224=>113|267=>114|266=>123|314=>124|n=>n,fun|9=>9|3=>3|4=>4|5=>5|46=>39|146=>129|51=>128|n=>n,fun|1=>0|n=>n⟩
theorem Tryz.lays219:Go.Proofs.Lays.n219 Tryz.prog Tryz.lays219_ren:={
 mixed:=by kernel_rfl
 f217:=Tryz.func111.trans (congrArg some (by kernel_rfl))
 f219:=Tryz.func100.trans (congrArg some (by kernel_rfl))
 f224:=Tryz.func113.trans (congrArg some (by kernel_rfl))
 f225:=Tryz.func112.trans (congrArg some (by kernel_rfl))
 f266:=Tryz.func123.trans (congrArg some (by kernel_rfl))
 f267:=Tryz.func114.trans (congrArg some (by kernel_rfl))
 f314:=Tryz.func124.trans (congrArg some (by kernel_rfl))
 t3:=Tryz.underlying3
 a3:=Tryz.isAgg3
 z3:=Tryz.sizeOf3
 v3:=Tryz.zeroValue3
 t4:=Tryz.underlying4
 a4:=Tryz.isAgg4
 z4:=Tryz.sizeOf4
 v4:=Tryz.zeroValue4
 t5:=Tryz.underlying5
 a5:=Tryz.isAgg5
 z5:=Tryz.sizeOf5
 v5:=Tryz.zeroValue5
 t9:=Tryz.underlying9
 a9:=Tryz.isAgg9
 z9:=Tryz.sizeOf9
 v9:=Tryz.zeroValue9
 t46:=Tryz.underlying39
 a46:=Tryz.isAgg39
 z46:=Tryz.sizeOf39
 v46:=Tryz.zeroValue39
 t51:=Tryz.underlying128
 a51:=Tryz.isAgg128
 z51:=Tryz.sizeOf128
 v51:=Tryz.zeroValue128
 t146:=Tryz.underlying129
 a146:=Tryz.isAgg129
 z146:=Tryz.sizeOf129
 v146:=Tryz.zeroValue129
 g1:=by kernel_rfl }
def Tryz.laysM219_ren:Go.Shelf.Ren:=⟨fun|219=>100|217=>111|225=>112|224=>113|267=>114|266=>123|314=>124|n=>n,fun|9=>9|3=>3|4=>4|5=>5|46=>39|146=>129|51=>128|n=>n,fun|1=>0|n=>n⟩
theorem Tryz.laysM219:Go.Proofs.LaysM.n219 Tryz.prog Tryz.laysM219_ren:={
 mixed:=by kernel_rfl
 f217:=Tryz.func111.trans (congrArg some (by kernel_rfl))
 f219:=Tryz.func100.trans (congrArg some (by kernel_rfl))
 f224:=Tryz.func113.trans (congrArg some (by kernel_rfl))
 f225:=Tryz.func112.trans (congrArg some (by kernel_rfl))
 f266:=Tryz.func123.trans (congrArg some (by kernel_rfl))
 f267:=Tryz.func114.trans (congrArg some (by kernel_rfl))
 f314:=Tryz.func124.trans (congrArg some (by kernel_rfl))
 t3:=Tryz.underlying3
 a3:=Tryz.isAgg3
 z3:=Tryz.sizeOf3
 v3:=Tryz.zeroValue3
 t4:=Tryz.underlying4
 a4:=Tryz.isAgg4
 z4:=Tryz.sizeOf4
 v4:=Tryz.zeroValue4
 t5:=Tryz.underlying5
 a5:=Tryz.isAgg5
 z5:=Tryz.sizeOf5
 v5:=Tryz.zeroValue5
 t9:=Tryz.underlying9
 a9:=Tryz.isAgg9
 z9:=Tryz.sizeOf9
 v9:=Tryz.zeroValue9
 t46:=Tryz.underlying39
 a46:=Tryz.isAgg39
 z46:=Tryz.sizeOf39
 v46:=Tryz.zeroValue39
 t51:=Tryz.underlying128
 a51:=Tryz.isAgg128
 z51:=Tryz.sizeOf128
 v51:=Tryz.zeroValue128
 t146:=Tryz.underlying129
 a146:=Tryz.isAgg129
 z146:=Tryz.sizeOf129
 v146:=Tryz.zeroValue129
 g1:=by kernel_rfl
 i3:=by kernel_rfl
 i4:=by kernel_rfl
 i5:=by kernel_rfl
 i9:=by kernel_rfl
 i46:=by kernel_rfl
 i51:=by kernel_rfl
 i146:=by kernel_rfl
 m1:=by kernel_rfl
 s1_3:=fun w h=>Go.Proofs.cell_of_shapedOpen_int (zero:=#[.int .i64 0]) (t:=3) h (xGt (by kernel_rfl)) (by kernel_rfl) rfl (by kernel_rfl) (by kernel_rfl) Tryz.underlying3 }
open Go.RowKit Go.Lib in
theorem Tryz.stringslite_Index (s sub:ByteArray)(m:Int)(w:World)(hs:s.size < 4294967281)(hm:w.cell? ⟨0,0,none⟩=some (.int .i64 m)):
  Calls Tryz.prog 100 #[.string s,.string sub] w fun e w'=>e=.returned (.int .i64 (Lib.index s.data.toList sub.data.toList))∧w'=w:=Any.stringslite_Index Tryz.lays219 s sub m w hs hm
end Go.Proofs
namespace Go.Proofs.YtfnacgojmdbjmaaGreatDoor
open Go.ChangeShapes Go.WideShapes Go.ChangeAt Go.RowKit Go.Det
theorem yRp:ownKnob Tryz.prog.godebug=none:=by kernel_rfl
theorem zAl:Tryz.prog.follows .mixedOrders=true:=by kernel_rfl
theorem yX2:Tryz.prog.underlying 5=some (.int .u8):=by kernel_rfl
theorem yX3:Tryz.prog.cellsOf 5=1:=by kernel_rfl
theorem yUv:Tryz.prog.underlying 23=some (.int .u64):=by kernel_rfl
theorem yUw:Tryz.prog.cellsOf 23=1:=by kernel_rfl
def db32:List Int:=[0,1,28,2,29,14,24,3,30,22,20,15,25,17,4,8,31,27,13,23,21,19,16,7,26,12,18,6,11,5,10,9]
theorem yB4:zEn (db32.map (Value.int .u8))=true:=by kernel_rfl
theorem g_db32:Tryz.prog.globalNamed "math/bits.deBruijn32tab"=some 3:=by kernel_rfl
theorem t_db32:(Tryz.prog.globals[3]?).map (·.type)=some 142:=by kernel_rfl
theorem yRq:Tryz.prog.underlying 142=some (.array 32 5):=by kernel_rfl
theorem yRr:Tryz.prog.cellsOf 142=32:=by kernel_rfl
def db64:List Int:=[0,1,56,2,57,49,28,3,61,58,42,50,38,29,17,4,62,47,59,36,45,43,51,22,53,39,33,30,24,18,12,5,63,55,48,27,60,41,37,16,46,35,44,21,52,32,23,11,54,26,40,15,34,20,31,10,25,14,19,9,13,8,7,6]
theorem yB5:zEn (db64.map (Value.int .u8))=true:=by kernel_rfl
theorem g_db64:Tryz.prog.globalNamed "math/bits.deBruijn64tab"=some 1:=by kernel_rfl
theorem t_db64:(Tryz.prog.globals[1]?).map (·.type)=some 127:=by kernel_rfl
theorem yRs:Tryz.prog.underlying 127=some (.array 64 5):=by kernel_rfl
theorem yRt:Tryz.prog.cellsOf 127=64:=by kernel_rfl
def p10:List Int:=[1,10,100,1000,10000,100000,1000000,10000000,100000000,1000000000,10000000000,100000000000,1000000000000,10000000000000,100000000000000,1000000000000000,10000000000000000,100000000000000000,1000000000000000000,10000000000000000000]
theorem yG6:zEn (p10.map (Value.int .u64))=true:=by kernel_rfl
theorem g_p10:Tryz.prog.globalNamed "internal/strconv.uint64pow10"=some 2:=by kernel_rfl
theorem t_p10:(Tryz.prog.globals[2]?).map (·.type)=some 136:=by kernel_rfl
theorem yUx:Tryz.prog.underlying 136=some (.array 20 23):=by kernel_rfl
theorem yUy:Tryz.prog.cellsOf 136=20:=by kernel_rfl
def zNa (t_xdb32 t_xdb64 t_xp10:TypeId):Heap:=Heap.set (Heap.set (Heap.set ([]) 3 (.cells (db32.map (Value.int .u8)) (2 * t_xdb32) true)) 1 (.cells (db64.map (Value.int .u8)) (2 * t_xdb64) true)) 2 (.cells (p10.map (Value.int .u64)) (2 * t_xp10) true)
abbrev yG7:List (String×DataW Unit):=[("math/bits.deBruijn32tab",Rows.laid_math_bits_deBruijn32tab),("math/bits.deBruijn64tab",Rows.laid_math_bits_deBruijn64tab),("internal/strconv.uint64pow10",Rows.laid_internal_strconv_uint64pow10),("unicode/utf8.acceptRanges",Rows.laid_unicode_utf8_acceptRanges),("unicode/utf8.first",Rows.laid_unicode_utf8_first)]
theorem g_top:Tryz.prog.globalNamed "unicode/utf8.acceptRanges"=some 5:=by kernel_rfl
theorem yG8 {W:World}(h:laidMetH Tryz.prog yG7 W):∃ t_xdb32 t_xdb64 t_xp10,Laying 6 W (zNa t_xdb32 t_xdb64 t_xp10)∧6≤W.heap.size:=by
 rw[MakeChecks.laidMetH_plain _ _ _ (by kernel_rfl)] at h
 obtain⟨ps,⟨gdb32,ydb32,csdb32,fueldb32,pdb32,qdb32,hgdb32,htdb32,hvdb32,hddb32,⟨gdb64,ydb64,csdb64,fueldb64,pdb64,qdb64,hgdb64,htdb64,hvdb64,hddb64,⟨gp10,yp10,csp10,fuelp10,pp10,qp10,hgp10,htp10,hvp10,hdp10,⟨gM,yM,csM,fuelM,pM,qM,hgM,htM,hvM,hdM,_,_⟩,_⟩,_⟩,_⟩,_⟩:=h
 obtain rfl:=xHc (g_db32.symm.trans hgdb32)
 obtain rfl:=xHc (t_db32.symm.trans htdb32)
 obtain⟨t_xdb32,fzdb32,hbdb32⟩:=zFa g_db32 hvdb32
 obtain rfl:=xHc (g_db64.symm.trans hgdb64)
 obtain rfl:=xHc (t_db64.symm.trans htdb64)
 obtain⟨t_xdb64,fzdb64,hbdb64⟩:=zFa g_db64 hvdb64
 obtain rfl:=xHc (g_p10.symm.trans hgp10)
 obtain rfl:=xHc (t_p10.symm.trans htp10)
 obtain⟨t_xp10,fzp10,hbp10⟩:=zFa g_p10 hvp10
 obtain rfl:=xHc (g_top.symm.trans hgM)
 obtain⟨t_xM,fzM,hbM⟩:=zFa g_top hvM
 have hs:6≤W.heap.size:=zQs hbM
 have Ldb32:=(Laying.empty (G:=6) hs).lay (by decide) hbdb32 (zHc yRq yX2 yX3 yRr hddb32) yB4
 have Ldb64:=Ldb32.lay (by decide) hbdb64 (zHc yRs yX2 yX3 yRt hddb64) yB5
 have Lp10:=Ldb64.lay (by decide) hbp10 (zHc yUx yUv yUw yUy hdp10) yG6
 exact⟨t_xdb32,t_xdb64,t_xp10,Lp10,hs⟩
theorem yB6 (os:Os)(args:Array Value):laidMetH Tryz.prog yG7 ((World.laidAll Tryz.prog os yG7).forCall (fun _ _=>0) ⟨#[],args,[]⟩).memory:=by
 rw[MakeChecks.laidMetH_plain _ _ _ (by kernel_rfl)]
 exact laidMet_laidAll _ (by kernel_rfl) (by kernel_rfl)
def Len (W:World):Prop:=0 < W.heap.size∧∃ m,W.cell? ⟨0,0,none⟩=some (.int .i64 m)
theorem yUz:Entry Tryz.prog 110 add64Entry:=Entry.mk (fn:=Tryz.f110) Tryz.func110 (by kernel_rfl) (by kernel_rfl) (by kernel_rfl) (by kernel_rfl)
theorem yY5 {W:World}(_:Len W)(G:Nat):zGy Tryz.prog W G 110 (zCz yQz):=zWv yUz
theorem yRu (args:Array Value)(w:World):(callFunc 100 args).run Tryz.prog w=.ok (.enter 100 args) w:=
 zBg (fn:=Tryz.f100) (c:=match Tryz.f100.body with|some c=>c|none=>.skip) Tryz.func100 (by kernel_rfl) (by kernel_rfl) args w
theorem yY6 {W:World}(hW:Len W)(G:Nat):zGy Tryz.prog W G 100 (zCz zW1):=by
 refine yG3 yRu hW.1 fun s sub w hw hs=>?_
 obtain⟨_,m,hm⟩:=hW
 refine Tryz.stringslite_Index s sub m w hs ?_
 rw[← hm]
 unfold World.cell?
 rw[hw]
theorem yU0:Entry Tryz.prog 128 Extern.AbiNoEscape.same:=Entry.mk (fn:=Tryz.f128) Tryz.func128 (by kernel_rfl) (by kernel_rfl) (by kernel_rfl) (by kernel_rfl)
theorem yY7 {W:World}(_:Len W)(G:Nat):zGy Tryz.prog W G 128 yBz:=yK1 yU0
theorem yU1:Entry Tryz.prog 129 (Extern.BytealgMakeNoZero.makeNoZero Tryz.f129.params #[22]):=Entry.mk (fn:=Tryz.f129) Tryz.func129 (by kernel_rfl) (by kernel_rfl) (by kernel_rfl) (by kernel_rfl)
theorem yY8 {W:World}(_:Len W)(G:Nat):zGy Tryz.prog W G 129 (yQ2 5):=yRm yU1 (show Tryz.prog.underlying 22=some (.slice 5) by kernel_rfl)
theorem yU2:Entry Tryz.prog 123 Extern.BytealgIndexByte.indexByte:=Entry.mk (fn:=Tryz.f123) Tryz.func123 (by kernel_rfl) (by kernel_rfl) (by kernel_rfl) (by kernel_rfl)
theorem yY9 {W:World}(_:Len W)(G:Nat):zGy Tryz.prog W G 123 (zCz zHu):=zTg yU2
theorem yU3:Entry Tryz.prog 137 Extern.BytealgCount.count:=Entry.mk (fn:=Tryz.f137) Tryz.func137 (by kernel_rfl) (by kernel_rfl) (by kernel_rfl) (by kernel_rfl)
theorem yZa {W:World}(_:Len W)(G:Nat):zGy Tryz.prog W G 137 (zCz zHv):=zTh yU3
def zQ1:List (Nat×Own):=[(100,zCz zW1),(110,zCz yQz),(123,zCz zHu),(128,yBz),(129,yQ2 5),(137,zCz zHv)]
theorem zW3:zMs (zU3 zQ1):=yKu fun x hx=>by
 simp only[zQ1,xG6,xHh,or_false] at hx
 rcases hx with rfl|rfl|rfl|rfl|rfl|rfl
 ·exact zFb _
 ·exact zFb _
 ·exact zFb _
 ·exact yG4
 ·exact yK2 5
 ·exact zFb _
theorem zW4 {W:World}(hW:Len W)(G:Nat):zMt Tryz.prog W G (zU3 zQ1):=yKv fun x hx=>by
 simp only[zQ1,xG6,xHh,or_false] at hx
 rcases hx with rfl|rfl|rfl|rfl|rfl|rfl
 ·exact yY6 hW G
 ·exact yY5 hW G
 ·exact yY9 hW G
 ·exact yY7 hW G
 ·exact yY8 hW G
 ·exact yZa hW G
def zVf:Nat:=1218540520820572493101426102222558936956927
theorem okA:(Nat.ble (zVf+1) (Nat.shiftLeft 1 140)&&zMw Tryz.prog 6 zVf 140)=true:=by kernel_rfl
theorem zVg {H:Type}{enc:TypeId×Value→H}{C:Checked}{os:Os}{f:FuncId}{fn:Func}{s:ChangeSpec}{X:World→Array Value→Prop}
  (hX:∀ (w w':World) (args:Array Value),w.heap=w'.heap→X w args→X w' args)
  (own:ownKnob C.prog.godebug=none) (started:os.Started) (noInit:C.prog.inits.idxOf? f=none) (hfn:C.prog.funcs[f]?=some fn)
  (witness:∃ (w:World) (tape:Tape) (i:Input),w.os=os∧(w.forCall tape i).Shaped C.prog∧i.vars=[]∧Input.okWide C.prog (w.forCall tape i) .any w.heap.size f i∧
   ((s.pre enc C.prog fn [] false (w.forCall tape i).memory i.args∧X (w.forCall tape i).memory i.args)∧sizedMet enc C.prog fn (OpenSpec.ofChange s) false (w.forCall tape i).memory i.args)∧({}:Assume).holds C.prog (lone (Frame.enter C.prog f i.args .normal) [] (w.forCall tape i)))
  (contract:∀ (W:World) (base:Nat) (args:Array Value) (ds gs:List (DataW H)) (before:List MemPlace),
   (∀ (j:Nat) t v,fn.params[j]?=some t→args[j]?=some v→Value.okWide C.prog W .any base t v)→
   DataW.Whole enc C.prog fn.params.toList s.vars false W args.toList ds gs before→X W args→W.ShapedOpen C.prog→
   Calls C.prog f args W fun e W'=>∃ v,e=.returned v∧s.post enc C.prog fn false true false false W args v W'):
  ReturnsInHanded {} C os f .any (fun w args=>(s.pre enc C.prog fn [] false w args∧X w args)∧sizedMet enc C.prog fn (OpenSpec.ofChange s) false w args) (s.post enc C.prog fn false true false false):=by
 refine returnsInHanded_of_calls own started noInit witness ?_
 intro w tape i _ hsh _ hok hpre _
 obtain⟨_,_,_,fn',hfn',_,_,_,_,hval⟩:=hok
 have e:fn'=fn:=xHc (hfn'.symm.trans hfn)
 subst e
 obtain⟨⟨⟨ds,gs,before,hw,_⟩,hx⟩,_⟩:=hpre
 have hw':=DataW.Whole.of_heap (w':=w.forCall tape i) (by rfl) hw
 refine(contract (w.forCall tape i) w.heap.size i.args ds gs before hval hw' (hX _ _ _ (by rfl) hx) hsh).mono fun e W' ⟨v,he,hp⟩=>?_
 subst he
 exact ChangeSpec.post_blind hp
theorem Len.of_shape {W:World}(h:W.ShapedOpen Tryz.prog)(hs:6≤W.heap.size):Len W:=⟨by omega,Tryz.laysM219.s1_3 W h⟩
theorem Len.later {W w:World}(h:Len W)(h1:W.heap.size≤w.heap.size)(h2:∀ b,b < W.heap.size→w.heap[b]?=W.heap[b]?):Len w:=by
 obtain⟨h0,m,hm⟩:=h
 refine⟨by omega,m,?_⟩
 rw[← hm]
 unfold World.cell?
 rw[h2 0 h0]
theorem yB7 (t_xdb32 t_xdb64 t_xp10:TypeId):isTrue (zJz Tryz.prog (zE9 zVf (zU3 zQ1)) 1000 80 34 [] (zAh (zNa t_xdb32 t_xdb64 t_xp10) 64))=true:=by kernel_rfl
theorem yG9 {W:World}{t_xdb32 t_xdb64 t_xp10:TypeId}(L:Laying 6 W (zNa t_xdb32 t_xdb64 t_xp10))(hs:6≤W.heap.size)(hW:Len W):zGy Tryz.prog W 6 34 yKw:=
 yKx (fn:=Tryz.f34) (c:=match Tryz.f34.body with|some c=>c|none=>.skip) L hs (by decide:6≤64) zAl okA zW3 (fun w h1 h2=>zW4 (hW.later h1 h2) 6) Tryz.func34 (by kernel_rfl) (by kernel_rfl) (yB7 t_xdb32 t_xdb64 t_xp10)
end Go.Proofs.YtfnacgojmdbjmaaGreatDoor
namespace Go.Det
open Go.RowKit
variable {P:Program}
theorem zTj {G:Nat}{f:FuncId}{fn:Func}{c:Code}{g:Own}{w:World}{args:List Value}{v:Value}{s':St}(h:zGy P w G f g)(hG:G≤64)(hs:G≤w.heap.size)
  (hf:P.funcs[f]?=some fn) (hb:fn.body=some c) (hn:(fn.name== "runtime.NumGoroutine")=false) (e:g args (zAh [] 64)=some (v,s')) (h1:zCo args=true) (h2:flat v=true) (h3:v≠und):
  Calls P f ⟨args⟩ w fun e w'=>e=.returned v∧Below w.heap.size w w':=by
 have L:=Laying.empty (G:=G) hs
 have k:=h args (zAh [] 64) v s' e (glob G w) w args L.hr (zD4 G w) (zDa h1 _) (fun id q _=>zC6 G w hG id q) ⟨xGv _,fun id q _=>L.top id (xHf hG q)⟩
 rw[zBg hf hb hn] at k
 refine Calls.mono k ?_
 rintro e w' ⟨v',φ',rfl,_,hv,H⟩
 rw[zI6 h2 hv h3]
 exact⟨rfl,H.os,H.tape,H.output,H.size,fun j hj=>H.old j hj⟩
end Go.Det
namespace Go.Proofs.YtfnacgojmdbjmaaGreatDoor
open Go.Det Go.RowKit
structure GoodW (w:World):Prop where
 lay:∃ t0 t1 t2,Laying 6 w (zNa t0 t1 t2)
 size:6≤w.heap.size
 len:Len w
theorem GoodW.later {W w:World}(h:GoodW W)(h1:W.heap.size≤w.heap.size)(h2:∀ b,b < W.heap.size→w.heap[b]?=W.heap[b]?):GoodW w:=by
 obtain⟨t0,t1,t2,L⟩:=h.lay
 exact⟨⟨t0,t1,t2,L.move h1 h2 h.size⟩,xHf h.size h1,h.len.later h1 h2⟩
theorem GoodW.below {w w':World}(h:GoodW w)(k:Below w.heap.size w w'):GoodW w':=h.later k.size k.block
theorem GoodW.drew {w:World}(h:GoodW w):GoodW w.drew:=h.later (xGv _) (fun _ _=>rfl)
theorem GoodW.drewN {w:World}(h:GoodW w)(n:Nat):GoodW (w.drewN n):=h.later (xGv _) (fun _ _=>rfl)
theorem zZi (w:World)(hG:GoodW w):Calls Tryz.prog 34 #[] w fun e w'=>e=.returned (.bool true)∧Below w.heap.size w w':=by
 obtain⟨t0,t1,t2,L⟩:=hG.lay
 exact zTj (fn:=Tryz.f34) (c:=match Tryz.f34.body with|some c=>c|none=>.skip) (yG9 L hG.size hG.len) (by decide) hG.size Tryz.func34 (by kernel_rfl) (by kernel_rfl) (s':=zAh [] 64) rfl rfl rfl (by intro h;cases h)
def Tryz.lays29_ren:Go.Shelf.Ren:=⟨fun|29=>109|n=>n,fun|0=>0|3=>3|4=>4|5=>5|22=>23|25=>39|54=>127|n=>n,fun|1=>1|n=>n⟩
theorem zW5:db64=Lib.deBruijn64tab.map Int.ofNat:=by decide
theorem yRv {w:World}(hG:GoodW w):TabAt 1 Lib.deBruijn64tab w:=by
 obtain⟨t0,t1,t2,L⟩:=hG.lay
 intro j hj
 have hget:(zNa t0 t1 t2).get 1=some (.cells (db64.map (Value.int .u8)) (2 * t1) true):=by
  unfold zNa
  simp only[Heap.get_set]
  rfl
 obtain⟨b,sh,sz,c,fz,k⟩:=L.hr.cells _ _ _ _ hget
 have hat:=k.at_
 unfold glob at hat
 rw[xGq (by decide)] at hat
 cases hat
 have hl:j < (db64.map (Value.int .u8)).length:=by rw[zW5];simpa using hj
 have hc:=k.cell j hl
 rw[cell_at k.blk j (by have:=k.fit;have:=k.size;omega)]
 rw[xIz] at hc
 rw[zW5] at hc
 have e:((Lib.deBruijn64tab.map Int.ofNat).map (Value.int .u8)).getD j und=.int .u8 ((Lib.deBruijn64tab.getD j 0:Nat):Int):=by
  simp[xGw,xGz hj]
 rw[e] at hc
 rw[zGb hc]
theorem Tryz.lays29:Go.Proofs.Lays7.n29 Tryz.prog Tryz.lays29_ren:={
 mixed:=by kernel_rfl
 f29:=Tryz.func109.trans (congrArg some (by kernel_rfl))
 t0:=Tryz.underlying0
 a0:=Tryz.isAgg0
 z0:=Tryz.sizeOf0
 v0:=Tryz.zeroValue0
 i0:=by kernel_rfl
 t3:=Tryz.underlying3
 a3:=Tryz.isAgg3
 z3:=Tryz.sizeOf3
 v3:=Tryz.zeroValue3
 i3:=by kernel_rfl
 t4:=Tryz.underlying4
 a4:=Tryz.isAgg4
 z4:=Tryz.sizeOf4
 v4:=Tryz.zeroValue4
 i4:=by kernel_rfl
 t5:=Tryz.underlying5
 a5:=Tryz.isAgg5
 z5:=Tryz.sizeOf5
 v5:=Tryz.zeroValue5
 i5:=by kernel_rfl
 t22:=Tryz.underlying23
 a22:=Tryz.isAgg23
 z22:=Tryz.sizeOf23
 v22:=Tryz.zeroValue23
 i22:=by kernel_rfl
 t25:=Tryz.underlying39
 a25:=Tryz.isAgg39
 z25:=Tryz.sizeOf39
 v25:=Tryz.zeroValue39
 i25:=by kernel_rfl
 t54:=Tryz.underlying127
 a54:=Tryz.isAgg127
 z54:=Tryz.sizeOf127
 g1:=by kernel_rfl }
theorem yU4 {x r:Int}{w:World}(hG:GoodW w)(h:(if 0≤x∧x < 18446744073709551616 then some ((Lib.ctz 64 x.toNat:Nat):Int) else none)=some r):
  Calls Tryz.prog 109 #[.int .u64 x] w fun e w'=>e=.returned (.int .i64 r)∧w'=w:=by
 split at h
 case isFalse=>cases h
 rename_i hx
 cases h
 obtain⟨n,rfl⟩:=xH8 hx.1
 exact Any7.bits_TrailingZeros64 Tryz.lays29 n (by omega) w (fun _=>yRv hG)
end Go.Proofs.YtfnacgojmdbjmaaGreatDoor
namespace Go.Det
abbrev M64:Nat:=18446744073709551616
abbrev zB1:Nat:=340282366920938463463374607431768211456
def qn (h l:Int):Nat:=h.toNat * M64+l.toNat
def inU (n:Int):Bool:=decide (0≤n∧n < 18446744073709551616)
def inQ (h l:Int):Bool:=inU h&&inU l
def zZj (n:Nat):Value:=.agg #[.int .u64 ((n / M64:Nat):Int),.int .u64 ((n % M64:Nat):Int)]
theorem inU_iff {n:Int}:inU n=true↔0≤n∧n < 18446744073709551616:=by simp[inU]
theorem zVh {h l:Int}:inQ h l=true↔(0≤h∧h < 18446744073709551616)∧(0≤l∧l < 18446744073709551616):=by
 simp[inQ,inU_iff]
theorem zQ2 {n:Nat}(h:n < zB1):inQ ((n / M64:Nat):Int) ((n % M64:Nat):Int)=true:=by
 rw[zVh]
 unfold M64 zB1 at *
 omega
theorem zVi (n:Nat):qn ((n / M64:Nat):Int) ((n % M64:Nat):Int)=n:=by
 unfold qn
 rw[xG7,xG7]
 exact Nat.div_add_mod' n M64
theorem yHa {a b:Nat}(h:a < M64)(k:b < M64):a ||| b < M64:=Nat.or_lt_two_pow (n:=64) h k
theorem zEw {n:Int}(h:0≤n)(k:n < 18446744073709551616):(BitVec.ofInt 64 n).toNat=n.toNat:=by
 rw[BitVec.toNat_ofInt]
 omega
theorem wrap_u64 {n:Nat}(h:n < M64):IntKind.u64.wrap (n:Int)=(n:Int):=by
 unfold M64 at h
 unfold IntKind.wrap
 simp[IntKind.signed,IntKind.bits]
 omega
theorem yHb {a b:Int}(ha:inU a=true)(hb:inU b=true):andI .u64 a b=((a.toNat &&& b.toNat:Nat):Int):=by
 rw[inU_iff] at ha hb
 unfold andI
 show IntKind.u64.wrap ((BitVec.ofInt 64 a &&& BitVec.ofInt 64 b).toNat:Int)=_
 rw[BitVec.toNat_and,zEw ha.1 ha.2,zEw hb.1 hb.2]
 exact wrap_u64 (xH7 Nat.and_le_left (by unfold M64;omega))
theorem yK3 {a b:Int}(ha:inU a=true)(hb:inU b=true):orI .u64 a b=((a.toNat ||| b.toNat:Nat):Int):=by
 rw[inU_iff] at ha hb
 unfold orI
 show IntKind.u64.wrap ((BitVec.ofInt 64 a ||| BitVec.ofInt 64 b).toNat:Int)=_
 rw[BitVec.toNat_or,zEw ha.1 ha.2,zEw hb.1 hb.2]
 exact wrap_u64 (yHa (by unfold M64;omega) (by unfold M64;omega))
theorem notI_u64 {a:Int}(ha:inU a=true):IntKind.u64.wrap ((BitVec.ofInt 64 18446744073709551615 ^^^ BitVec.ofInt 64 a).toNat:Int)=18446744073709551615 - a:=by
 rw[inU_iff] at ha
 have e:BitVec.ofInt 64 18446744073709551615=BitVec.allOnes 64:=by decide
 rw[e,BitVec.allOnes_xor,BitVec.toNat_not,zEw ha.1 ha.2]
 rw[wrap_u64 (by unfold M64;omega)]
 omega
def con48:Con where
 own:=zCz yQz
 w:=fun args s K=>match args with
  |[.int .u64 x,.int .u64 y,.int .u64 c]=>Nat.ble c.toNat 1=true∧K (.tuple #[.int .u64 (((x.toNat+y.toNat+c.toNat) % 18446744073709551616:Nat):Int),.int .u64 (((x.toNat+y.toNat+c.toNat) / 18446744073709551616:Nat):Int)]) s
  |_=>False
 ok:=by
  intro args s K h
  split at h
  ·obtain⟨h1,h2⟩:=h
   exact⟨_,_,by simp only[zCz,yQz,h1],h2,fun K' k=>⟨h1,k⟩⟩
  ·exact h.elim
 mono:=by
  intro args s K K' k h
  split at h
  ·exact⟨h.1,k _ _ h.2⟩
  ·exact h.elim
def yB8 (x y c:Int):Nat:=match Nat.ble (y.toNat+c.toNat) x.toNat with|true=>0|false=>1
def con49:Con where
 own:=zCz yX1
 w:=fun args s K=>match args with
  |[.int .u64 x,.int .u64 y,.int .u64 c]=>Nat.ble c.toNat 1=true∧K (.tuple #[.int .u64 (((x.toNat+18446744073709551616 - y.toNat - c.toNat) % 18446744073709551616:Nat):Int),.int .u64 (yB8 x y c:Nat)]) s
  |_=>False
 ok:=by
  intro args s K h
  split at h
  ·obtain⟨h1,h2⟩:=h
   refine⟨_,_,?_,h2,fun K' k=>⟨h1,k⟩⟩
   simp only[zCz,yX1,h1,yB8]<;>rfl
  ·exact h.elim
 mono:=by
  intro args s K K' k h
  split at h
  ·exact⟨h.1,k _ _ h.2⟩
  ·exact h.elim
def yB9 (x:Int×Int×Int×Int):Bool:=inQ x.1 x.2.1&&inQ x.2.2.1 x.2.2.2
def zFf (n:Int)(hi:Nat):Nat:=min n.toNat hi
def zJb (n:Nat):Nat:=M64 - 2 ^ (64 - n)
def zCb (n:Nat):Nat:=zB1 - 2 ^ (128 - n)
def zJc (a b:Nat):Nat:=if a+b < zB1 then a+b else 0
def conAdd:Con:=Con.flat yG0 yB9 fun x=>.tuple #[zZj (zJc (qn x.1 x.2.1) (qn x.2.2.1 x.2.2.2)),.bool (zAf (qn x.1 x.2.1+qn x.2.2.1 x.2.2.2 < zB1))]
end Go.Det
end

/- Texts of a proof, joined: words of the print (those that are named here) and printed functions. -/
import Derived.Test.YtfnacgojmdbjmaaGreatDoorQkm10
import Derived.Test.YtfnacgojmdbjmaaGreatDoorQkm7
import Derived.Test.YtfnacgojmdbjmaaGreatDoorQkm9
import Derived.Test.YtfnacgojmdbjmaaGreatDoorQkm2
import Derived.Test.YtfnacgojmdbjmaaGreatDoorQkm3
import Derived.Test.YtfnacgojmdbjmaaGreatDoorQkm6
set_option linter.unusedSimpArgs false
set_option linter.unusedVariables false
set_option maxRecDepth 100000
noncomputable section
namespace Go.Det
variable {P:Program}
def Con.rowK {α β:Type}(dec:List Value→Option α)(F:α→Option (List β))(enc:β→List Value)(elem n:Nat)(k:Bool):Con where
 own:=fun args s=>match dec args with
  |some a=>(match F a with
   |some r=>(match r with
    |[]=>some (.slice none 0 0,s)
    |_::_=>some (.slice (some ⟨s.next,0,none⟩) r.length (zBa+n),s.new (.cells (r.flatMap enc) (2 * elem) false)))
   |none=>none)
  |none=>none
 w:=fun args s K=>match dec args with
  |some a=>(match k with
   |true=>∃ r,F a=some r∧(r≠[]∧K (.slice (some ⟨s.next,0,none⟩) r.length (zBa+n)) (s.new (.cells (r.flatMap enc) (2 * elem) false)))
   |false=>F a=some []∧K (.slice none 0 0) s)
  |none=>False
 ok:=by
  intro args s K h
  split at h
  ·rename_i a ha
   cases k with
   |true=>
    obtain⟨r,hr,hne,hk⟩:=h
    refine⟨_,_,?_,hk,fun K' k=>⟨r,hr,hne,k⟩⟩
    cases r with
    |nil=>exact absurd rfl hne
    |cons x t=>simp only[ha,hr]
   |false=>
    obtain⟨hr,hk⟩:=h
    exact⟨_,_,by simp only[ha,hr],hk,fun K' k=>⟨hr,k⟩⟩
  ·exact h.elim
 mono:=by
  intro args s K K' q h
  split at h
  ·cases k with
   |true=>
    obtain⟨r,hr,hne,hk⟩:=h
    exact⟨r,hr,hne,q _ _ hk⟩
   |false=>exact⟨h.1,q _ _ h.2⟩
  ·exact h.elim
def yJ2 {β:Type}(enc:β→List Value)(elem n:Nat)(r:List β)(v:Value)(s:St):Prop:=match r with
 |[]=>v=.slice none 0 0
 |_::_=>∃ k,v=.slice (some ⟨k,0,none⟩) r.length (zBa+n)∧s.h.get k=some (.cells (r.flatMap enc) (2 * elem) false)
theorem zXr {cw:Cw}{W:World}{G:Nat}{l:List (Nat×Own)}{h:Heap}{f:FuncId}{fn:Func}{c:Code}{α β:Type}{dec:List Value→Option α}{F:α→Option (List β)}{zEe:β→List Value}{elem n:Nat}(enc:α→List Value)(L:Laying G W h)(hGW:G≤W.heap.size)(hG64:G≤64)
  (hn0:0 < n) (hm:P.follows .mixedOrders=true) (hl:OwnsAll P W G l) (ho:CwOk (zDc l) cw) (hf:P.funcs[f]?=some fn) (hb:fn.body=some c) (hok:zEb G fn=true)
  (hdec:∀ args a,dec args=some a→args=enc a) (hflat:∀ a,zCo (enc a)=true∧Nat.ble (enc a).length fn.ntmps=true) (hfl:∀ x,∀ v∈zEe x,flat v=true)
  (hF:∀ a r,F a=some r→zAo P cw c (zAg (enc a) 8) (zAh h 64) (zA2 P fn fun v' s'=>yJ2 zEe elem n r v' s')) (k:Bool):zAk P W G f (Con.rowK dec F zEe elem n k).own:=by
 refine⟨fun args=>?_,fun W1 k1 args s v s' ed φ w args' H _ hA hfr _=>?_⟩
 ·show Tr fun s=>(match dec args with
   |some a=>(match F a with
    |some r=>(match r with
     |[]=>some (Value.slice none 0 0,s)
     |_::_=>some (.slice (some ⟨s.next,0,none⟩) r.length (zBa+n),s.new (.cells (r.flatMap zEe) (2 * elem) false)))
    |none=>none)
   |none=>none)
  cases dec args with
  |none=>exact zA4 fun _=>rfl
  |some a=>
   simp only
   cases F a with
   |none=>exact zA4 fun _=>rfl
   |some r=>
    cases r with
    |nil=>exact zBe (some (Value.slice none 0 0)) fun _=>rfl
    |cons x t=>exact zI2 (some (Blk.cells ((x::t).flatMap zEe) (2 * elem) false,fun k=>Value.slice (some ⟨k,0,none⟩) (x::t).length (zBa+n))) fun _=>rfl
 ·have e0:(match dec args with
   |some a=>(match F a with
    |some r=>(match r with
     |[]=>some (Value.slice none 0 0,s)
     |_::_=>some (.slice (some ⟨s.next,0,none⟩) r.length (zBa+n),s.new (.cells (r.flatMap zEe) (2 * elem) false)))
    |none=>none)
   |none=>none)=some (v,s'):=ed
  split at e0
  case h_2=>cases e0
  rename_i a ha
  split at e0
  case h_2=>cases e0
  rename_i r hr
  obtain rfl:=hdec _ _ ha
  have h4:=hF a r hr
  have hnn:(fn.name== "runtime.NumGoroutine")=false:=by
   unfold zEb at hok
   rw[hb] at hok
   simp only[xG0,xIi] at hok
   exact hok.2
  rw[zB5 (hflat a).1 hA,zBg hf hb hnn]
  have kw:Later W w:=k1.trans H.later
  have Lw:=L.move kw.size kw.old hGW
  refine(zHd (P:=P) (w0:=w) (φ0:=glob G w) (G:=G) ho (zFx hl kw) (zFw hl) hm (zD4 G w) (fun id q=>zC6 G w hG64 id q) hf hb hok (hflat a).2 Lw.hr (zDa (hflat a).1 _) (fun id q=>zC6 G w hG64 id q) (fun id q=>Lw.top id (xHf hG64 q)) (xGv 64) h4).mono ?_
  rintro z W' ⟨v1,v',s1,φ',rfl,hres,hv,H',_,_⟩
  cases r with
  |nil=>
   cases e0
   have hres:v1=.slice none 0 0:=hres
   subst hres
   refine⟨_,φ,rfl,Ext.refl _ _ _,zE8 rfl hv,H.keep ⟨H'.os,H'.output,H'.size,fun j hj=>H'.old j hj⟩ H'.tape⟩
  |cons x t=>
   cases e0
   obtain⟨k0,rfl,hg⟩:=hres
   obtain⟨b,sh,sz,c2,fz,q⟩:=H'.cells _ _ _ _ hg
   have hnew:φ s.next=none:=hfr s.next (xGv _) (by show s.next < Nat.max s.hi (s.next+1);exact xHd (xHw _) (xIy _ _))
   have hmine:=q.mine rfl
   have hsl:VR (upd φ s.next (b,sh,sz)) (.slice (some ⟨s.next,0,none⟩) (x::t).length (zBa+n)) v':=by
    generalize hC:zBa+n=C at hv
    cases hv with
    |slice _ _ b2 sh2 sz2 _ _ _ hlt=>omega
    |sliceU _ _ b2 sh2 sz2 _ c' es hφ hp hs hle=>
     obtain rfl:es=n:=by omega
     have:=q.at_
     rw[hφ] at this
     cases this
     rw[← hC]
     exact VR.sliceU (φ:=upd φ s.next (b,sh,sz)) s.next 0 b sh sz _ c' es (zBd _ _ _) hp hs hle
   refine⟨_,upd φ s.next (b,sh,sz),rfl,Ext.upd hnew _,hsl,?_⟩
   refine H.adopt (w':=W') hnew H'.os H'.output H'.tape H'.size (fun j hj _=>H'.old j hj) (xHf H.size hmine.1) (fz:=fz) (c:=c2) q.blk q.exact_ ?_ q.size q.fit (fun i hi=>?_) (fun _=>hmine.2) (fun O qq=>by rw[xIb hmine.1] at qq;cases qq)
   ·intro j cj ej rj bj sj zj _ a'
    have:=H.dom _ _ _ _ a'
    omega
   ·have:=q.cell i hi
    have hm:((x::t).flatMap zEe).getD i und∈(x::t).flatMap zEe:=by rw[xGw,xGz hi];exact xH3 hi
    obtain⟨y,_,hy⟩:=List.mem_flatMap.1 hm
    exact zE8 (hfl y _ hy) this
end Go.Det
namespace Go.Proofs.YtfnacgojmdbjmaaGreatDoor.PRD
open Go.RowKit Go.Proofs.ZW Go.Proofs.ZL Go.Proofs.ZM
open Go.Det (inQ M64 zB1 qn zJc zJb zFf)
def Yk.f (a0_0:Int)(a0_1:Int)(a0_2:Int)(a0_3:Int)(a0_4:Int)(a0_5:Int):Option (Bool):=(Ym.f a0_0 a0_1 a0_2).bind fun t1=>(if t1=true then((Ym.f a0_3 a0_4 a0_5).bind fun t2=>(if t2=true then(if a0_0=a0_3 then((YC.f a0_4 a0_5 a0_1 a0_2).bind fun t3=>(some (!t3))) else(some false)) else(some false))) else(some false))
def YJ.f (a0_0:Int)(a0_1:Int)(a0_2:Int)(a0_3:Int)(a0_4:Int)(a0_5:Int):Option (ByteArray):=(Yk.f a0_0 a0_1 a0_2 a0_3 a0_4 a0_5).bind fun t1=>(if t1=true then((Yb.f a0_0 a0_1 a0_2).bind fun s=>(if s.size+ByteArray.size ({ data:=#[45] }:ByteArray)≤9223372036854775807 then((Yb.f a0_3 a0_4 a0_5).bind fun u=>(if(s++({ data:=#[45] }:ByteArray)).size+u.size≤9223372036854775807 then(some (s++({ data:=#[45] }:ByteArray)++u)) else(none))) else(none))) else(some { data:=#[] }))
def Yj0.f (a0_0:Int)(a0_1:Int)(a0_2:Int)(a0_3:Int)(a0_4:Int)(a0_5:Int)(a1_0:Int)(a1_1:Int)(a1_2:Int)(a1_3:Int):Option (Bool):=(Yk.f a0_0 a0_1 a0_2 a0_3 a0_4 a0_5).bind fun t1=>(if t1=true then((Ya0.f a1_0 a1_1 a1_2 a1_3 a0_0 a0_1 a0_2).bind fun t2=>(if t2=true then((Ya0.f a1_0 a1_1 a1_2 a1_3 a0_3 a0_4 a0_5).bind fun t3=>(some t3)) else(some false))) else(some false))
def YR.f (a0_0:Int)(a0_1:Int)(a0_2:Int)(a0_3:Int)(a0_4:Int)(a0_5:Int)(a1_0:Int)(a1_1:Int)(a1_2:Int)(a1_3:Int)(a1_4:Int)(a1_5:Int):Option (Bool):=(Yk.f a0_0 a0_1 a0_2 a0_3 a0_4 a0_5).bind fun t1=>(if t1=true then((Yk.f a1_0 a1_1 a1_2 a1_3 a1_4 a1_5).bind fun t2=>(if t2=true then(if a0_0=a1_0 then((YC.f a0_4 a0_5 a1_1 a1_2).bind fun t3=>(if t3=true then(some false) else((YC.f a1_4 a1_5 a0_1 a0_2).bind fun t4=>(some (!t4))))) else(some false)) else(some false))) else(some false))
def YS.f (a0_0:Int)(a0_1:Int)(a0_2:Int)(a0_3:Int)(a0_4:Int)(a0_5:Int)(a1_0:Int)(a1_1:Int)(a1_2:Int)(a1_3:Int)(a1_4:Int)(a1_5:Int):Option (Bool):=(Yk.f a0_0 a0_1 a0_2 a0_3 a0_4 a0_5).bind fun t1=>(if t1=true then((Yk.f a1_0 a1_1 a1_2 a1_3 a1_4 a1_5).bind fun t2=>(if t2=true then((Yd.f a0_0 a0_1 a0_2 a1_0 a1_1 a1_2).bind fun t3=>(if t3=true then(some true) else(if(a0_0==a1_0&&((a0_1==a1_1&&(a0_2==a1_2))))=true then((Yd.f a0_3 a0_4 a0_5 a1_3 a1_4 a1_5).bind fun t4=>(some t4)) else(some false)))) else(some false))) else(some false))
end Go.Proofs.YtfnacgojmdbjmaaGreatDoor.PRD
namespace Go.Proofs.YtfnacgojmdbjmaaGreatDoor
open Go.Det Go.RowKit PRD Go.Proofs.ZW
def yE0:List Value→Option (Int×Int×Int×Int×Int×Int)
 |[.agg ⟨[.int .i64 a,.int .u64 b,.int .u64 c,.int .i64 d,.int .u64 e,.int .u64 f]⟩]=>some (a,b,c,d,e,f)
 |_=>none
def zRp (x:Int×Int×Int×Int×Int×Int):List Value:=[.agg #[.int .i64 x.1,.int .u64 x.2.1,.int .u64 x.2.2.1,.int .i64 x.2.2.2.1,.int .u64 x.2.2.2.2.1,.int .u64 x.2.2.2.2.2]]
theorem zNy {args:List Value}{a:Int×Int×Int×Int×Int×Int}(h:yE0 args=some a):args=zRp a:=by
 unfold yE0 at h
 split at h
 case h_2=>cases h
 cases h;rfl
def yP0 (y:Bool):Value:=.bool y
def con49:Con:=Con.opt yE0 (fun x=>Yk.f x.1 x.2.1 x.2.2.1 x.2.2.2.1 x.2.2.2.2.1 x.2.2.2.2.2) yP0
def L49:List (Nat×Con):=[(44,con44),(38,con38)]
def yP1:List Value→Option (Int×Int×Int×Int×Int×Int)
 |[.agg ⟨[.int .i64 a,.int .u64 b,.int .u64 c,.int .i64 d,.int .u64 e,.int .u64 f]⟩]=>some (a,b,c,d,e,f)
 |_=>none
def yP2 (x:Int×Int×Int×Int×Int×Int):List Value:=[.agg #[.int .i64 x.1,.int .u64 x.2.1,.int .u64 x.2.2.1,.int .i64 x.2.2.2.1,.int .u64 x.2.2.2.2.1,.int .u64 x.2.2.2.2.2]]
theorem yE1 {args:List Value}{a:Int×Int×Int×Int×Int×Int}(h:yP1 args=some a):args=yP2 a:=by
 unfold yP1 at h
 split at h
 case h_2=>cases h
 cases h;rfl
def yP3 (y:ByteArray):Value:=.string y
def con46:Con:=Con.opt yP1 (fun x=>YJ.f x.1 x.2.1 x.2.2.1 x.2.2.2.1 x.2.2.2.2.1 x.2.2.2.2.2) yP3
def L46:List (Nat×Con):=[(49,con49),(58,con58)]
def yP4:List Value→Option (Int×Int×Int×Int×Int×Int×Int×Int×Int×Int)
 |[.agg ⟨[.int .i64 a,.int .u64 b,.int .u64 c,.int .i64 d,.int .u64 e,.int .u64 f]⟩,.agg ⟨[.int .i64 g,.int .u64 h,.int .u64 i,.int .i64 j]⟩]=>some (a,b,c,d,e,f,g,h,i,j)
 |_=>none
def yP5 (x:Int×Int×Int×Int×Int×Int×Int×Int×Int×Int):List Value:=[.agg #[.int .i64 x.1,.int .u64 x.2.1,.int .u64 x.2.2.1,.int .i64 x.2.2.2.1,.int .u64 x.2.2.2.2.1,.int .u64 x.2.2.2.2.2.1],.agg #[.int .i64 x.2.2.2.2.2.2.1,.int .u64 x.2.2.2.2.2.2.2.1,.int .u64 x.2.2.2.2.2.2.2.2.1,.int .i64 x.2.2.2.2.2.2.2.2.2]]
theorem yE2 {args:List Value}{a:Int×Int×Int×Int×Int×Int×Int×Int×Int×Int}(h:yP4 args=some a):args=yP5 a:=by
 unfold yP4 at h
 split at h
 case h_2=>cases h
 cases h;rfl
def yP6 (y:Bool):Value:=.bool y
def con50:Con:=Con.opt yP4 (fun x=>Yj0.f x.1 x.2.1 x.2.2.1 x.2.2.2.1 x.2.2.2.2.1 x.2.2.2.2.2.1 x.2.2.2.2.2.2.1 x.2.2.2.2.2.2.2.1 x.2.2.2.2.2.2.2.2.1 x.2.2.2.2.2.2.2.2.2) yP6
def L50:List (Nat×Con):=[(49,con49),(27,con27)]
def yP7:List Value→Option (Int×Int×Int×Int×Int×Int×Int×Int×Int×Int×Int×Int)
 |[.agg ⟨[.int .i64 a,.int .u64 b,.int .u64 c,.int .i64 d,.int .u64 e,.int .u64 f]⟩,.agg ⟨[.int .i64 g,.int .u64 h,.int .u64 i,.int .i64 j,.int .u64 k,.int .u64 l]⟩]=>some (a,b,c,d,e,f,g,h,i,j,k,l)
 |_=>none
def yP8 (x:Int×Int×Int×Int×Int×Int×Int×Int×Int×Int×Int×Int):List Value:=[.agg #[.int .i64 x.1,.int .u64 x.2.1,.int .u64 x.2.2.1,.int .i64 x.2.2.2.1,.int .u64 x.2.2.2.2.1,.int .u64 x.2.2.2.2.2.1],.agg #[.int .i64 x.2.2.2.2.2.2.1,.int .u64 x.2.2.2.2.2.2.2.1,.int .u64 x.2.2.2.2.2.2.2.2.1,.int .i64 x.2.2.2.2.2.2.2.2.2.1,.int .u64 x.2.2.2.2.2.2.2.2.2.2.1,.int .u64 x.2.2.2.2.2.2.2.2.2.2.2]]
theorem yE3 {args:List Value}{a:Int×Int×Int×Int×Int×Int×Int×Int×Int×Int×Int×Int}(h:yP7 args=some a):args=yP8 a:=by
 unfold yP7 at h
 split at h
 case h_2=>cases h
 cases h;rfl
def yP9 (y:Bool):Value:=.bool y
def con51:Con:=Con.opt yP7 (fun x=>YR.f x.1 x.2.1 x.2.2.1 x.2.2.2.1 x.2.2.2.2.1 x.2.2.2.2.2.1 x.2.2.2.2.2.2.1 x.2.2.2.2.2.2.2.1 x.2.2.2.2.2.2.2.2.1 x.2.2.2.2.2.2.2.2.2.1 x.2.2.2.2.2.2.2.2.2.2.1 x.2.2.2.2.2.2.2.2.2.2.2) yP9
def L51:List (Nat×Con):=[(49,con49),(38,con38)]
def yQa:List Value→Option (Int×Int×Int×Int×Int×Int×Int×Int×Int×Int×Int×Int)
 |[.agg ⟨[.int .i64 a,.int .u64 b,.int .u64 c,.int .i64 d,.int .u64 e,.int .u64 f]⟩,.agg ⟨[.int .i64 g,.int .u64 h,.int .u64 i,.int .i64 j,.int .u64 k,.int .u64 l]⟩]=>some (a,b,c,d,e,f,g,h,i,j,k,l)
 |_=>none
def yQb (x:Int×Int×Int×Int×Int×Int×Int×Int×Int×Int×Int×Int):List Value:=[.agg #[.int .i64 x.1,.int .u64 x.2.1,.int .u64 x.2.2.1,.int .i64 x.2.2.2.1,.int .u64 x.2.2.2.2.1,.int .u64 x.2.2.2.2.2.1],.agg #[.int .i64 x.2.2.2.2.2.2.1,.int .u64 x.2.2.2.2.2.2.2.1,.int .u64 x.2.2.2.2.2.2.2.2.1,.int .i64 x.2.2.2.2.2.2.2.2.2.1,.int .u64 x.2.2.2.2.2.2.2.2.2.2.1,.int .u64 x.2.2.2.2.2.2.2.2.2.2.2]]
theorem yE4 {args:List Value}{a:Int×Int×Int×Int×Int×Int×Int×Int×Int×Int×Int×Int}(h:yQa args=some a):args=yQb a:=by
 unfold yQa at h
 split at h
 case h_2=>cases h
 cases h;rfl
def yQc (y:Bool):Value:=.bool y
def con52:Con:=Con.opt yQa (fun x=>YS.f x.1 x.2.1 x.2.2.1 x.2.2.2.1 x.2.2.2.2.1 x.2.2.2.2.2.1 x.2.2.2.2.2.2.1 x.2.2.2.2.2.2.2.1 x.2.2.2.2.2.2.2.2.1 x.2.2.2.2.2.2.2.2.2.1 x.2.2.2.2.2.2.2.2.2.2.1 x.2.2.2.2.2.2.2.2.2.2.2) yQc
def L52:List (Nat×Con):=[(49,con49),(76,con76)]
theorem yW7 (a:Int)(b:Int)(c:Int)(d:Int)(e:Int)(f:Int)(Q:Value→Prop):zAo Tryz.prog (cwC L49) (zAa Tryz.f49) (zAg [.agg #[.int .i64 a,.int .u64 b,.int .u64 c,.int .i64 d,.int .u64 e,.int .u64 f]] 8) (zAh [] 64) (zA2 Tryz.prog Tryz.f49 fun v _=>Q v)=((∃ x0:Bool,((Ym.f a b c=Option.some x0)∧zAd (x0) ((∃ x1:Bool,((Ym.f d e f=Option.some x1)∧zAd (x1) (zAd (zAf (a=d)) ((∃ x2:Bool,((YC.f e f b c=Option.some x2)∧Q (Value.bool !x2)))) (Q (Value.bool Bool.false))) (Q (Value.bool Bool.false))))) (Q (Value.bool Bool.false))))):=by kernel_rfl
theorem yW8 (a:Int)(b:Int)(c:Int)(d:Int)(e:Int)(f:Int)(Q:Value→Prop):zAo Tryz.prog (cwC L46) (zAa Tryz.f46) (zAg [.agg #[.int .i64 a,.int .u64 b,.int .u64 c,.int .i64 d,.int .u64 e,.int .u64 f]] 8) (zAh [] 64) (zA2 Tryz.prog Tryz.f46 fun v _=>Q v)=((∃ x0:Bool,((Yk.f a b c d e f=Option.some x0)∧zAd (!x0) (Q (Value.string { data:=#[] })) ((∃ x1:ByteArray,((yUk a b c=Option.some x1)∧((ByteArray.size x1+ByteArray.size { data:=#[45] }≤9223372036854775807)∧(∃ x2:ByteArray,((yUk d e f=Option.some x2)∧((ByteArray.size (x1++{ data:=#[45] })+ByteArray.size x2≤9223372036854775807)∧Q (Value.string (x1++{ data:=#[45] }++x2)))))))))))):=by kernel_rfl
theorem yW9 (a:Int)(b:Int)(c:Int)(d:Int)(e:Int)(f:Int)(g:Int)(h:Int)(i:Int)(j:Int)(Q:Value→Prop):zAo Tryz.prog (cwC L50) (zAa Tryz.f50) (zAg [.agg #[.int .i64 a,.int .u64 b,.int .u64 c,.int .i64 d,.int .u64 e,.int .u64 f],.agg #[.int .i64 g,.int .u64 h,.int .u64 i,.int .i64 j]] 8) (zAh [] 64) (zA2 Tryz.prog Tryz.f50 fun v _=>Q v)=((∃ x0:Bool,((Yk.f a b c d e f=Option.some x0)∧zAd (x0) ((∃ x1:Bool,((Ya0.f g h i j a b c=Option.some x1)∧zAd (x1) ((∃ x2:Bool,((Ya0.f g h i j d e f=Option.some x2)∧Q (Value.bool x2)))) (Q (Value.bool Bool.false))))) (Q (Value.bool Bool.false))))):=by kernel_rfl
theorem yXa (a:Int)(b:Int)(c:Int)(d:Int)(e:Int)(f:Int)(g:Int)(h:Int)(i:Int)(j:Int)(k:Int)(l:Int)(Q:Value→Prop):zAo Tryz.prog (cwC L51) (zAa Tryz.f51) (zAg [.agg #[.int .i64 a,.int .u64 b,.int .u64 c,.int .i64 d,.int .u64 e,.int .u64 f],.agg #[.int .i64 g,.int .u64 h,.int .u64 i,.int .i64 j,.int .u64 k,.int .u64 l]] 8) (zAh [] 64) (zA2 Tryz.prog Tryz.f51 fun v _=>Q v)=((∃ x0:Bool,((Yk.f a b c d e f=Option.some x0)∧zAd (x0) ((∃ x1:Bool,((Yk.f g h i j k l=Option.some x1)∧zAd (x1) (zAd (zAf (a=g)) ((∃ x2:Bool,((YC.f e f h i=Option.some x2)∧zAd (!x2) ((∃ x3:Bool,((YC.f k l b c=Option.some x3)∧Q (Value.bool !x3)))) (Q (Value.bool Bool.false))))) (Q (Value.bool Bool.false))) (Q (Value.bool Bool.false))))) (Q (Value.bool Bool.false))))):=by kernel_rfl
theorem yXb (a:Int)(b:Int)(c:Int)(d:Int)(e:Int)(f:Int)(g:Int)(h:Int)(i:Int)(j:Int)(k:Int)(l:Int)(Q:Value→Prop):zAo Tryz.prog (cwC L52) (zAa Tryz.f52) (zAg [.agg #[.int .i64 a,.int .u64 b,.int .u64 c,.int .i64 d,.int .u64 e,.int .u64 f],.agg #[.int .i64 g,.int .u64 h,.int .u64 i,.int .i64 j,.int .u64 k,.int .u64 l]] 8) (zAh [] 64) (zA2 Tryz.prog Tryz.f52 fun v _=>Q v)=((∃ x0:Bool,((Yk.f a b c d e f=Option.some x0)∧zAd (x0) ((∃ x1:Bool,((Yk.f g h i j k l=Option.some x1)∧zAd (x1) ((∃ x2:Bool,((Yd.f a b c g h i=Option.some x2)∧zAd (x2) (Q (Value.bool Bool.true)) (zAd (zAf (a=g)&&(zAf (b=h)&&(zAf (c=i)&&Bool.true))) ((∃ x3:Bool,((Yd.f d e f j k l=Option.some x3)∧Q (Value.bool x3)))) (Q (Value.bool Bool.false)))))) (Q (Value.bool Bool.false))))) (Q (Value.bool Bool.false))))):=by kernel_rfl
theorem yXc (x:Int×Int×Int×Int×Int×Int)(y:Bool)(hx:Yk.f x.1 x.2.1 x.2.2.1 x.2.2.2.1 x.2.2.2.2.1 x.2.2.2.2.2=some y):zAo Tryz.prog (cwC L49) (zAa Tryz.f49) (zAg (zRp x) 8) (zAh [] 64) (zA2 Tryz.prog Tryz.f49 fun v' _=>v'=yP0 y):=by
 obtain⟨a,b,c,d,e,f⟩:=x
 refine(yW7 a b c d e f _).mpr ?_
 unfold Yk.f at hx
 try simp only[zBn,zA5,zBk]
 repeat' first
  |(obtain⟨y,hy,hx⟩:=xGs.1 hx;refine⟨y,hy,?_⟩)
  |((first|refine bifW_c (fun hc=>?_) fun hc=>?_|refine bifW_n (fun hc=>?_) fun hc=>?_|refine bifW_b (fun hc=>?_) fun hc=>?_)<;>first|rw[xGq hc] at hx|rw[xGr hc] at hx|rw[xGq (xG9.1 hc)] at hx)
  |(split at hx<;>first|(cases hx;done)|(refine xGy (by assumption) ?_))
  |(cases hx;rfl)
  |(cases hx;simp only[yP0,zAz,zAx,xHe])
theorem yQd {W:World}(hW:GoodW W):zAk Tryz.prog W 6 49 con49.own:=
 zA0 zRp (Laying.empty hW.size) hW.size (by decide) zAl (OwnsAll.con (yQ3 hW) (OwnsAll.con (yWa hW) (zAb W 6))) Tryz.func49 (fn:=Tryz.f49) (c:=zAa Tryz.f49) (by kernel_rfl) (by kernel_rfl) (fun _ _ h=>zNy h) (fun a=>⟨rfl,(by kernel_rfl)⟩) (fun b=>rfl) yXc
theorem yXd (x:Int×Int×Int×Int×Int×Int)(y:ByteArray)(hx:YJ.f x.1 x.2.1 x.2.2.1 x.2.2.2.1 x.2.2.2.2.1 x.2.2.2.2.2=some y):zAo Tryz.prog (cwC L46) (zAa Tryz.f46) (zAg (yP2 x) 8) (zAh [] 64) (zA2 Tryz.prog Tryz.f46 fun v' _=>v'=yP3 y):=by
 obtain⟨a,b,c,d,e,f⟩:=x
 refine(yW8 a b c d e f _).mpr ?_
 unfold YJ.f at hx
 try simp only[zBn,zA5,zBk]
 repeat' first
  |(obtain⟨y,hy,hx⟩:=xGs.1 hx;refine⟨y,hy,?_⟩)
  |((first|refine bifW_c (fun hc=>?_) fun hc=>?_|refine bifW_n (fun hc=>?_) fun hc=>?_|refine bifW_b (fun hc=>?_) fun hc=>?_)<;>first|rw[xGq hc] at hx|rw[xGr hc] at hx|rw[xGq (xG9.1 hc)] at hx)
  |(split at hx<;>first|(cases hx;done)|(refine xGy (by assumption) ?_))
  |(cases hx;rfl)
  |(cases hx;simp only[yP3,zAz,zAx,xHe])
theorem xGc {W:World}(hW:GoodW W):zAk Tryz.prog W 6 46 con46.own:=
 zA0 yP2 (Laying.empty hW.size) hW.size (by decide) zAl (OwnsAll.con (yQd hW) (OwnsAll.con (xDz hW) (zAb W 6))) Tryz.func46 (fn:=Tryz.f46) (c:=zAa Tryz.f46) (by kernel_rfl) (by kernel_rfl) (fun _ _ h=>yE1 h) (fun a=>⟨rfl,(by kernel_rfl)⟩) (fun b=>rfl) yXd
theorem yXe (x:Int×Int×Int×Int×Int×Int×Int×Int×Int×Int)(y:Bool)(hx:Yj0.f x.1 x.2.1 x.2.2.1 x.2.2.2.1 x.2.2.2.2.1 x.2.2.2.2.2.1 x.2.2.2.2.2.2.1 x.2.2.2.2.2.2.2.1 x.2.2.2.2.2.2.2.2.1 x.2.2.2.2.2.2.2.2.2=some y):zAo Tryz.prog (cwC L50) (zAa Tryz.f50) (zAg (yP5 x) 8) (zAh [] 64) (zA2 Tryz.prog Tryz.f50 fun v' _=>v'=yP6 y):=by
 obtain⟨a,b,c,d,e,f,g,h,i,j⟩:=x
 refine(yW9 a b c d e f g h i j _).mpr ?_
 unfold Yj0.f at hx
 try simp only[zBn,zA5,zBk]
 repeat' first
  |(obtain⟨y,hy,hx⟩:=xGs.1 hx;refine⟨y,hy,?_⟩)
  |((first|refine bifW_c (fun hc=>?_) fun hc=>?_|refine bifW_n (fun hc=>?_) fun hc=>?_|refine bifW_b (fun hc=>?_) fun hc=>?_)<;>first|rw[xGq hc] at hx|rw[xGr hc] at hx|rw[xGq (xG9.1 hc)] at hx)
  |(split at hx<;>first|(cases hx;done)|(refine xGy (by assumption) ?_))
  |(cases hx;rfl)
  |(cases hx;simp only[yP6,zAz,zAx,xHe])
theorem xGd {W:World}(hW:GoodW W):zAk Tryz.prog W 6 50 con50.own:=
 zA0 yP5 (Laying.empty hW.size) hW.size (by decide) zAl (OwnsAll.con (yQd hW) (OwnsAll.con (xC6 hW) (zAb W 6))) Tryz.func50 (fn:=Tryz.f50) (c:=zAa Tryz.f50) (by kernel_rfl) (by kernel_rfl) (fun _ _ h=>yE2 h) (fun a=>⟨rfl,(by kernel_rfl)⟩) (fun b=>rfl) yXe
theorem yXf (x:Int×Int×Int×Int×Int×Int×Int×Int×Int×Int×Int×Int)(y:Bool)(hx:YR.f x.1 x.2.1 x.2.2.1 x.2.2.2.1 x.2.2.2.2.1 x.2.2.2.2.2.1 x.2.2.2.2.2.2.1 x.2.2.2.2.2.2.2.1 x.2.2.2.2.2.2.2.2.1 x.2.2.2.2.2.2.2.2.2.1 x.2.2.2.2.2.2.2.2.2.2.1 x.2.2.2.2.2.2.2.2.2.2.2=some y):zAo Tryz.prog (cwC L51) (zAa Tryz.f51) (zAg (yP8 x) 8) (zAh [] 64) (zA2 Tryz.prog Tryz.f51 fun v' _=>v'=yP9 y):=by
 obtain⟨a,b,c,d,e,f,g,h,i,j,k,l⟩:=x
 refine(yXa a b c d e f g h i j k l _).mpr ?_
 unfold YR.f at hx
 try simp only[zBn,zA5,zBk]
 repeat' first
  |(obtain⟨y,hy,hx⟩:=xGs.1 hx;refine⟨y,hy,?_⟩)
  |((first|refine bifW_c (fun hc=>?_) fun hc=>?_|refine bifW_n (fun hc=>?_) fun hc=>?_|refine bifW_b (fun hc=>?_) fun hc=>?_)<;>first|rw[xGq hc] at hx|rw[xGr hc] at hx|rw[xGq (xG9.1 hc)] at hx)
  |(split at hx<;>first|(cases hx;done)|(refine xGy (by assumption) ?_))
  |(cases hx;rfl)
  |(cases hx;simp only[yP9,zAz,zAx,xHe])
theorem xGe {W:World}(hW:GoodW W):zAk Tryz.prog W 6 51 con51.own:=
 zA0 yP8 (Laying.empty hW.size) hW.size (by decide) zAl (OwnsAll.con (yQd hW) (OwnsAll.con (yWa hW) (zAb W 6))) Tryz.func51 (fn:=Tryz.f51) (c:=zAa Tryz.f51) (by kernel_rfl) (by kernel_rfl) (fun _ _ h=>yE3 h) (fun a=>⟨rfl,(by kernel_rfl)⟩) (fun b=>rfl) yXf
theorem yXg (x:Int×Int×Int×Int×Int×Int×Int×Int×Int×Int×Int×Int)(y:Bool)(hx:YS.f x.1 x.2.1 x.2.2.1 x.2.2.2.1 x.2.2.2.2.1 x.2.2.2.2.2.1 x.2.2.2.2.2.2.1 x.2.2.2.2.2.2.2.1 x.2.2.2.2.2.2.2.2.1 x.2.2.2.2.2.2.2.2.2.1 x.2.2.2.2.2.2.2.2.2.2.1 x.2.2.2.2.2.2.2.2.2.2.2=some y):zAo Tryz.prog (cwC L52) (zAa Tryz.f52) (zAg (yQb x) 8) (zAh [] 64) (zA2 Tryz.prog Tryz.f52 fun v' _=>v'=yQc y):=by
 obtain⟨a,b,c,d,e,f,g,h,i,j,k,l⟩:=x
 refine(yXb a b c d e f g h i j k l _).mpr ?_
 unfold YS.f at hx
 simp only[zAx] at hx
 simp only[xHe]
 try simp only[zBn,zA5,zBk]
 repeat' first
  |(obtain⟨y,hy,hx⟩:=xGs.1 hx;refine⟨y,hy,?_⟩)
  |((first|refine bifW_c (fun hc=>?_) fun hc=>?_|refine bifW_n (fun hc=>?_) fun hc=>?_|refine bifW_b (fun hc=>?_) fun hc=>?_)<;>first|rw[xGq hc] at hx|rw[xGr hc] at hx|rw[xGq (xG9.1 hc)] at hx)
  |(split at hx<;>first|(cases hx;done)|(refine xGy (by assumption) ?_))
  |(cases hx;rfl)
  |(cases hx;simp only[yQc,zAz,zAx,xHe])
theorem xGf {W:World}(hW:GoodW W):zAk Tryz.prog W 6 52 con52.own:=
 zA0 yQb (Laying.empty hW.size) hW.size (by decide) zAl (OwnsAll.con (yQd hW) (OwnsAll.con (yYl hW) (zAb W 6))) Tryz.func52 (fn:=Tryz.f52) (c:=zAa Tryz.f52) (by kernel_rfl) (by kernel_rfl) (fun _ _ h=>yE4 h) (fun a=>⟨rfl,(by kernel_rfl)⟩) (fun b=>rfl) yXg
end Go.Proofs.YtfnacgojmdbjmaaGreatDoor
namespace Go.Proofs.YtfnacgojmdbjmaaGreatDoor
open Go.Det Go.RowKit PRD Go.Proofs.ZW
abbrev vI (x:Int):Value:=.int .i64 x
abbrev vU (x:Int):Value:=.int .u64 x
abbrev vP (b:Nat):Value:=.pointer (some ⟨b,0,none⟩)
abbrev vS (b n c:Nat):Value:=.slice (some ⟨b,0,none⟩) n c
abbrev bE (a b:List Value)(e:Nat):Prop:=eqL a b∧(e=e∧false=false)
abbrev rE (a b:List Value)(e:Nat):Prop:=a=b∧(e=e∧false=false)
abbrev Q4:Type:=Int×Int×Int×Int
def encQ (x:Q4):List Value:=[.int .i64 x.1,.int .u64 x.2.1,.int .u64 x.2.2.1,.int .i64 x.2.2.2]
theorem yE5 (t:List Q4):∀ v∈t.flatMap encQ,flat v=true:=by
 intro v hv
 obtain⟨y,_,hy⟩:=List.mem_flatMap.1 hv
 simp only[encQ,xG6,xHh,or_false] at hy
 rcases hy with rfl|rfl|rfl|rfl<;>rfl
theorem zKf (N:Nat)(t:List Q4):yKz N (t.flatMap encQ)=true:=by
 refine List.all_eq_true.2 fun v hv=>?_
 obtain⟨y,_,hy⟩:=List.mem_flatMap.1 hv
 simp only[encQ,xG6,xHh,or_false] at hy
 rcases hy with rfl|rfl|rfl|rfl<;>rfl
structure CvV where
 r0:Int
 r1:Int
 r2:Int
 r3:Int
 r4:Int
 r5:Int
 a0:Int
 a1:Int
 a2:Int
 out:List Q4
 n:Int
def cCr (v:CvV):List Value:=[.int .i64 v.r0,.int .u64 v.r1,.int .u64 v.r2,.int .i64 v.r3,.int .u64 v.r4,.int .u64 v.r5]
def cCa (v:CvV):List Value:=[.int .i64 v.a0,.int .u64 v.a1,.int .u64 v.a2]
def cCp (v:CvV):List Value:=[.int .i64 v.a0,.int .u64 v.a1,.int .u64 v.a2,.int .i64 v.n]
def oV (k:Bool)(v:CvV):Value:=match k with
 |true=>.slice (some ⟨66,0,none⟩) v.out.length (zBa+4)
 |false=>.slice none 0 0
def hN (k:Bool):Nat:=match k with|true=>67|false=>66
def zLo (k:Bool)(v:CvV):zK4:=[(1,.pointer (some ⟨64,0,none⟩)),(3,oV k v),(4,.pointer (some ⟨65,0,none⟩))]
def zNz (k:Bool)(v:CvV):zZf:=match k with
 |true=>[(64,cCr v,105,false),(65,cCa v,57,false),(66,v.out.flatMap encQ,60,false)]
 |false=>[(64,cCr v,105,false),(65,cCa v,57,false)]
def yIl (k:Bool)(v:CvV):zK4:=(5,.pointer (some ⟨hN k,0,none⟩))::zLo k v
def yJ3 (k:Bool)(v:CvV):zZf:=(hN k,cCp v,61,false)::zNz k v
def zV2 (v:CvV)(l:zAv)(s:St):Prop:=zI9 l (zLo false v)∧zPj s 64 (cCr v) 105 false∧zPj s 65 (cCa v) 57 false
theorem zKr {v:CvV}{l:zAv}{s:St}(h:zV2 v l s):zDf l s (zBo (zLo false v)) (zDr (zNz false v) (hN false)):=by
 obtain⟨h1,h2,h3⟩:=h
 refine zEv (by decide) (fun x hx=>?_) (fun x hx=>?_) h1 ⟨zBu h2,zBu h3,trivial⟩
 ·simp only[zLo,xG6,xHh,or_false] at hx
  rcases hx with rfl|rfl|rfl<;>rfl
 ·simp only[zNz,xG6,xHh,or_false] at hx
  rcases hx with rfl|rfl
  ·exact⟨show(64:Nat)≤64∧64 < 66 by decide,rfl⟩
  ·exact⟨show(64:Nat)≤65∧65 < 66 by decide,rfl⟩
def zN0 (k:Bool)(v:CvV)(l:zAv)(s:St):Prop:=zI9 l (yIl k v)∧zPj s 64 (cCr v) 105 false∧zPj s 65 (cCa v) 57 false∧zPj s (hN k) (cCp v) 61 false∧(match k with|true=>yG1 s 66 (v.out.flatMap encQ) 60 false|false=>True)
theorem zKs {k:Bool}{v:CvV}{l:zAv}{s:St}(h:zN0 k v l s):zDf l s (zBo (yIl k v)) (zDr (yJ3 k v) (hN k+1)):=by
 obtain⟨h1,h2,h3,h4,h5⟩:=h
 cases k with
 |true=>
  refine zEv (by decide) (fun x hx=>?_) (fun x hx=>?_) h1 ⟨zBu h4,zBu h2,zBu h3,zGi h5,trivial⟩
  ·simp only[yIl,zLo,xG6,xHh,or_false] at hx
   rcases hx with rfl|rfl|rfl|rfl<;>rfl
  ·simp only[yJ3,zNz,xG6,xHh,or_false] at hx
   rcases hx with rfl|rfl|rfl|rfl
   ·exact⟨show(64:Nat)≤67∧67 < 68 by decide,rfl⟩
   ·exact⟨show(64:Nat)≤64∧64 < 68 by decide,rfl⟩
   ·exact⟨show(64:Nat)≤65∧65 < 68 by decide,rfl⟩
   ·exact⟨show(64:Nat)≤66∧66 < 68 by decide,zKf _ _⟩
 |false=>
  refine zEv (by decide) (fun x hx=>?_) (fun x hx=>?_) h1 ⟨zBu h4,zBu h2,zBu h3,trivial⟩
  ·simp only[yIl,zLo,xG6,xHh,or_false] at hx
   rcases hx with rfl|rfl|rfl|rfl<;>rfl
  ·simp only[yJ3,zNz,xG6,xHh,or_false] at hx
   rcases hx with rfl|rfl|rfl
   ·exact⟨show(64:Nat)≤66∧66 < 67 by decide,rfl⟩
   ·exact⟨show(64:Nat)≤64∧64 < 67 by decide,rfl⟩
   ·exact⟨show(64:Nat)≤65∧65 < 67 by decide,rfl⟩
def zIm (v:CvV)(l:zAv)(s:St):Prop:=zD7 l 1=.pointer (some ⟨64,0,none⟩)∧zPj s 64 (cCr v) 105 false∧(match zD7 l 3,zD7 l 4 with
 |.slice (some ⟨m,0,none⟩) n c,.pointer (some ⟨p,0,none⟩)=>n=v.out.length∧c=zBa+4∧Nat.blt 64 m=true∧Nat.blt 64 p=true∧Nat.beq m p=false∧yG1 s m (v.out.flatMap encQ) 60 false∧zPj s p (cCa v) 57 false
 |_,_=>False)
theorem zKt {v:CvV}{l:zAv}{s:St}(h:zIm v l s):zDf l s (zBo (zLo true v)) (zDr (zNz true v) (hN true)):=by
 obtain⟨h1,h2,h3⟩:=h
 split at h3
 case h_2=>exact h3.elim
 rename_i m n c p e3 e4
 obtain⟨rfl,rfl,hm,hp,hne,h5,h6⟩:=h3
 have hm:64 < m:=xHg hm
 have hp:64 < p:=xHg hp
 have hne:m≠p:=fun q=>by rw[q,Nat.beq_refl] at hne;cases hne
 let ρ:Nat→Option Nat:=fun i=>if i=64 then some 64 else if i=65 then some p else if i=66 then some m else none
 have r4:ρ 64=some 64:=rfl
 have r5:ρ 65=some p:=rfl
 have r6:ρ 66=some m:=rfl
 have rr:∀ i o,ρ i=some o→(i=64∧o=64)∨(i=65∧o=p)∨(i=66∧o=m):=by
  intro i o h
  show _
  simp only[ρ] at h
  split at h
  ·rename_i q;cases h;exact .inl ⟨q,rfl⟩
  ·split at h
   ·rename_i q;cases h;exact .inr (.inl ⟨q,rfl⟩)
   ·split at h
    ·rename_i q;cases h;exact .inr (.inr ⟨q,rfl⟩)
    ·cases h
 refine yIk ρ (by decide) (fun x hx=>?_) (fun x hx=>?_) (fun i j o hi hj=>?_) (fun i o hi=>?_) (fun i hi=>?_)
 ·simp only[zLo,xG6,xHh,or_false] at hx
  rcases hx with rfl|rfl|rfl
  ·show Wk ρ _ (zD7 l 1)
   rw[h1];exact Wk.ptr (by decide) r4
  ·show Wk ρ _ (zD7 l 3)
   rw[e3];exact Wk.slice (by decide) r6
  ·show Wk ρ _ (zD7 l 4)
   rw[e4];exact Wk.ptr (by decide) r5
 ·have fl:∀ cs:List Value,(∀ v∈cs,flat v=true)→∀ i,Wk ρ (cs.getD i und) (cs.getD i und):=by
   intro cs hc i
   rcases xHr i cs.length with c|c
   ·rw[xGw,xGz c];exact Wk.flat (hc _ (xH3 c))
   ·rw[xGw,xHy c];exact Wk.und _ _
  simp only[zNz,xG6,xHh,or_false] at hx
  rcases hx with rfl|rfl|rfl
  ·exact⟨show(64:Nat)≤64 by decide,show(64:Nat) < 67 by decide,64,_,r4,zBu h2,rfl,fl _ fun v hv=>by
    simp only[cCr,xG6,xHh,or_false] at hv
    rcases hv with rfl|rfl|rfl|rfl|rfl|rfl<;>rfl⟩
  ·exact⟨show(64:Nat)≤65 by decide,show(65:Nat) < 67 by decide,p,_,r5,zBu h6,rfl,fl _ fun v hv=>by
    simp only[cCa,xG6,xHh,or_false] at hv
    rcases hv with rfl|rfl|rfl<;>rfl⟩
  ·exact⟨show(64:Nat)≤66 by decide,show(66:Nat) < 67 by decide,m,_,r6,zGi h5,rfl,fl _ (yE5 _)⟩
 ·rcases rr i o hi with⟨rfl,rfl⟩|⟨rfl,rfl⟩|⟨rfl,rfl⟩<;>rcases rr j _ hj with⟨rfl,h⟩|⟨rfl,h⟩|⟨rfl,h⟩<;>first|rfl|omega
 ·rcases rr i o hi with⟨_,rfl⟩|⟨_,rfl⟩|⟨_,rfl⟩<;>omega
 ·have:67≤i:=hi
  simp only[ρ]
  rw[xGr (by omega),xGr (by omega),xGr (by omega)]
def yQ9 (r:List Q4)(v:Value)(s:St):Prop:=match v with
 |.slice none 0 0=>r=[]
 |.slice (some ⟨k,0,none⟩) n c=>n=r.length∧r≠[]∧c=zBa+4∧yG1 s k (r.flatMap encQ) 60 false
 |_=>False
def oxA (d:Nat)(k:Bool)(n:Nat):Option OpX:=match k&&Nat.beq d n with
 |true=>some (yW6 Tryz.prog encQ 4)
 |false=>none
theorem zPw {cw:Cw}(d:Nat)(k:Bool):zVb Tryz.prog cw (oxA d k):=by
 intro n X hX o l s K h
 unfold oxA at hX
 split at hX
 ·cases hX
  exact yPz (enc:=encQ) (sz:=4) (fun _=>rfl) (by decide) (fun _=>rfl) h
 ·cases hX
inductive Once {V:Type} (R:V→V→Prop) (a b:V):Prop
 |mk (h:R a b):Once R a b
def Lcg:List (Nat×Con):=[(49,con49),(45,con45),(16,con16),(25,con25),(76,con76),(54,con54)]
theorem yXh {W:World}(hW:GoodW W):OwnsAll Tryz.prog W 6 (zZ2 Lcg):=
 OwnsAll.con (yQd hW) (OwnsAll.con (yR2 hW) (OwnsAll.con (yVn hW) (OwnsAll.con (yZ3 hW) (OwnsAll.con (yYl hW) (OwnsAll.con (xDm hW) (zAb W 6))))))
def zHi:Code:=match zBb (zAa Tryz.f53) with|a::_=>a|[]=>.skip
def zPx:Code:=match zBb zHi with|a::_=>a|[]=>.skip
def zPy (k:Bool)(v v1:CvV):Prop:=zB8 Tryz.prog (cwC Lcg) oxN lxM zPx (zBo (yIl k v)) (zDr (yJ3 k v) (hN k+1)) (zCi (fun l s=>zN0 k v1 l s) (fun _ _ _=>False))
def yYt (k:Bool):LpX:=fun l s K=>∃ v:CvV,zN0 k v l s∧∃ v':CvV,Star (zPy k) v v'∧zB8 Tryz.prog (cwC Lcg) oxN lxM zPx (zBo (yIl k v')) (zDr (yJ3 k v') (hN k+1)) (zCi (fun _ _=>False) K)
def yQe (k:Bool)(n:Nat):Option LpX:=match Nat.beq n 5 with|true=>some (yYt k)|false=>none
theorem zV3 (k:Bool):zZe Tryz.prog (cwC Lcg) (yQe k) (zBb zHi):=by
 have e:zBb zHi=[zPx]:=by kernel_rfl
 rw[e]
 intro a ha X hX l s K h
 obtain rfl:=xHs.1 ha
 have e2:yQe k (zJt zPx)=some (yYt k):=by cases k<;>kernel_rfl
 rw[e2] at hX
 cases hX
 obtain⟨v,hv,v',hs,he⟩:=h
 have hm:=zAp Lcg
 refine zEu hm (fun v=>zBo (yIl k v)) (fun v=>zDr (yJ3 k v) (hN k+1)) (fun v v1 hstep=>?_) hs (zKs hv) (zAr hm zF0 _ (zFg _) he)
 exact zA1 hm _ (zBq (fun l s q=>zKs q) fun _ _ _ q=>q) (zAr hm zF0 _ (zFg _) hstep)
def zKu (k:Bool)(v v1:CvV):Prop:=zB8 Tryz.prog (cwC Lcg) (oxA 40 k) (yQe k) zHi (zBo (zLo k v)) (zDr (zNz k v) (hN k)) (zCi (fun l s=>zIm v1 l s) (fun _ _ _=>False))
def yYu:LpX:=fun l s K=>∃ v:CvV,zV2 v l s∧(zB8 Tryz.prog (cwC Lcg) (oxA 40 false) (yQe false) zHi (zBo (zLo false v)) (zDr (zNz false v) (hN false)) (zCi (fun _ _=>False) K)∨
 ∃ v1,Once (zKu false) v v1∧∃ v',Star (zKu true) v1 v'∧zB8 Tryz.prog (cwC Lcg) (oxA 40 true) (yQe true) zHi (zBo (zLo true v')) (zDr (zNz true v') (hN true)) (zCi (fun _ _=>False) K))
theorem zXs {cw:Cw}(hm:zDs cw){a:Code}{V:Type}(L:Bool→V→zAv)(S:Bool→V→St){Step:V→V→Prop}
  (hstep:∀ v v1,Step v v1→zAo Tryz.prog cw a (L true v) (S true v) (zCi (fun l s=>zDf l s (L true v1) (S true v1)) (fun _ _ _=>False)))
  {v:V} {K:KC} {l:zAv} {s:St} (hw:zDf l s (L false v) (S false v))
  (h:zAo Tryz.prog cw a (L false v) (S false v) (zCi (fun _ _=>False) K)∨∃ v1,zAo Tryz.prog cw a (L false v) (S false v) (zCi (fun l s=>zDf l s (L true v1) (S true v1)) (fun _ _ _=>False))∧∃ v',Star Step v1 v'∧zAo Tryz.prog cw a (L true v') (S true v') (zCi (fun _ _=>False) K)):
  zAo Tryz.prog cw (.loop a) l s K:=by
 rcases h with h|⟨v1,h1,v',hs,he⟩
 ·exact zHt hw (zD5 hm (zA1 hm a (zBq (fun _ _ h=>h.elim) (fun _ _ _ h=>h)) h))
 ·exact zHt hw (zD5 hm (zA1 hm a (zBq (fun _ _ q=>zEu hm (L true) (S true) hstep hs q he) (fun _ _ _ h=>h.elim)) h1))
def yXi (n:Nat):Option LpX:=match Nat.beq n 3 with|true=>some yYu|false=>none
theorem yQf:zZe Tryz.prog (cwC Lcg) yXi (zBb (zAa Tryz.f53)):=by
 have e:zBb (zAa Tryz.f53)=[zHi]:=by kernel_rfl
 rw[e]
 intro a ha X hX l s K h
 obtain rfl:=xHs.1 ha
 have e2:yXi (zJt zHi)=some yYu:=by kernel_rfl
 rw[e2] at hX
 cases hX
 have hm:=zAp Lcg
 have up:∀ k v v1,zKu k v v1→zAo Tryz.prog (cwC Lcg) zHi (zBo (zLo k v)) (zDr (zNz k v) (hN k)) (zCi (fun l s=>zDf l s (zBo (zLo true v1)) (zDr (zNz true v1) (hN true))) (fun _ _ _=>False)):=
  fun k v v1 q=>zA1 hm _ (zBq (fun l s q=>zKt q) fun _ _ _ q=>q) (zAr hm (zPw _ _) _ (zV3 _) q)
 obtain⟨v,hv,h⟩:=h
 refine zXs hm (fun k v=>zBo (zLo k v)) (fun k v=>zDr (zNz k v) (hN k)) (up true) (zKr hv) ?_
 rcases h with h|⟨v1,⟨h1⟩,v',hs,he⟩
 ·exact .inl (zAr hm (zPw _ _) _ (zV3 _) h)
 ·exact .inr ⟨v1,up false _ _ h1,v',hs,zAr hm (zPw _ _) _ (zV3 _) he⟩
def Lcr:List (Nat×Con):=[(48,con48),(77,ySs 400),(24,con24),(78,con78),(75,con75)]
theorem yXj {W:World}(hW:GoodW W):OwnsAll Tryz.prog W 6 (zZ2 Lcr):=
 OwnsAll.con (yNe hW) (OwnsAll.con (xDu hW 400) (OwnsAll.con (yYb hW) (OwnsAll.con (yZ8 hW) (OwnsAll.con (yR4 hW) (zAb W 6)))))
def zKv:Code:=match zBb (zAa Tryz.f33) with|a::_=>a|[]=>.skip
def zKw (k:Bool)(v v1:CvV):Prop:=zB8 Tryz.prog (cwC Lcr) (oxA 20 k) lxM zKv (zBo (zLo k v)) (zDr (zNz k v) (hN k)) (zCi (fun l s=>zIm v1 l s) (fun _ _ _=>False))
def yYv:LpX:=fun l s K=>∃ v:CvV,zV2 v l s∧(zB8 Tryz.prog (cwC Lcr) (oxA 20 false) lxM zKv (zBo (zLo false v)) (zDr (zNz false v) (hN false)) (zCi (fun _ _=>False) K)∨
 ∃ v1,Once (zKw false) v v1∧∃ v',Star (zKw true) v1 v'∧zB8 Tryz.prog (cwC Lcr) (oxA 20 true) lxM zKv (zBo (zLo true v')) (zDr (zNz true v') (hN true)) (zCi (fun _ _=>False) K))
def yXk (n:Nat):Option LpX:=match Nat.beq n 5 with|true=>some yYv|false=>none
theorem yQg:zZe Tryz.prog (cwC Lcr) yXk (zBb (zAa Tryz.f33)):=by
 have e:zBb (zAa Tryz.f33)=[zKv]:=by kernel_rfl
 rw[e]
 intro a ha X hX l s K h
 obtain rfl:=xHs.1 ha
 have e2:yXk (zJt zKv)=some yYv:=by kernel_rfl
 rw[e2] at hX
 cases hX
 have hm:=zAp Lcr
 have up:∀ k v v1,zKw k v v1→zAo Tryz.prog (cwC Lcr) zKv (zBo (zLo k v)) (zDr (zNz k v) (hN k)) (zCi (fun l s=>zDf l s (zBo (zLo true v1)) (zDr (zNz true v1) (hN true))) (fun _ _ _=>False)):=
  fun k v v1 q=>zA1 hm _ (zBq (fun l s q=>zKt q) fun _ _ _ q=>q) (zAr hm (zPw _ _) _ (zFg _) q)
 obtain⟨v,hv,h⟩:=h
 refine zXs hm (fun k v=>zBo (zLo k v)) (fun k v=>zDr (zNz k v) (hN k)) (up true) (zKr hv) ?_
 rcases h with h|⟨v1,⟨h1⟩,v',hs,he⟩
 ·exact .inl (zAr hm (zPw _ _) _ (zFg _) h)
 ·exact .inr ⟨v1,up false _ _ h1,v',hs,zAr hm (zPw _ _) _ (zFg _) he⟩
theorem yXl (v v1:CvV)(Kp:Prop):zB8 Tryz.prog (cwC Lcg) oxN lxM zPx (zBo (yIl false v)) (zDr (yJ3 false v) (hN false+1)) (zCi (fun l s=>zN0 false v1 l s) (fun _ _ _=>Kp))=(zAd (zAf (0 < v.n)) ((∃ x0:Bool,((Yi.f v.a0 v.a1 v.a2 (IntKind.wrap .i64 (v.n - 1))=some x0)∧zAd (!x0) Kp ((∃ x1:Int×Int×Int,((Yq.f v.a0 v.a1 v.a2 (IntKind.wrap .i64 (v.n - 1))=some x1)∧(∃ x2:Bool,((Yd.f v.r3 v.r4 v.r5 x1.1 x1.2.1 x1.2.2=some x2)∧zAd x2 Kp (((eqL [vP 66,vP 64,Value.slice none 0 0,vP 65] [vP 66,vP 64,Value.slice none 0 0,vP 65])∧((bE (cCr v) (cCr v1) 105)∧((bE (cCa v) (cCa v1) 57)∧((bE [vI v.a0,vU v.a1,vU v.a2,vI (IntKind.wrap .i64 (v.n - 1))] (cCp v1) 61)∧True))))))))))))) Kp):=by kernel_rfl
theorem yXm (v v1:CvV)(Kp:Prop):zB8 Tryz.prog (cwC Lcg) oxN lxM zPx (zBo (yIl true v)) (zDr (yJ3 true v) (hN true+1)) (zCi (fun l s=>zN0 true v1 l s) (fun _ _ _=>Kp))=(zAd (zAf (0 < v.n)) ((∃ x0:Bool,((Yi.f v.a0 v.a1 v.a2 (IntKind.wrap .i64 (v.n - 1))=some x0)∧zAd (!x0) Kp ((∃ x1:Int×Int×Int,((Yq.f v.a0 v.a1 v.a2 (IntKind.wrap .i64 (v.n - 1))=some x1)∧(∃ x2:Bool,((Yd.f v.r3 v.r4 v.r5 x1.1 x1.2.1 x1.2.2=some x2)∧zAd x2 Kp (((eqL [vP 67,vP 64,vS 66 (List.length v.out) (zBa+4),vP 65] [vP 67,vP 64,vS 66 (List.length v1.out) (zBa+4),vP 65])∧((bE (cCr v) (cCr v1) 105)∧((bE (cCa v) (cCa v1) 57)∧((bE [vI v.a0,vU v.a1,vU v.a2,vI (IntKind.wrap .i64 (v.n - 1))] (cCp v1) 61)∧(rE (List.flatMap encQ v.out) (List.flatMap encQ v1.out) 60)))))))))))))) Kp):=by kernel_rfl
theorem yXn (v v1:CvV)(Kp:Prop):zB8 Tryz.prog (cwC Lcg) (oxA 40 false) (yQe false) zHi (zBo (zLo false v)) (zDr (zNz false v) (hN false)) (zCi (fun l s=>zIm v1 l s) (fun _ _ _=>Kp))=((∃ x0:Bool,((Yk.f v.r0 v.r1 v.r2 v.r3 v.r4 v.r5=some x0)∧zAd x0 ((∃ x1:Int,((Yr.f v.a0=some x1)∧(∃ x2:CvV,(((eqL [vP 66,vP 64,Value.slice none 0 0,vP 65] [vP 66,vP 64,Value.slice none 0 0,vP 65])∧((bE (cCr v) (cCr x2) 105)∧((bE (cCa v) (cCa x2) 57)∧((bE [vI v.a0,vU v.a1,vU v.a2,vI x1] (cCp x2) 61)∧True))))∧(∃ x3:CvV,((Star (zPy false) x2 x3)∧zAd (zAf (0 < x3.n)) ((∃ x4:Bool,((Yi.f x3.a0 x3.a1 x3.a2 (IntKind.wrap .i64 (x3.n - 1))=some x4)∧zAd (!x4) ((∃ x5:Int×Int×Int,((Yq.f x3.a0 x3.a1 x3.a2 x3.n=some x5)∧(∃ x6:Int×Int×Int×Bool,((YA.f x5.1 x5.2.1 x5.2.2=some x6)∧zAd (!x6.2.2.2) Kp ((∃ x7:Bool,((Yd.f x3.r3 x3.r4 x3.r5 x6.1 x6.2.1 x6.2.2.1=some x7)∧zAd x7 Kp (((vP 64=vP 64)∧((bE (cCr x3) (cCr v1) 105)∧((1=List.length v1.out)∧((zBa+4=zBa+4)∧((true=true)∧((true=true)∧((false=false)∧((rE ([]++(cCp x3)) (List.flatMap encQ v1.out) 60)∧(bE [vI x6.1,vU x6.2.1,vU x6.2.2.1] (cCa v1) 57)))))))))))))))))) ((∃ x5:Int×Int×Int,((Yq.f x3.a0 x3.a1 x3.a2 (IntKind.wrap .i64 (x3.n - 1))=some x5)∧(∃ x6:Bool,((Yd.f x3.r3 x3.r4 x3.r5 x5.1 x5.2.1 x5.2.2=some x6)∧zAd x6 ((∃ x7:Int×Int×Int,((Yq.f x3.a0 x3.a1 x3.a2 x3.n=some x7)∧(∃ x8:Int×Int×Int×Bool,((YA.f x7.1 x7.2.1 x7.2.2=some x8)∧zAd (!x8.2.2.2) Kp ((∃ x9:Bool,((Yd.f x3.r3 x3.r4 x3.r5 x8.1 x8.2.1 x8.2.2.1=some x9)∧zAd x9 Kp (((vP 64=vP 64)∧((bE (cCr x3) (cCr v1) 105)∧((1=List.length v1.out)∧((zBa+4=zBa+4)∧((true=true)∧((true=true)∧((false=false)∧((rE ([]++(cCp x3)) (List.flatMap encQ v1.out) 60)∧(bE [vI x8.1,vU x8.2.1,vU x8.2.2.1] (cCa v1) 57)))))))))))))))))) False)))))))) ((∃ x4:Int×Int×Int,((Yq.f x3.a0 x3.a1 x3.a2 x3.n=some x4)∧(∃ x5:Int×Int×Int×Bool,((YA.f x4.1 x4.2.1 x4.2.2=some x5)∧zAd (!x5.2.2.2) Kp ((∃ x6:Bool,((Yd.f x3.r3 x3.r4 x3.r5 x5.1 x5.2.1 x5.2.2.1=some x6)∧zAd x6 Kp (((vP 64=vP 64)∧((bE (cCr x3) (cCr v1) 105)∧((1=List.length v1.out)∧((zBa+4=zBa+4)∧((true=true)∧((true=true)∧((false=false)∧((rE ([]++(cCp x3)) (List.flatMap encQ v1.out) 60)∧(bE [vI x5.1,vU x5.2.1,vU x5.2.2.1] (cCa v1) 57))))))))))))))))))))))))) Kp))):=by kernel_rfl
theorem yXo (v v1:CvV)(Kp:Prop):zB8 Tryz.prog (cwC Lcg) (oxA 40 true) (yQe true) zHi (zBo (zLo true v)) (zDr (zNz true v) (hN true)) (zCi (fun l s=>zIm v1 l s) (fun _ _ _=>Kp))=((∃ x0:Bool,((Yk.f v.r0 v.r1 v.r2 v.r3 v.r4 v.r5=some x0)∧zAd x0 ((∃ x1:Int,((Yr.f v.a0=some x1)∧(∃ x2:CvV,(((eqL [vP 67,vP 64,vS 66 (List.length v.out) (zBa+4),vP 65] [vP 67,vP 64,vS 66 (List.length x2.out) (zBa+4),vP 65])∧((bE (cCr v) (cCr x2) 105)∧((bE (cCa v) (cCa x2) 57)∧((bE [vI v.a0,vU v.a1,vU v.a2,vI x1] (cCp x2) 61)∧(rE (List.flatMap encQ v.out) (List.flatMap encQ x2.out) 60)))))∧(∃ x3:CvV,((Star (zPy true) x2 x3)∧zAd (zAf (0 < x3.n)) ((∃ x4:Bool,((Yi.f x3.a0 x3.a1 x3.a2 (IntKind.wrap .i64 (x3.n - 1))=some x4)∧zAd (!x4) ((∃ x5:List Q4,((List.flatMap encQ x3.out=List.flatMap encQ x5)∧((List.length x3.out=List.length x5)∧((List.length x5≤1000)∧((zBa+4=zBa+4)∧((60=2 * 30)∧((false=false)∧(∃ x6:Q4,(((cCp x3)=encQ x6)∧(∃ x7:Int×Int×Int,((Yq.f x3.a0 x3.a1 x3.a2 x3.n=some x7)∧(∃ x8:Int×Int×Int×Bool,((YA.f x7.1 x7.2.1 x7.2.2=some x8)∧zAd (!x8.2.2.2) Kp ((∃ x9:Bool,((Yd.f x3.r3 x3.r4 x3.r5 x8.1 x8.2.1 x8.2.2.1=some x9)∧zAd x9 Kp (((vP 64=vP 64)∧((bE (cCr x3) (cCr v1) 105)∧((List.length x3.out+1=List.length v1.out)∧((zBa+4=zBa+4)∧((true=true)∧((true=true)∧((false=false)∧((rE (List.flatMap encQ (x5++[x6])) (List.flatMap encQ v1.out) 60)∧(bE [vI x8.1,vU x8.2.1,vU x8.2.2.1] (cCa v1) 57))))))))))))))))))))))))))) ((∃ x5:Int×Int×Int,((Yq.f x3.a0 x3.a1 x3.a2 (IntKind.wrap .i64 (x3.n - 1))=some x5)∧(∃ x6:Bool,((Yd.f x3.r3 x3.r4 x3.r5 x5.1 x5.2.1 x5.2.2=some x6)∧zAd x6 ((∃ x7:List Q4,((List.flatMap encQ x3.out=List.flatMap encQ x7)∧((List.length x3.out=List.length x7)∧((List.length x7≤1000)∧((zBa+4=zBa+4)∧((60=2 * 30)∧((false=false)∧(∃ x8:Q4,(((cCp x3)=encQ x8)∧(∃ x9:Int×Int×Int,((Yq.f x3.a0 x3.a1 x3.a2 x3.n=some x9)∧(∃ x10:Int×Int×Int×Bool,((YA.f x9.1 x9.2.1 x9.2.2=some x10)∧zAd (!x10.2.2.2) Kp ((∃ x11:Bool,((Yd.f x3.r3 x3.r4 x3.r5 x10.1 x10.2.1 x10.2.2.1=some x11)∧zAd x11 Kp (((vP 64=vP 64)∧((bE (cCr x3) (cCr v1) 105)∧((List.length x3.out+1=List.length v1.out)∧((zBa+4=zBa+4)∧((true=true)∧((true=true)∧((false=false)∧((rE (List.flatMap encQ (x7++[x8])) (List.flatMap encQ v1.out) 60)∧(bE [vI x10.1,vU x10.2.1,vU x10.2.2.1] (cCa v1) 57))))))))))))))))))))))))))) False)))))))) ((∃ x4:List Q4,((List.flatMap encQ x3.out=List.flatMap encQ x4)∧((List.length x3.out=List.length x4)∧((List.length x4≤1000)∧((zBa+4=zBa+4)∧((60=2 * 30)∧((false=false)∧(∃ x5:Q4,(((cCp x3)=encQ x5)∧(∃ x6:Int×Int×Int,((Yq.f x3.a0 x3.a1 x3.a2 x3.n=some x6)∧(∃ x7:Int×Int×Int×Bool,((YA.f x6.1 x6.2.1 x6.2.2=some x7)∧zAd (!x7.2.2.2) Kp ((∃ x8:Bool,((Yd.f x3.r3 x3.r4 x3.r5 x7.1 x7.2.1 x7.2.2.1=some x8)∧zAd x8 Kp (((vP 64=vP 64)∧((bE (cCr x3) (cCr v1) 105)∧((List.length x3.out+1=List.length v1.out)∧((zBa+4=zBa+4)∧((true=true)∧((true=true)∧((false=false)∧((rE (List.flatMap encQ (x4++[x5])) (List.flatMap encQ v1.out) 60)∧(bE [vI x7.1,vU x7.2.1,vU x7.2.2.1] (cCa v1) 57)))))))))))))))))))))))))))))))))) Kp))):=by kernel_rfl
theorem xGg (r0 r1 r2 r3 r4 r5:Int)(r:List Q4):zB8 Tryz.prog (cwC Lcg) oxN yXi (zAa Tryz.f53) (zAg (zRp (r0,r1,r2,r3,r4,r5)) 8) (zAh [] 64) (zA2 Tryz.prog Tryz.f53 (yQ9 r))=((∃ x0:CvV,(((eqL [vP 64,Value.slice none 0 0,vP 65] [vP 64,Value.slice none 0 0,vP 65])∧((bE [vI r0,vU r1,vU r2,vI r3,vU r4,vU r5] (cCr x0) 105)∧(bE [vI r0,vU r1,vU r2] (cCa x0) 57)))∧((∃ x1:Bool,((Yk.f x0.r0 x0.r1 x0.r2 x0.r3 x0.r4 x0.r5=some x1)∧zAd x1 ((∃ x2:Int,((Yr.f x0.a0=some x2)∧(∃ x3:CvV,(((eqL [vP 66,vP 64,Value.slice none 0 0,vP 65] [vP 66,vP 64,Value.slice none 0 0,vP 65])∧((bE (cCr x0) (cCr x3) 105)∧((bE (cCa x0) (cCa x3) 57)∧((bE [vI x0.a0,vU x0.a1,vU x0.a2,vI x2] (cCp x3) 61)∧True))))∧(∃ x4:CvV,((Star (zPy false) x3 x4)∧zAd (zAf (0 < x4.n)) ((∃ x5:Bool,((Yi.f x4.a0 x4.a1 x4.a2 (IntKind.wrap .i64 (x4.n - 1))=some x5)∧zAd (!x5) ((∃ x6:Int×Int×Int,((Yq.f x4.a0 x4.a1 x4.a2 x4.n=some x6)∧(∃ x7:Int×Int×Int×Bool,((YA.f x6.1 x6.2.1 x6.2.2=some x7)∧zAd (!x7.2.2.2) (((1=List.length r)∧((r≠[])∧((zBa+4=zBa+4)∧(rE ([]++(cCp x4)) (List.flatMap encQ r) 60))))) ((∃ x8:Bool,((Yd.f x4.r3 x4.r4 x4.r5 x7.1 x7.2.1 x7.2.2.1=some x8)∧zAd x8 (((1=List.length r)∧((r≠[])∧((zBa+4=zBa+4)∧(rE ([]++(cCp x4)) (List.flatMap encQ r) 60))))) False)))))))) ((∃ x6:Int×Int×Int,((Yq.f x4.a0 x4.a1 x4.a2 (IntKind.wrap .i64 (x4.n - 1))=some x6)∧(∃ x7:Bool,((Yd.f x4.r3 x4.r4 x4.r5 x6.1 x6.2.1 x6.2.2=some x7)∧zAd x7 ((∃ x8:Int×Int×Int,((Yq.f x4.a0 x4.a1 x4.a2 x4.n=some x8)∧(∃ x9:Int×Int×Int×Bool,((YA.f x8.1 x8.2.1 x8.2.2=some x9)∧zAd (!x9.2.2.2) (((1=List.length r)∧((r≠[])∧((zBa+4=zBa+4)∧(rE ([]++(cCp x4)) (List.flatMap encQ r) 60))))) ((∃ x10:Bool,((Yd.f x4.r3 x4.r4 x4.r5 x9.1 x9.2.1 x9.2.2.1=some x10)∧zAd x10 (((1=List.length r)∧((r≠[])∧((zBa+4=zBa+4)∧(rE ([]++(cCp x4)) (List.flatMap encQ r) 60))))) False)))))))) False)))))))) ((∃ x5:Int×Int×Int,((Yq.f x4.a0 x4.a1 x4.a2 x4.n=some x5)∧(∃ x6:Int×Int×Int×Bool,((YA.f x5.1 x5.2.1 x5.2.2=some x6)∧zAd (!x6.2.2.2) (((1=List.length r)∧((r≠[])∧((zBa+4=zBa+4)∧(rE ([]++(cCp x4)) (List.flatMap encQ r) 60))))) ((∃ x7:Bool,((Yd.f x4.r3 x4.r4 x4.r5 x6.1 x6.2.1 x6.2.2.1=some x7)∧zAd x7 (((1=List.length r)∧((r≠[])∧((zBa+4=zBa+4)∧(rE ([]++(cCp x4)) (List.flatMap encQ r) 60))))) False))))))))))))))) ((r=[]))))∨(∃ x1:CvV,((Once (zKu false) x0 x1)∧(∃ x2:CvV,((Star (zKu true) x1 x2)∧(∃ x3:Bool,((Yk.f x2.r0 x2.r1 x2.r2 x2.r3 x2.r4 x2.r5=some x3)∧zAd x3 ((∃ x4:Int,((Yr.f x2.a0=some x4)∧(∃ x5:CvV,(((eqL [vP 67,vP 64,vS 66 (List.length x2.out) (zBa+4),vP 65] [vP 67,vP 64,vS 66 (List.length x5.out) (zBa+4),vP 65])∧((bE (cCr x2) (cCr x5) 105)∧((bE (cCa x2) (cCa x5) 57)∧((bE [vI x2.a0,vU x2.a1,vU x2.a2,vI x4] (cCp x5) 61)∧(rE (List.flatMap encQ x2.out) (List.flatMap encQ x5.out) 60)))))∧(∃ x6:CvV,((Star (zPy true) x5 x6)∧zAd (zAf (0 < x6.n)) ((∃ x7:Bool,((Yi.f x6.a0 x6.a1 x6.a2 (IntKind.wrap .i64 (x6.n - 1))=some x7)∧zAd (!x7) ((∃ x8:List Q4,((List.flatMap encQ x6.out=List.flatMap encQ x8)∧((List.length x6.out=List.length x8)∧((List.length x8≤1000)∧((zBa+4=zBa+4)∧((60=2 * 30)∧((false=false)∧(∃ x9:Q4,(((cCp x6)=encQ x9)∧(∃ x10:Int×Int×Int,((Yq.f x6.a0 x6.a1 x6.a2 x6.n=some x10)∧(∃ x11:Int×Int×Int×Bool,((YA.f x10.1 x10.2.1 x10.2.2=some x11)∧zAd (!x11.2.2.2) (((List.length x6.out+1=List.length r)∧((r≠[])∧((zBa+4=zBa+4)∧(rE (List.flatMap encQ (x8++[x9])) (List.flatMap encQ r) 60))))) ((∃ x12:Bool,((Yd.f x6.r3 x6.r4 x6.r5 x11.1 x11.2.1 x11.2.2.1=some x12)∧zAd x12 (((List.length x6.out+1=List.length r)∧((r≠[])∧((zBa+4=zBa+4)∧(rE (List.flatMap encQ (x8++[x9])) (List.flatMap encQ r) 60))))) False))))))))))))))))) ((∃ x8:Int×Int×Int,((Yq.f x6.a0 x6.a1 x6.a2 (IntKind.wrap .i64 (x6.n - 1))=some x8)∧(∃ x9:Bool,((Yd.f x6.r3 x6.r4 x6.r5 x8.1 x8.2.1 x8.2.2=some x9)∧zAd x9 ((∃ x10:List Q4,((List.flatMap encQ x6.out=List.flatMap encQ x10)∧((List.length x6.out=List.length x10)∧((List.length x10≤1000)∧((zBa+4=zBa+4)∧((60=2 * 30)∧((false=false)∧(∃ x11:Q4,(((cCp x6)=encQ x11)∧(∃ x12:Int×Int×Int,((Yq.f x6.a0 x6.a1 x6.a2 x6.n=some x12)∧(∃ x13:Int×Int×Int×Bool,((YA.f x12.1 x12.2.1 x12.2.2=some x13)∧zAd (!x13.2.2.2) (((List.length x6.out+1=List.length r)∧((r≠[])∧((zBa+4=zBa+4)∧(rE (List.flatMap encQ (x10++[x11])) (List.flatMap encQ r) 60))))) ((∃ x14:Bool,((Yd.f x6.r3 x6.r4 x6.r5 x13.1 x13.2.1 x13.2.2.1=some x14)∧zAd x14 (((List.length x6.out+1=List.length r)∧((r≠[])∧((zBa+4=zBa+4)∧(rE (List.flatMap encQ (x10++[x11])) (List.flatMap encQ r) 60))))) False))))))))))))))))) False)))))))) ((∃ x7:List Q4,((List.flatMap encQ x6.out=List.flatMap encQ x7)∧((List.length x6.out=List.length x7)∧((List.length x7≤1000)∧((zBa+4=zBa+4)∧((60=2 * 30)∧((false=false)∧(∃ x8:Q4,(((cCp x6)=encQ x8)∧(∃ x9:Int×Int×Int,((Yq.f x6.a0 x6.a1 x6.a2 x6.n=some x9)∧(∃ x10:Int×Int×Int×Bool,((YA.f x9.1 x9.2.1 x9.2.2=some x10)∧zAd (!x10.2.2.2) (((List.length x6.out+1=List.length r)∧((r≠[])∧((zBa+4=zBa+4)∧(rE (List.flatMap encQ (x7++[x8])) (List.flatMap encQ r) 60))))) ((∃ x11:Bool,((Yd.f x6.r3 x6.r4 x6.r5 x10.1 x10.2.1 x10.2.2.1=some x11)∧zAd x11 (((List.length x6.out+1=List.length r)∧((r≠[])∧((zBa+4=zBa+4)∧(rE (List.flatMap encQ (x7++[x8])) (List.flatMap encQ r) 60))))) False)))))))))))))))))))))))) (((List.length x2.out=List.length r)∧((r≠[])∧((zBa+4=zBa+4)∧(rE (List.flatMap encQ x2.out) (List.flatMap encQ r) 60))))))))))))))):=by kernel_rfl
theorem yXp (v v1:CvV)(Kp:Prop):zB8 Tryz.prog (cwC Lcr) (oxA 20 false) lxM zKv (zBo (zLo false v)) (zDr (zNz false v) (hN false)) (zCi (fun l s=>zIm v1 l s) (fun _ _ _=>Kp))=((∃ x0:Int×Int×Int×Int,((F77 400 (v.a0,v.a1,v.a2,v.r3,v.r4,v.r5)=some x0)∧(∃ x1:Int×Int×Int,((YT.f x0.1 x0.2.1 x0.2.2.1 x0.2.2.2=some x1)∧(∃ x2:Int×Int×Int×Bool,((Yc0.f x1.1 x1.2.1 x1.2.2=some x2)∧zAd (!x2.2.2.2) Kp ((∃ x3:Bool,((Yx.f v.r3 v.r4 v.r5 x2.1 x2.2.1 x2.2.2.1=some x3)∧zAd x3 Kp (((vP 64=vP 64)∧((bE (cCr v) (cCr v1) 105)∧((1=List.length v1.out)∧((zBa+4=zBa+4)∧((true=true)∧((true=true)∧((false=false)∧((rE ([]++(encQ x0)) (List.flatMap encQ v1.out) 60)∧(bE [vI x2.1,vU x2.2.1,vU x2.2.2.1] (cCa v1) 57)))))))))))))))))))):=by kernel_rfl
theorem yXq (v v1:CvV)(Kp:Prop):zB8 Tryz.prog (cwC Lcr) (oxA 20 true) lxM zKv (zBo (zLo true v)) (zDr (zNz true v) (hN true)) (zCi (fun l s=>zIm v1 l s) (fun _ _ _=>Kp))=((∃ x0:Int×Int×Int×Int,((F77 400 (v.a0,v.a1,v.a2,v.r3,v.r4,v.r5)=some x0)∧(∃ x1:List Q4,((List.flatMap encQ v.out=List.flatMap encQ x1)∧((List.length v.out=List.length x1)∧((List.length x1≤1000)∧((zBa+4=zBa+4)∧((60=2 * 30)∧((false=false)∧(∃ x2:Q4,(((encQ x0)=encQ x2)∧(∃ x3:Int×Int×Int,((YT.f x0.1 x0.2.1 x0.2.2.1 x0.2.2.2=some x3)∧(∃ x4:Int×Int×Int×Bool,((Yc0.f x3.1 x3.2.1 x3.2.2=some x4)∧zAd (!x4.2.2.2) Kp ((∃ x5:Bool,((Yx.f v.r3 v.r4 v.r5 x4.1 x4.2.1 x4.2.2.1=some x5)∧zAd x5 Kp (((vP 64=vP 64)∧((bE (cCr v) (cCr v1) 105)∧((List.length v.out+1=List.length v1.out)∧((zBa+4=zBa+4)∧((true=true)∧((true=true)∧((false=false)∧((rE (List.flatMap encQ (x1++[x2])) (List.flatMap encQ v1.out) 60)∧(bE [vI x4.1,vU x4.2.1,vU x4.2.2.1] (cCa v1) 57))))))))))))))))))))))))))))):=by kernel_rfl
theorem xGh (r0 r1 r2 r3 r4 r5:Int)(r:List Q4):zB8 Tryz.prog (cwC Lcr) oxN yXk (zAa Tryz.f33) (zAg (zRp (r0,r1,r2,r3,r4,r5)) 8) (zAh [] 64) (zA2 Tryz.prog Tryz.f33 (yQ9 r))=((∃ x0:Bool,((YE.f r0 r1 r2 r3 r4 r5=some x0)∧zAd (!x0) ((r=[])) ((∃ x1:CvV,(((eqL [vP 64,Value.slice none 0 0,vP 65] [vP 64,Value.slice none 0 0,vP 65])∧((bE [vI r0,vU r1,vU r2,vI r3,vU r4,vU r5] (cCr x1) 105)∧(bE [vI r0,vU r1,vU r2] (cCa x1) 57)))∧((∃ x2:Int×Int×Int×Int,((F77 400 (x1.a0,x1.a1,x1.a2,x1.r3,x1.r4,x1.r5)=some x2)∧(∃ x3:Int×Int×Int,((YT.f x2.1 x2.2.1 x2.2.2.1 x2.2.2.2=some x3)∧(∃ x4:Int×Int×Int×Bool,((Yc0.f x3.1 x3.2.1 x3.2.2=some x4)∧zAd (!x4.2.2.2) (((1=List.length r)∧((r≠[])∧((zBa+4=zBa+4)∧(rE ([]++(encQ x2)) (List.flatMap encQ r) 60))))) ((∃ x5:Bool,((Yx.f x1.r3 x1.r4 x1.r5 x4.1 x4.2.1 x4.2.2.1=some x5)∧zAd x5 (((1=List.length r)∧((r≠[])∧((zBa+4=zBa+4)∧(rE ([]++(encQ x2)) (List.flatMap encQ r) 60))))) False)))))))))∨(∃ x2:CvV,((Once (zKw false) x1 x2)∧(∃ x3:CvV,((Star (zKw true) x2 x3)∧(∃ x4:Int×Int×Int×Int,((F77 400 (x3.a0,x3.a1,x3.a2,x3.r3,x3.r4,x3.r5)=some x4)∧(∃ x5:List Q4,((List.flatMap encQ x3.out=List.flatMap encQ x5)∧((List.length x3.out=List.length x5)∧((List.length x5≤1000)∧((zBa+4=zBa+4)∧((60=2 * 30)∧((false=false)∧(∃ x6:Q4,(((encQ x4)=encQ x6)∧(∃ x7:Int×Int×Int,((YT.f x4.1 x4.2.1 x4.2.2.1 x4.2.2.2=some x7)∧(∃ x8:Int×Int×Int×Bool,((Yc0.f x7.1 x7.2.1 x7.2.2=some x8)∧zAd (!x8.2.2.2) (((List.length x3.out+1=List.length r)∧((r≠[])∧((zBa+4=zBa+4)∧(rE (List.flatMap encQ (x5++[x6])) (List.flatMap encQ r) 60))))) ((∃ x9:Bool,((Yx.f x3.r3 x3.r4 x3.r5 x8.1 x8.2.1 x8.2.2.1=some x9)∧zAd x9 (((List.length x3.out+1=List.length r)∧((r≠[])∧((zBa+4=zBa+4)∧(rE (List.flatMap encQ (x5++[x6])) (List.flatMap encQ r) 60))))) False))))))))))))))))))))))))))))):=by kernel_rfl
end Go.Proofs.YtfnacgojmdbjmaaGreatDoor
namespace Go.Proofs.YtfnacgojmdbjmaaGreatDoor
open Go.Det Go.RowKit Go.Proofs.ZW PRD
def U6 (x:Int):Prop:=0≤x∧x < 18446744073709551616
theorem zLp (V h l:Int)(hh:U6 h)(hl:U6 l):(YK.f V h l=some false)∨∃ B q,Kd' V B∧q < 2 ^ B∧h=H q∧l=L q:=by
 obtain⟨q,hq,e1,e2⟩:=ySx hh.1 hh.2 hl.1 hl.2
 unfold YK.f
 by_cases h6:V=6
 ·exact .inr ⟨128,q,.inr ⟨h6,rfl⟩,hq,e1.symm,e2.symm⟩
 ·rw[xGr h6]
  by_cases h4:V=4
  ·rw[xGq h4]
   by_cases h0:h=0
   ·rw[xGq h0]
    by_cases hb:l < 4294967296
    ·refine .inr ⟨32,q,.inl ⟨h4,rfl⟩,?_,e1.symm,e2.symm⟩
     have hM:M64=18446744073709551616:=rfl
     unfold H at e1
     unfold L at e2
     rw[hM] at e1 e2
     omega
    ·exact .inl (by rw[xG1 hb])
   ·exact .inl (by rw[xGr h0])
  ·exact .inl (by rw[xGr h4])
theorem yTj {V:Int}{B q n:Nat}(h:Kd' V B)(hq:q < 2 ^ B)(hn:n≤B):Yi.f V (H q) (L q) (n:Int)=some (decide (q % 2 ^ (B - n)=0)):=by
 obtain⟨_,_,f3,_,_,_⟩:=zIk h (j:=B - n) (by omega)
 have e2:=yOs (h.pow hq) f3
 rw[zJf q B (B - n) (by omega) hq] at e2
 have e1:=yUi h hn
 have e3:(2 ^ (B - n) * (q / 2 ^ (B - n))=q)↔q % 2 ^ (B - n)=0:=by
  have:=xId q (2 ^ (B - n))
  omega
 generalize 2 ^ B - 2 ^ (B - n)=c at *
 unfold Yi.f
 rw[zH5,PRD.okA h hq,xGp,xGq rfl,xGq (by omega),h.rbits,xGp,xGq (by omega),e1,xGp,e2,xGp,yJu]
 exact congrArg some (decide_eq_decide.2 e3)
theorem yE6 (V h l N:Int)(hh:U6 h)(hl:U6 l):
  (YV.f V h l N=some false∧Yi.f V h l N=some false)∨
  ∃ B q n,Kd' V B∧q < 2 ^ B∧h=H q∧l=L q∧N=((n:Nat):Int)∧n≤B∧q % 2 ^ (B - n)=0∧YV.f V h l N=some true∧Yi.f V h l N=some true:=by
 rcases zLp V h l hh hl with e|⟨B,q,hk,hq,rfl,rfl⟩
 ·refine .inl ⟨?_,?_⟩
  ·unfold YV.f
   rw[e,xGp,xGr (by decide)]
  ·unfold Yi.f
   rw[zH5,e,xGp,xGr (by decide)]
 ·by_cases h0:N < 0
  ·refine .inl ⟨?_,?_⟩
   ·unfold YV.f
    rw[PRD.okA hk hq,xGp,xGq rfl,xGq h0]
   ·unfold Yi.f
    rw[zH5,PRD.okA hk hq,xGp,xGq rfl,xGr (by omega)]
  ·obtain⟨n,rfl⟩:∃ n:Nat,N=(n:Int):=⟨N.toNat,by omega⟩
   by_cases hn:n≤B
   ·by_cases hm:q % 2 ^ (B - n)=0
    ·refine .inr ⟨B,q,n,hk,hq,rfl,rfl,rfl,hn,hm,?_,yYj hk hq hn hm⟩
     rw[pOk hk hq hn,xGx hm]
    ·refine .inl ⟨?_,?_⟩
     ·rw[pOk hk hq hn,xG1 hm]
     ·rw[yTj hk hq hn,xG1 hm]
   ·refine .inl ⟨?_,?_⟩
    ·unfold YV.f
     rw[PRD.okA hk hq,xGp,xGq rfl,xGr h0,hk.bits,xGp,xGq (by omega)]
    ·unfold Yi.f
     rw[zH5,PRD.okA hk hq,xGp,xGq rfl,xGq (by omega),hk.rbits,xGp,xGr (by omega)]
theorem yJ4 {B n:Nat}(hB:B≤128)(hn:n≤B):zCb (128 - B+n)=2 ^ 128 - 2 ^ (B - n):=by
 unfold zCb
 rw[show 128 - (128 - B+n)=B - n by omega,yUg]
theorem yJ5 {V:Int}{B C:Nat}(h:Kd' V B)(k:Kd' V C):C=B:=by
 rcases h with⟨h,rfl⟩|⟨h,rfl⟩<;>rcases k with⟨k,rfl⟩|⟨k,rfl⟩<;>first|rfl|(exfalso;omega)
theorem yJ6 {V h l N W h' l':Int}(hh:U6 h)(hl:U6 l)(hh':U6 h')(hl':U6 l'):∃ b,Ym0.f V h l N W h' l'=some b∧Ya0.f V h l N W h' l'=some b:=by
 unfold Ym0.f Ya0.f
 rcases yE6 V h l N hh hl with⟨e1,e2⟩|⟨B,q,n,hk,hq,rfl,rfl,rfl,hn,hm,e1,e2⟩
 ·rw[e1,e2,xGp,xGp,xGr (by decide),xGr (by decide)]
  exact⟨_,rfl,rfl⟩
 ·rw[e1,e2,xGp,xGp,xGq rfl,xGq rfl,zH5]
  rcases zLp W h' l' hh' hl' with e|⟨C,x,kc,hx,rfl,rfl⟩
  ·rw[e,xGp,xGp,xGr (by decide),xGr (by decide)]
   exact⟨_,rfl,rfl⟩
  ·rw[PRD.okA kc hx,xGp,xGp,xGq rfl,xGq rfl]
   by_cases hV:W=V
   ·subst hV
    obtain rfl:=yJ5 hk kc
    rw[xGq rfl,xGq rfl]
    have hB:=hk.le
    have q1:=yWd (hk.pow hx) (mask_lt (n:=128 - C+n) (by omega))
    rw[yJ4 hB hn,zJf x 128 (C - n) (by omega) (by rw[← yUg];exact hk.pow hx)] at q1
    obtain⟨_,_,f3,_,_,_⟩:=zIk hk (j:=C - n) (by omega)
    have q2:=yOs (hk.pow hx) f3
    rw[zJf x C (C - n) (by omega) hx] at q2
    have q3:=yOt hk hn
    rw[yJ4 hB hn] at q3
    have q4:=yUi hk hn
    generalize 2 ^ (C - n) * (x / 2 ^ (C - n))=c at *
    generalize 2 ^ 128 - 2 ^ (C - n)=d at *
    generalize 2 ^ C - 2 ^ (C - n)=d' at *
    rw[q3,q4]
    simp only[xGp,q1,q2]
    exact⟨_,rfl,rfl⟩
   ·rw[xGr hV,xGr hV]
    exact⟨_,rfl,rfl⟩
theorem zV4 (V h l V' h' l':Int):∃ b,Yx.f V h l V' h' l'=some b∧Yd.f V h l V' h' l'=some b:=by
 unfold Yx.f Yd.f Yl0.f YC.f
 split
 ·exact⟨_,rfl,rfl⟩
 ·split
  ·split
   ·exact⟨_,rfl,rfl⟩
   ·split
    ·exact⟨_,rfl,rfl⟩
    ·exact⟨_,rfl,rfl⟩
  ·exact⟨_,rfl,rfl⟩
end Go.Proofs.YtfnacgojmdbjmaaGreatDoor
namespace Go.Proofs.YtfnacgojmdbjmaaGreatDoor
open Go.Det Go.RowKit Go.Proofs.ZW PPPT PPH
def Odd (c:UInt8):Prop:=c.toNat < 48∧c≠46
theorem zRq {c:UInt8}(hc:Odd c){m:Nat}:∀ (l:List UInt8) (n:Nat) (r:Int),zUi m n l=some (r,true)→c∉l
 |[],_,_,_=>by simp
 |d::t,n,r,h=>by
  rw[zUi] at h
  split at h
  ·rename_i q
   have:=zRq hc t _ r h
   simp only[xG6,not_or]
   refine⟨fun e=>?_,this⟩
   rw[← e] at q
   have:=hc.1
   omega
  ·cases h
theorem yQh {c:UInt8}(hc:Odd c){s:ByteArray}{m:Nat}(hm:m≤255){r:Int}(h:zRa s (m:Int)=some (r,true)):c∉s.data.toList:=by
 unfold zRa at h
 split at h
 case isFalse=>cases h
 split at h
 ·rename_i e;rw[e];simp
 ·rename_i d t e
  rw[e]
  split at h
  ·split at h
   ·rename_i ht
    rw[show(0:Int)=((0:Nat):Int) from rfl,zDo hm _ 0 (xIc _)] at h
    rw[ht]
    exact zRq hc _ _ _ h
   ·cases h
  ·rw[show(0:Int)=((0:Nat):Int) from rfl,zDo hm _ 0 (xIc _)] at h
   exact zRq hc _ _ _ h
theorem yE7 {c:UInt8}(hc:Odd c){xs:List ByteArray}(hx:xs.length≤1000):∀ (k i:Nat) (n:Int) (r:Int×Bool),i≤xs.length→Yp.l0 k xs n xs (xs.length:Int) (i:Int)=some r→r.2=true→∀ p∈xs.drop i,c∉p.data.toList:=by
 intro k
 induction k with
 |zero=>intro i n r _ h;simp[Yp.l0] at h
 |succ k ih=>
  intro i n r hi h hr
  by_cases hlt:i < xs.length
  ·have ep:zCl ByteArray.empty xs (i:Int)=xs[i]:=by
    unfold zCl
    rw[xG7,xGw,xGz hlt];rfl
   unfold Yp.l0 at h
   rw[xGq (by omega),xGq (by omega),xGq (by omega),ep] at h
   obtain⟨⟨m,b⟩,hm⟩:=zNp xs[i]
   have hm':Ye0.f xs[i] 255=some (m,b):=hm
   rw[hm',xGp] at h
   cases b with
   |false=>
    rw[xGr (fun q=>by cases q)] at h
    cases h
    cases hr
   |true=>
    rw[xGq rfl,zKe (by omega) (by omega),show((i:Int)+1)=((i+1:Nat):Int) by omega] at h
    have:=ih (i+1) _ r (by omega) h hr
    rw[xHk hlt]
    intro p hp
    rcases xG6.1 hp with rfl|hp
    ·exact yQh hc (m:=255) (by decide) hm
    ·exact this p hp
  ·rw[xHj (by omega)]
   intro p hp
   cases hp
theorem zXt {c:UInt8}(hc:Odd c){s:ByteArray}(hs:s.size≤400){k:Nat}{r:Int×Bool}(h:Yp.f k s=some r)(hr:r.2=true):c∉s.data.toList:=by
 obtain⟨l,e,h1,h2,h3⟩:=zE1 (s:=s) (sep:=⟨#[46]⟩) hs (by decide)
 have el:l=(spl 46 s.data.toList).map mkB:=xHc (e.symm.trans (zF1 46 hs))
 unfold Yp.f at h
 rw[e,xGp] at h
 have hd:=yE7 hc (by omega) k 0 0 r (by omega) h hr
 rw[xIm,el] at hd
 rw[← zJj 46 s.data.toList]
 refine Txt.not_mem_join hc.2 _ fun p hp=>?_
 exact hd (mkB p) (xJb.2 ⟨p,hp,rfl⟩)
theorem zXu {c:UInt8}(hc:Odd c):∀ (l:List UInt8) (n r:Int),zNk n l=some (r,true)→c∉l
 |[],_,_,_=>by simp
 |d::t,n,r,h=>by
  simp only[zNk] at h
  obtain⟨x,_,h⟩:=xGs.1 h
  split at h
  ·cases h
  ·split at h
   ·cases h
   ·rename_i q
    have:=zXu hc t _ r h
    simp only[xG6,not_or]
    refine⟨fun e=>?_,this⟩
    rw[← e] at q
    have:=hc.1
    omega
theorem yQi {c:UInt8}(hc:Odd c){s:ByteArray}{r:Int}(h:zQ9 s=some (r,true)):c∉s.data.toList:=by
 unfold zQ9 at h
 split at h
 ·cases h
 ·exact zXu hc _ _ _ h
theorem yIm {c:UInt8}(hc:Odd c){xs:List ByteArray}(hx:xs.length≤1000)(hp:∀ p∈xs,p.size≤200)(last:Bool)(k:Nat):
  (∀ (i:Nat) (acc:List Int) (r:List Int×Bool),i≤xs.length→Yg.l0 k last acc xs xs (xs.length:Int) (i:Int)=some r→r.2=true→∀ p∈xs.drop i,c∉p.data.toList)∧
  (∀ (i:Nat) (acc:List Int) (b:Bool) (r:List Int×Bool) (hi:i < xs.length),(b=true→i+1=xs.length)→Yg.j1 k last acc xs xs[i] xs (xs.length:Int) (i:Int) b=some r→r.2=true→∀ p∈xs.drop i,c∉p.data.toList):=by
 induction k with
 |zero=>exact⟨fun i acc r _ h=>by simp[Yg.l0] at h,fun i acc b r _ _ h=>by simp[Yg.j1] at h⟩
 |succ k ih=>
  obtain⟨i0,i1⟩:=ih
  refine⟨fun i acc r hi h hr=>?_,fun i acc b r hi hb h hr=>?_⟩
  ·by_cases hlt:i < xs.length
   ·have ep:zCl ByteArray.empty xs (i:Int)=xs[i]:=by
     unfold zCl
     rw[xG7,xGw,xGz hlt];rfl
    unfold Yg.l0 at h
    rw[xGq (by omega),xGq (by omega),xGq (by omega),ep] at h
    split at h
    ·split at h
     ·rename_i hw
      rw[zKe (by omega) (by omega)] at hw
      obtain⟨t,_,h⟩:=xGs.1 h
      exact i1 i acc t r hlt (fun _=>by omega) h hr
     ·exact i1 i acc false r hlt (fun q=>by cases q) h hr
    ·exact i1 i acc false r hlt (fun q=>by cases q) h hr
   ·rw[xHj (by omega)]
    intro p hp
    cases hp
  ·rw[xHk hi]
   unfold Yg.j1 at h
   split at h
   ·rename_i hbt
    have:=hb hbt
    rw[xHj (by omega)]
    obtain⟨⟨t,o⟩,ht,h⟩:=xGs.1 h
    obtain⟨u,hu,h⟩:=xGs.1 h
    split at h
    case isFalse=>cases h
    cases h
    intro p hpm
    obtain rfl:=xHs.1 hpm
    exact zXt hc (by have:=hp xs[i] (xH3 hi);omega) ht hr
   ·obtain⟨⟨t,o⟩,ht,h⟩:=xGs.1 h
    have ht':zQ9 xs[i]=some (t,o):=ht
    split at h
    ·rename_i ho
     split at h
     case isFalse=>cases h
     rw[zKe (by omega) (by omega),show((i:Int)+1)=((i+1:Nat):Int) by omega] at h
     have:=i0 (i+1) _ r (by omega) h hr
     intro p hpm
     rcases xG6.1 hpm with rfl|hpm
     ·have ho:o=true:=ho
      subst ho
      exact yQi hc ht'
     ·exact this p hpm
    ·cases h
     cases hr
theorem zV5 {c:UInt8}(hc:Odd c){s:ByteArray}(hs:s.size≤200){last:Bool}{r:List Int×Bool}(h:zBi (s,last)=some r)(hr:r.2=true):c∉s.data.toList:=by
 unfold zBi Yg.f at h
 split at h
 ·rename_i e
  have e:s.data.toList=[]:=by rw[← ByteArray.toList_eq];exact e
  rw[e];simp
 ·obtain⟨l,e,h1,h2,h3⟩:=zE1 (s:=s) (sep:=⟨#[58]⟩) (by omega) (by decide)
  have el:l=(spl 58 s.data.toList).map mkB:=xHc (e.symm.trans (zF1 58 (by omega)))
  rw[e,xGp] at h
  have hd:=(yIm hc (xs:=l) (by omega) (fun p hp=>by have:=h3 p hp;omega) last 1000).1 0 [] r (by omega) h hr
  rw[xIm,el] at hd
  rw[← zJj 58 s.data.toList]
  refine Txt.not_mem_join (by intro e;have h1:=hc.1;rw[e] at h1;exact absurd h1 (by decide)) _ fun p hp=>?_
  exact hd (mkB p) (xJb.2 ⟨p,hp,rfl⟩)
theorem yE8 {c:UInt8}(hc:Odd c){s:ByteArray}(hs:s.size≤200){r:Int×Int×Int×Bool}(h:PRD.YH.f s=some r)(hr:r.2.2.2=true):c∉s.data.toList:=by
 have hl:s.data.toList.length=s.size:=rfl
 rw[zNt s hs] at h
 split at h
 ·have hz:s.size < 4294967281:=by omega
  unfold zVs zDg at h
  rw[xGq hz,xGp] at h
  obtain⟨a,ha,h⟩:=xGs.1 h
  obtain⟨b,hb,h⟩:=xGs.1 h
  split at h
  ·cases h
   cases hr
  ·rename_i hs6
   unfold zXb at hs6
   simp only[xIr,xIi,not_or,Bool.not_eq_false] at hs6
   obtain⟨oa,ob,_⟩:=hs6
   rcases zJm s.data.toList 0 with⟨e1,e2⟩|⟨x,y,e1,e2,e3⟩
   ·have ec:zVm s { data:=#[58,58] }=(s,⟨#[]⟩,false):=by
     unfold zVm
     rw[show(ByteArray.data { data:=#[58,58] }).toList=[58,58] from rfl,Txt.cut_miss e2]
    rw[ec] at ha
    exact zV5 hc hs ha oa
   ·have hle:x.length+2+y.length=s.size:=by rw[← hl,e1];simp;omega
    have ec:zVm s { data:=#[58,58] }=(mkB x,mkB y,true):=by
     unfold zVm
     rw[show(ByteArray.data { data:=#[58,58] }).toList=[58,58] from rfl,e1,Txt.cut_hit y e3]
     rfl
    rw[ec] at ha hb
    have h1:=zV5 hc (s:=mkB x) (by show(List.toArray x).size≤200;rw[xIv];omega) ha oa
    have h2:=zV5 hc (s:=mkB y) (by show(List.toArray y).size≤200;rw[xIv];omega) hb ob
    have h1:c∉x:=h1
    have h2:c∉y:=h2
    have h58:c≠58:=by intro e;have h1:=hc.1;rw[e] at h1;exact absurd h1 (by decide)
    rw[e1]
    simp only[List.mem_append,xG6,not_or]
    exact⟨h1,h58,h58,h2⟩
 ·obtain⟨q,hq,h⟩:=xGs.1 h
  split at h
  ·rename_i ho
   exact zXt hc (by omega) hq ho
  ·cases h
   cases hr
end Go.Proofs.YtfnacgojmdbjmaaGreatDoor
namespace Go.Proofs.YtfnacgojmdbjmaaGreatDoor
open Go.Det Go.RowKit Go.Proofs.ZW PRD
theorem yIn {c:UInt8}{s:List UInt8}(h:c∉s):Lib.cut s [c]=(s,[],false):=by
 unfold Lib.cut
 rw[Txt.index_no h]
 rfl
theorem bsz (x:List UInt8):(mkB x).size=x.length:=by
 show(List.toArray x).size=_
 rw[xIv]
theorem zXv (a b c d:Int):Yl0.f a b c d=YC.f a b c d:=rfl
theorem zJr (a b c d:Int):∃ r,YC.f a b c d=some r:=by
 unfold YC.f
 split
 ·exact⟨_,rfl⟩
 ·split<;>exact⟨_,rfl⟩
theorem yE9 (V h l:Int):∃ b,YK.f V h l=some b:=by
 unfold YK.f
 split
 ·exact⟨_,rfl⟩
 ·split
  ·split<;>exact⟨_,rfl⟩
  ·exact⟨_,rfl⟩
theorem Yt0 (V h l W m n:Int):∃ b,YE.f V h l W m n=some b∧Yk.f V h l W m n=some b:=by
 obtain⟨b1,e1⟩:=yE9 V h l
 obtain⟨b2,e2⟩:=yE9 W m n
 obtain⟨b3,e3⟩:=zJr m n h l
 unfold YE.f Yk.f
 simp only[zH5,e1,e2,xGp]
 cases b1 with
 |false=>exact⟨_,rfl,rfl⟩
 |true=>
  cases b2 with
  |false=>exact⟨_,rfl,rfl⟩
  |true=>
   simp only[if_true]
   by_cases hV:V=W
   ·subst hV
    have e4:Yx.f V m n V h l=some b3:=by
     unfold Yx.f
     rw[xGr (by omega),xGq rfl,zXv,e3];rfl
    simp only[if_true,e3,e4,xGp]
    exact⟨_,rfl,rfl⟩
   ·simp only[xGr hV]
    exact⟨_,rfl,rfl⟩
theorem YH0 {V h l W m n:Int}(hh:U6 h)(hl:U6 l)(hm:U6 m)(hn:U6 n):
  (YE.f V h l W m n=some false∧Yk.f V h l W m n=some false)∨
  ∃ B p q,Kd' V B∧p < 2 ^ B∧q < 2 ^ B∧h=H p∧l=L p∧W=V∧m=H q∧n=L q∧p≤q∧YE.f V h l W m n=some true∧Yk.f V h l W m n=some true:=by
 obtain⟨b,e1,e2⟩:=Yt0 V h l W m n
 cases b with
 |false=>exact .inl ⟨e1,e2⟩
 |true=>
  refine .inr ?_
  have e:=e1
  unfold YE.f at e
  rcases zLp V h l hh hl with k|⟨B,p,hk,hp,rfl,rfl⟩
  ·rw[k,xGp,xGr (by decide)] at e;cases e
  ·rcases zLp W m n hm hn with k|⟨C,q,hc,hq,rfl,rfl⟩
   ·rw[PRD.okA hk hp,xGp,xGq rfl,k,xGp,xGr (by decide)] at e;cases e
   ·rw[PRD.okA hk hp,xGp,xGq rfl,PRD.okA hc hq,xGp,xGq rfl] at e
    by_cases hV:V=W
    ·subst hV
     obtain rfl:=yJ5 hk hc
     rw[xGq rfl,zKc] at e
     have hle:¬ q < p:=by
      intro hlt
      rw[xGx hlt] at e
      cases e
     exact⟨C,p,q,hk,hp,hq,rfl,rfl,rfl,rfl,rfl,by omega,e1,e2⟩
    ·rw[xGr hV] at e;cases e
theorem yTk {V h l W m n P1 P2 P3 P4:Int}(hh:U6 h)(hl:U6 l)(hm:U6 m)(hn:U6 n)(k1:U6 P2)(k2:U6 P3):∃ b,Yx0.f V h l W m n P1 P2 P3 P4=some b∧Yj0.f V h l W m n P1 P2 P3 P4=some b:=by
 obtain⟨b,e1,e2⟩:=Yt0 V h l W m n
 obtain⟨c,f1,f2⟩:=yJ6 (V:=P1) (N:=P4) (W:=V) k1 k2 hh hl
 obtain⟨d,g1,g2⟩:=yJ6 (V:=P1) (N:=P4) (W:=W) k1 k2 hm hn
 unfold Yx0.f Yj0.f
 rw[e1,e2,xGp,xGp]
 cases b with
 |false=>exact⟨_,rfl,rfl⟩
 |true=>
  rw[xGq rfl,xGq rfl,f1,f2,xGp,xGp]
  cases c with
  |false=>exact⟨_,rfl,rfl⟩
  |true=>
   rw[xGq rfl,xGq rfl,g1,g2]
   exact⟨_,rfl,rfl⟩
theorem zT1 (V:Int)(a b c d:Int):Yx.f V a b V c d=YC.f a b c d:=by
 unfold Yx.f
 rw[xGr (by omega),xGq rfl,zXv]
 obtain⟨r,e⟩:=zJr a b c d
 rw[e];rfl
theorem yIo (V h l W m n V' h' l' W' m' n':Int):∃ b,Yq0.f V h l W m n V' h' l' W' m' n'=some b∧YR.f V h l W m n V' h' l' W' m' n'=some b:=by
 obtain⟨b,e1,e2⟩:=Yt0 V h l W m n
 obtain⟨c,f1,f2⟩:=Yt0 V' h' l' W' m' n'
 unfold Yq0.f YR.f
 rw[e1,e2,xGp,xGp]
 cases b with
 |false=>exact⟨_,rfl,rfl⟩
 |true=>
  rw[xGq rfl,xGq rfl,f1,f2,xGp,xGp]
  cases c with
  |false=>exact⟨_,rfl,rfl⟩
  |true=>
   rw[xGq rfl,xGq rfl]
   by_cases hV:V=V'
   ·subst hV
    have w1:W=V:=by
     unfold YE.f at e1
     obtain⟨x,hx,e1⟩:=xGs.1 e1
     split at e1
     ·obtain⟨y,hy,e1⟩:=xGs.1 e1
      split at e1
      ·split at e1
       ·exact Eq.symm ‹V=W›
       ·cases e1
      ·cases e1
     ·cases e1
    have w2:W'=V:=by
     unfold YE.f at f1
     obtain⟨x,hx,f1⟩:=xGs.1 f1
     split at f1
     ·obtain⟨y,hy,f1⟩:=xGs.1 f1
      split at f1
      ·split at f1
       ·exact Eq.symm ‹V=W'›
       ·cases f1
      ·cases f1
     ·cases f1
    subst w1
    subst w2
    obtain⟨x,hx⟩:=zJr m n h' l'
    obtain⟨y,hy⟩:=zJr m' n' h l
    rw[xGq rfl,xGq rfl,zT1,zT1,hx,hy]
    cases x<;>cases y<;>exact⟨_,rfl,rfl⟩
   ·rw[xGr hV,xGr hV]
    exact⟨_,rfl,rfl⟩
theorem yIp (V h l W m n V' h' l' W' m' n':Int):∃ b,Yr0.f V h l W m n V' h' l' W' m' n'=some b∧YS.f V h l W m n V' h' l' W' m' n'=some b:=by
 obtain⟨b,e1,e2⟩:=Yt0 V h l W m n
 obtain⟨c,f1,f2⟩:=Yt0 V' h' l' W' m' n'
 obtain⟨x,x1,x2⟩:=zV4 V h l V' h' l'
 obtain⟨y,y1,y2⟩:=zV4 W m n W' m' n'
 unfold Yr0.f YS.f
 rw[e1,e2,xGp,xGp]
 cases b with
 |false=>exact⟨_,rfl,rfl⟩
 |true=>
  rw[xGq rfl,xGq rfl,f1,f2,xGp,xGp]
  cases c with
  |false=>exact⟨_,rfl,rfl⟩
  |true=>
   rw[xGq rfl,xGq rfl,x1,x2,xGp,xGp]
   cases x with
   |true=>exact⟨_,rfl,rfl⟩
   |false=>
    simp only[xHz,if_false,y1,y2,xGp]
    split<;>exact⟨_,rfl,rfl⟩
theorem zN1 {V h l W m n:Int}(hh:U6 h)(hl:U6 l)(hm:U6 m)(hn:U6 n):∃ r,Yn0.f V h l W m n=some r∧YJ.f V h l W m n=some r∧(r={ data:=#[] }∨∃ x y,PT x∧PT y∧r=(⟨⟨x⟩⟩:ByteArray)++({ data:=#[45] }:ByteArray)++⟨⟨y⟩⟩):=by
 unfold Yn0.f YJ.f
 rcases YH0 (V:=V) (W:=W) hh hl hm hn with⟨e1,e2⟩|⟨B,p,q,hk,hp,hq,rfl,rfl,rfl,rfl,rfl,_,e1,e2⟩
 ·rw[e1,e2,xGp,xGp,xGr (by decide),xGr (by decide)]
  exact⟨_,rfl,rfl,.inl rfl⟩
 ·obtain⟨s,hs,p1,p2⟩:=zLn hk hp (k:=300) (xGv _)
  obtain⟨t,ht,q1,q2⟩:=zLn hk hq (k:=300) (xGv _)
  have p1':Yz0.f W (H p) (L p)=some ⟨⟨s⟩⟩:=p1
  have p2':Yb.f W (H p) (L p)=some ⟨⟨s⟩⟩:=p2
  have q1':Yz0.f W (H q) (L q)=some ⟨⟨t⟩⟩:=q1
  have q2':Yb.f W (H q) (L q)=some ⟨⟨t⟩⟩:=q2
  have s1:(⟨⟨s⟩⟩:ByteArray).size=s.length:=bsz s
  have s2:(⟨⟨t⟩⟩:ByteArray).size=t.length:=bsz t
  have s3:=hs.len
  have s4:=ht.len
  have one:ByteArray.size ({ data:=#[45] }:ByteArray)=1:=rfl
  simp only[e1,e2,xGp,if_true,p1',p2']
  have h1:(⟨⟨s⟩⟩:ByteArray).size+ByteArray.size ({ data:=#[45] }:ByteArray)≤9223372036854775807:=by omega
  have h2:((⟨⟨s⟩⟩:ByteArray)++({ data:=#[45] }:ByteArray)).size+(⟨⟨t⟩⟩:ByteArray).size≤9223372036854775807:=by rw[xHi];omega
  simp only[h1,h2,if_true,q1',q2',xGp]
  exact⟨_,rfl,rfl,.inr ⟨s,t,hs,ht,rfl⟩⟩
end Go.Proofs.YtfnacgojmdbjmaaGreatDoor
namespace Go.Proofs.YtfnacgojmdbjmaaGreatDoor.PRD
open Go Go.RowKit Go.Proofs.ZW Go.Proofs.ZL Go.Proofs.ZM
open Go.Det (inQ inU M64 zB1 qn zJc zJb zFf zCb zQ2 zVi)
def zN2 (B hi q n:Nat):Prop:=∀ i,i < n→q % 2 ^ (B - i)=0→hi < q+(2 ^ (B - i) - 1)
inductive Greedy (V:Int) (B hi:Nat):Nat→List S30→Prop
 |last (q n:Nat):n≤B→q % 2 ^ (B - n)=0→q+(2 ^ (B - n) - 1)=hi→zN2 B hi q n→Greedy V B hi q [mkP V q n]
 |step (q n:Nat) (t:List S30):n≤B→q % 2 ^ (B - n)=0→q+(2 ^ (B - n) - 1) < hi→zN2 B hi q n→Greedy V B hi (q+2 ^ (B - n)) t→Greedy V B hi q (mkP V q n::t)
theorem Greedy.ne {V:Int}{B hi q:Nat}{t:List S30}(h:Greedy V B hi q t):t≠[]:=by cases h<;>simp
theorem pick {V:Int}{B q hi:Nat}(h:Kd' V B)(hq:q < 2 ^ B)(hle:q≤hi):∃ n,n≤B∧q % 2 ^ (B - n)=0∧q+(2 ^ (B - n) - 1)≤hi∧zN2 B hi q n:=by
 obtain⟨m,m1,m2,m3,m4,_⟩:=zNn h hq hle (xGv _)
 exact⟨m,m1,m2,m3,m4⟩
theorem yJ7 {q i j:Nat}(h:i≤j)(hq:q % 2 ^ j=0):q % 2 ^ i=0:=
 Nat.mod_eq_zero_of_dvd (Nat.dvd_trans (Nat.pow_dvd_pow 2 h) (xIq hq))
theorem yFa {q j:Nat}(hq:q % 2 ^ j=0):(q+2 ^ j) % 2 ^ j=0:=by rw[Nat.add_mod_right];exact hq
theorem yQj {q j:Nat}(hq:q % 2 ^ j=0)(h:q % 2 ^ (j+1)≠0):(q+2 ^ j) % 2 ^ (j+1)=0:=by
 obtain⟨m,rfl⟩:=xIq hq
 have e:2 ^ (j+1)=2 ^ j * 2:=Nat.pow_succ _ _
 rw[e] at h ⊢
 rw[Nat.mul_mod_mul_left] at h
 have hm:m % 2=1:=by
  rcases Nat.mod_two_eq_zero_or_one m with c|c
  ·rw[c] at h;simp at h
  ·exact c
 rw[show 2 ^ j * m+2 ^ j=2 ^ j * (m+1) by rw[Nat.mul_add,Nat.mul_one],Nat.mul_mod_mul_left,show(m+1) % 2=0 by omega,Nat.mul_zero]
theorem zN3 {V:Int}{B hi:Nat}(h:Kd' V B)(hhi:hi < 2 ^ B):∀ (j q:Nat),j≤B→q≤hi→q % 2 ^ j=0→hi - q+1 < 2 ^ j→∃ t,Greedy V B hi q t∧t.length≤j:=by
 intro j
 induction j using Nat.strongRecOn with
 |_ j ih=>
  intro q hj hle ha hR
  have hq:q < 2 ^ B:=xH7 hle hhi
  obtain⟨n,n1,n2,n3,n4⟩:=pick h hq hle
  have hp:=Nat.pow_pos (n:=B - n) (show 0 < 2 by decide)
  have hlt:B - n < j:=by
   rcases xHr (B - n) j with c|c
   ·exact c
   ·have:2 ^ j≤2 ^ (B - n):=xI8 (by decide) c
    omega
  by_cases c:q+(2 ^ (B - n) - 1)=hi
  ·exact⟨_,.last q n n1 n2 c n4,by simp;omega⟩
  ·have hn0:0 < n:=by omega
   have hw:=n4 (n - 1) (by omega) (yJ7 (by omega) ha)
   have e:2 ^ (B - (n - 1))=2 ^ (B - n) * 2:=by rw[show B - (n - 1)=(B - n)+1 by omega,Nat.pow_succ]
   rw[e] at hw
   obtain⟨t,t1,t2⟩:=ih (B - n) hlt (q+2 ^ (B - n)) (by omega) (by omega) (yFa n2) (by omega)
   exact⟨_,.step q n t n1 n2 (by omega) n4 t1,by simp only[xG4];omega⟩
theorem yFb {V:Int}{B hi:Nat}(h:Kd' V B)(hhi:hi < 2 ^ B):∀ (d a q:Nat),B - a≤d→a+1≤B→q≤hi→q % 2 ^ a=0→(0 < q∨a=0)→∃ t,Greedy V B hi q t∧t.length+a≤2 * (B - 1):=by
 have hB2:2≤B:=by rcases h with⟨_,rfl⟩|⟨_,rfl⟩<;>decide
 intro d
 induction d with
 |zero=>intro a q hd ha;omega
 |succ d ih=>
  intro a q hd ha hle hal h0
  have hq:q < 2 ^ B:=xH7 hle hhi
  by_cases hR:hi - q+1 < 2 ^ a
  ·obtain⟨t,t1,t2⟩:=zN3 h hhi a q (by omega) hle hal hR
   exact⟨t,t1,by omega⟩
  ·obtain⟨n,n1,n2,n3,n4⟩:=pick h hq hle
   have hp:=Nat.pow_pos (n:=B - n) (show 0 < 2 by decide)
   have hpa:=Nat.pow_pos (n:=a) (show 0 < 2 by decide)
   have hja:a≤B - n:=by
    rcases xHr (B - n) a with c|c
    ·have:=n4 (B - a) (by omega) (by rw[show B - (B - a)=a by omega];exact hal)
     rw[show B - (B - a)=a by omega] at this
     omega
    ·exact c
   by_cases c:q+(2 ^ (B - n) - 1)=hi
   ·exact⟨_,.last q n n1 n2 c n4,by simp;omega⟩
   ·
    have hn0:0 < n:=by
     rcases Nat.eq_zero_or_pos n with c0|c0
     ·subst c0
      rw[Nat.sub_zero] at n3 c
      omega
     ·exact c0
    have e:2 ^ (B - (n - 1))=2 ^ (B - n) * 2:=by rw[show B - (n - 1)=(B - n)+1 by omega,Nat.pow_succ]
    by_cases hfit:hi < q+(2 ^ (B - n) * 2 - 1)
    ·
     obtain⟨t,t1,t2⟩:=zN3 h hhi (B - n) (q+2 ^ (B - n)) (by omega) (by omega) (yFa n2) (by omega)
     refine⟨_,.step q n t n1 n2 (by omega) n4 t1,?_⟩
     simp only[xG4]
     by_cases hn1:n=1
     ·subst hn1
      rcases h0 with h0|h0
      ·exfalso
       obtain⟨m,rfl⟩:=xIq n2
       have eB:2 ^ B=2 ^ (B - 1) * 2:=by rw[← Nat.pow_succ];congr 1;omega
       have hm:m=1:=by
        rw[eB] at hq
        have h2:m < 2:=Nat.lt_of_mul_lt_mul_left hq
        rcases Nat.eq_zero_or_pos m with c1|c1
        ·subst c1;simp at h0
        ·omega
       subst hm
       rw[eB] at hhi
       omega
      ·omega
     ·omega
    ·have hodd:q % 2 ^ (B - n+1)≠0:=by
      intro hz
      have hw:=n4 (n - 1) (by omega) (by rw[show B - (n - 1)=B - n+1 by omega];exact hz)
      rw[e] at hw
      exact hfit hw
     have hn2:2≤n:=by
      rcases xHr n 2 with c2|c2
      ·exfalso
       obtain rfl:n=1:=by omega
       have eB:2 ^ B=2 ^ (B - 1) * 2:=by rw[← Nat.pow_succ];congr 1;omega
       apply hodd
       have hq0:q=0:=by omega
       rw[hq0,Nat.zero_mod]
      ·exact c2
     obtain⟨t,t1,t2⟩:=ih (B - n+1) (q+2 ^ (B - n)) (by omega) (by omega) (by omega) (yQj n2 hodd) (.inl (by omega))
     exact⟨_,.step q n t n1 n2 (by omega) n4 t1,by simp only[xG4];omega⟩
theorem yFc {V:Int}{B hi q:Nat}(h:Kd' V B)(hhi:hi < 2 ^ B)(hle:q≤hi):∃ t,Greedy V B hi q t∧t.length≤254:=by
 have hB:=h.le
 have hB2:2≤B:=by rcases h with⟨_,rfl⟩|⟨_,rfl⟩<;>decide
 obtain⟨t,t1,t2⟩:=yFb h hhi B 0 q (by omega) (by omega) hle (by simp[Nat.mod_one]) (.inr rfl)
 exact⟨t,t1,by omega⟩
theorem zHy {B hi q m n:Nat}(hm1:m≤B)(hn1:n≤B)(ma:q % 2 ^ (B - m)=0)(na:q % 2 ^ (B - n)=0)(mf:q+(2 ^ (B - m) - 1)≤hi)(nf:q+(2 ^ (B - n) - 1)≤hi)(mw:zN2 B hi q m)(nw:zN2 B hi q n):m=n:=by
 rcases Nat.lt_trichotomy m n with c|c|c
 ·have:=nw m c ma;omega
 ·exact c
 ·have:=mw n c na;omega
theorem zT2 {V:Int}{B hi:Nat}(h:Kd' V B)(hhi:hi < 2 ^ B)(a b c:Int){q:Nat}{t:List S30}(hg:Greedy V B hi q t):∀ (k:Nat) (out:List S30),t.length+B+4≤k→out.length+t.length < 4398046511104→
  YI.l0 k out a b c V (H hi) (L hi) V (H q) (L q)=some (out++t):=by
 induction hg with
 |last q n h1 h2 h3 h4=>
  intro k out hk hlen
  obtain⟨k,rfl⟩:∃ m,k=m+2:=⟨k - 2,by omega⟩
  have hp:=Nat.pow_pos (n:=B - n) (show 0 < 2 by decide)
  have hle:q≤hi:=by omega
  have hq:q < 2 ^ B:=xH7 hle hhi
  simp only[xHv] at hk hlen
  obtain⟨m,m1,m2,m3,m4,m5⟩:=zNn h hq hle (k:=k+1) (by omega)
  obtain rfl:=zHy m1 h1 m2 h2 m3 (by omega) m4 h4
  have e2:=yOv h hq m1 m2
  have e3:=yDz h (show q+(2 ^ (B - m) - 1) < 2 ^ B by omega)
  have heq:q+(2 ^ (B - m) - 1)+1=q+2 ^ (B - m):=by omega
  rw[heq] at e3
  have e4:=zKc V (a:=hi) (b:=q+2 ^ (B - m))
  rw[YI.l0,m5,xGp,xGq (by omega),xGp]
  simp only
  rw[e2,xGp]
  simp only
  rw[e3]
  by_cases c2:q+2 ^ (B - m) < 2 ^ B
  ·rw[xGq c2,xGp,xGq rfl]
   simp only
   rw[e4,xGp,xGq (xGx (by omega))]
   rfl
  ·rw[xGr c2,xGp,xGr (by decide)]
   rfl
 |step q n t h1 h2 h3 h4 h5 ih=>
  intro k out hk hlen
  obtain⟨k,rfl⟩:∃ m,k=m+2:=⟨k - 2,by omega⟩
  have hp:=Nat.pow_pos (n:=B - n) (show 0 < 2 by decide)
  have hle:q≤hi:=by omega
  have hq:q < 2 ^ B:=xH7 hle hhi
  simp only[xG4] at hk hlen
  obtain⟨m,m1,m2,m3,m4,m5⟩:=zNn h hq hle (k:=k+1) (by omega)
  obtain rfl:=zHy m1 h1 m2 h2 m3 (by omega) m4 h4
  have e2:=yOv h hq m1 m2
  have e3:=yDz h (show q+(2 ^ (B - m) - 1) < 2 ^ B by omega)
  have heq:q+(2 ^ (B - m) - 1)+1=q+2 ^ (B - m):=by omega
  rw[heq] at e3
  have e4:=zKc V (a:=hi) (b:=q+2 ^ (B - m))
  have t2:=ih (k+1) (out++[mkP V q m]) (by omega) (by rw[xG8];simp;omega)
  rw[YI.l0,m5,xGp,xGq (by omega),xGp]
  simp only
  rw[e2,xGp]
  simp only
  rw[e3]
  rw[xGq (show q+2 ^ (B - m) < 2 ^ B by omega),xGp,xGq rfl]
  simp only
  rw[e4,xGp,xGr (by simp;omega)]
  rw[xIa] at t2
  exact t2
theorem yFd {V:Int}{B q hi:Nat}(h:Kd' V B)(hhi:hi < 2 ^ B)(hle:q≤hi):
  ∃ t,Greedy V B hi q t∧t.length≤254∧YI.f 400 V (H q) (L q) V (H hi) (L hi)=some t:=by
 have hB:=h.le
 obtain⟨t,t1,t2⟩:=yFc h hhi hle
 refine⟨t,t1,t2,?_⟩
 unfold YI.f
 rw[zTs h hhi hle,xGp,xGq rfl]
 exact zT2 h hhi V (H q) (L q) t1 400 [] (by omega) (by simp;omega)
end Go.Proofs.YtfnacgojmdbjmaaGreatDoor.PRD
namespace Go.Proofs.YtfnacgojmdbjmaaGreatDoor
open Go.Det Go.RowKit Go.Proofs.ZW PRD
def cvI:Nat→Int→Int→Int→Int→Int→Int→Int→Option Int
 |0,_,_,_,_,_,_,_=>none
 |k+1,a0,a1,a2,h0,h1,h2,n=>if n > 0 then(Yi.f a0 a1 a2 (wrap64 (n - 1))).bind fun o=>(if o=true then(Yq.f a0 a1 a2 (wrap64 (n - 1))).bind fun la=>(Yd.f h0 h1 h2 la.1 la.2.1 la.2.2).bind fun c=>(if c=true then some n else cvI k a0 a1 a2 h0 h1 h2 (wrap64 (n - 1))) else some n) else some n
def cvO:Nat→Int→Int→Int→Int→Int→Int→Int→Int→Int→List Q4→Option (List Q4)
 |0,_,_,_,_,_,_,_,_,_,_=>none
 |k+1,r0,r1,r2,r3,r4,r5,a0,a1,a2,out=>(Yk.f r0 r1 r2 r3 r4 r5).bind fun o=>if o=true then(Yr.f a0).bind fun B=>(cvI 200 a0 a1 a2 r3 r4 r5 B).bind fun n=>(Yq.f a0 a1 a2 n).bind fun la=>(YA.f la.1 la.2.1 la.2.2).bind fun nx=>
   (if nx.2.2.2=true then(Yd.f r3 r4 r5 nx.1 nx.2.1 nx.2.2.1).bind fun c=>(if c=true then some (out++[(a0,a1,a2,n)]) else cvO k r0 r1 r2 r3 r4 r5 nx.1 nx.2.1 nx.2.2.1 (out++[(a0,a1,a2,n)])) else some (out++[(a0,a1,a2,n)]))
  else some out
def cvF (r0 r1 r2 r3 r4 r5:Int):Option (List Q4):=cvO 400 r0 r1 r2 r3 r4 r5 r0 r1 r2 []
def p4 (p:S30):Q4:=(p.f0.f0,p.f0.f1.f0,p.f0.f1.f1,p.f1)
theorem yFe (V:Int){a b:Nat}:Yd.f V (H a) (L a) V (H b) (L b)=some (decide (a < b)):=by
 obtain⟨c,c1,c2⟩:=zV4 V (H a) (L a) V (H b) (L b)
 rw[zKc] at c1
 cases c1
 exact c2
theorem zXw {V:Int}{B q:Nat}(h:Kd' V B)(hq:q < 2 ^ B):YA.f V (H q) (L q)=if q+1 < 2 ^ B then some (V,H (q+1),L (q+1),true) else some (0,0,0,false):=by
 have e:=ySz (q:=q) (n:=1) (h.pow hq) (by decide)
 have e1:YN.f (H q) (L q) 0 1=_:=e
 unfold YA.f
 rw[e1]
 have ok:=PRD.okA h hq
 rw[← zH5] at ok
 by_cases hM:q+1 < zB1
 ·rw[xGq hM,xGp,ok,xGp,xGq rfl,xGq rfl]
  have o2:=yWf h hM
  rw[← zH5] at o2
  rw[o2,xGp]
  by_cases hb:q+1 < 2 ^ B
  ·rw[xGx hb,xGq rfl,xGq hb]
  ·rw[xG1 hb,xGr (by decide),xGr hb]
 ·have hb:¬ q+1 < 2 ^ B:=fun q'=>hM (h.pow q')
  rw[xGr hM,xGp,ok,xGp,xGq rfl,xGr (by decide),xGr hb]
theorem yTl {V:Int}{B q hi:Nat}(h:Kd' V B)(hq:q < 2 ^ B)(hhi:hi < 2 ^ B)(hle:q≤hi):∀ (n k:Nat),n+1≤k→n≤B→q % 2 ^ (B - n)=0→q+(2 ^ (B - n) - 1)≤hi→
  ∃ m,m≤B∧q % 2 ^ (B - m)=0∧q+(2 ^ (B - m) - 1)≤hi∧zN2 B hi q m∧cvI k V (H q) (L q) V (H hi) (L hi) (n:Int)=some (m:Int):=by
 intro n
 induction n with
 |zero=>
  intro k hk hn h1 h2
  obtain⟨k,rfl⟩:∃ j,k=j+1:=⟨k - 1,by omega⟩
  refine⟨0,hn,h1,h2,fun i hi=>absurd hi (Nat.not_lt_zero _),?_⟩
  unfold cvI
  rw[xGr (by omega)]
 |succ n ih=>
  intro k hk hn h1 h2
  obtain⟨k,rfl⟩:∃ j,k=j+1:=⟨k - 1,by omega⟩
  have hB:=h.le
  have hw:wrap64 (((n+1:Nat):Int) - 1)=(n:Int):=by rw[w64 (by omega) (by omega)];omega
  unfold cvI
  rw[xGq (by omega),hw,yTj h hq (by omega),xGp]
  by_cases ha:q % 2 ^ (B - n)=0
  ·rw[xGx ha,xGq rfl,yOx h hq (by omega) ha,xGp,yFe,xGp]
   by_cases hf:hi < q+(2 ^ (B - n) - 1)
   ·rw[xGx hf,xGq rfl]
    refine⟨n+1,hn,h1,h2,fun i hi' _=>?_,rfl⟩
    have:=xI8 (n:=2) (by decide) (show B - n≤B - i by omega)
    omega
   ·rw[xG1 hf,xGr (by decide)]
    exact ih k (by omega) (by omega) ha (by omega)
  ·rw[xG1 ha,xGr (by decide)]
   refine⟨n+1,hn,h1,h2,fun i hi' h0=>?_,rfl⟩
   exact absurd (yJ7 (i:=B - n) (j:=B - i) (by omega) h0) ha
theorem yFf {V:Int}{B lo hi:Nat}(h:Kd' V B)(hhi:hi < 2 ^ B)(hlo:lo≤hi){q:Nat}{t:List S30}(hg:Greedy V B hi q t):lo≤q→∀ (k:Nat) (out:List Q4),t.length+1≤k→
  cvO k V (H lo) (L lo) V (H hi) (L hi) V (H q) (L q) out=some (out++t.map p4):=by
 have hB:=h.le
 obtain⟨o,o1,o2⟩:=Yt0 V (H lo) (L lo) V (H hi) (L hi)
 rw[zTs h hhi hlo] at o1
 cases o1
 have start:∀ q,q≤hi→∃ m,m≤B∧q % 2 ^ (B - m)=0∧q+(2 ^ (B - m) - 1)≤hi∧zN2 B hi q m∧cvI 200 V (H q) (L q) V (H hi) (L hi) (B:Int)=some (m:Int):=by
  intro q hq
  refine yTl h (xH7 hq hhi) hhi hq B 200 (by omega) (xGv _) ?_ ?_
  ·rw[Nat.sub_self];omega
  ·rw[Nat.sub_self];omega
 induction hg with
 |last q n h1 h2 h3 h4=>
  intro _ k out hk
  obtain⟨k,rfl⟩:∃ m,k=m+1:=⟨k - 1,by omega⟩
  have hp:=Nat.pow_pos (n:=B - n) (show 0 < 2 by decide)
  have hle:q≤hi:=by omega
  have hq:q < 2 ^ B:=xH7 hle hhi
  obtain⟨m,m1,m2,m3,m4,m5⟩:=start q hle
  obtain rfl:=zHy m1 h1 m2 h2 m3 (by omega) m4 h4
  have e3:=zXw h (show q+(2 ^ (B - m) - 1) < 2 ^ B by omega)
  unfold cvO
  rw[o2,xGp,xGq rfl,h.rbits,xGp,m5,xGp,yOx h hq m1 m2,xGp,e3]
  by_cases hb:q+(2 ^ (B - m) - 1)+1 < 2 ^ B
  ·rw[xGq hb,xGp,xGq rfl,yFe,xGp,xGx (by omega),xGq rfl];rfl
  ·rw[xGr hb,xGp,xGr (by decide)];rfl
 |step q n t h1 h2 h3 h4 hg ih=>
  intro hlq k out hk
  obtain⟨k,rfl⟩:∃ m,k=m+1:=⟨k - 1,by omega⟩
  have hp:=Nat.pow_pos (n:=B - n) (show 0 < 2 by decide)
  have hle:q≤hi:=by omega
  have hq:q < 2 ^ B:=xH7 hle hhi
  obtain⟨m,m1,m2,m3,m4,m5⟩:=start q hle
  obtain rfl:=zHy m1 h1 m2 h2 m3 (by omega) m4 h4
  have e3:=zXw h (show q+(2 ^ (B - m) - 1) < 2 ^ B by omega)
  have heq:q+(2 ^ (B - m) - 1)+1=q+2 ^ (B - m):=by omega
  rw[heq,xGq (by omega)] at e3
  simp only[xG4] at hk
  unfold cvO
  rw[o2,xGp,xGq rfl,h.rbits,xGp,m5,xGp,yOx h hq m1 m2,xGp,e3,xGp,xGq rfl,yFe,xGp,xG1 (by omega),xGr (by decide)]
  rw[ih (by omega) k (out++[(V,H q,L q,(m:Int))]) (by omega)]
  rw[xHx,xIa];rfl
theorem yIq {V:Int}{B q hi:Nat}(h:Kd' V B)(hhi:hi < 2 ^ B)(hle:q≤hi):∃ t,t≠[]∧t.length≤254∧YI.f 400 V (H q) (L q) V (H hi) (L hi)=some t∧cvF V (H q) (L q) V (H hi) (L hi)=some (t.map p4):=by
 obtain⟨t,t1,t2,t3⟩:=yFd h hhi hle
 refine⟨t,t1.ne,t2,t3,?_⟩
 unfold cvF
 rw[yFf h hhi hle t1 (xGv _) 400 [] (by omega)];rfl
end Go.Proofs.YtfnacgojmdbjmaaGreatDoor
namespace Go.Proofs.YtfnacgojmdbjmaaGreatDoor
open Go.Det Go.RowKit PRD Go.Proofs.ZW
def yQk (v:CvV):Prop:=¬ 0 < v.n∨(0 < v.n∧Yi.f v.a0 v.a1 v.a2 (wrap64 (v.n - 1))=some false)∨(0 < v.n∧Yi.f v.a0 v.a1 v.a2 (wrap64 (v.n - 1))=some true∧∃ z:Int×Int×Int,Yq.f v.a0 v.a1 v.a2 (wrap64 (v.n - 1))=some z∧Yd.f v.r3 v.r4 v.r5 z.1 z.2.1 z.2.2=some true)
theorem yIr {v:CvV}{R:Prop}(h:yQk v)(r:R):zAd (zAf (0 < v.n)) (∃ x4:Bool,Yi.f v.a0 v.a1 v.a2 (IntKind.wrap IntKind.i64 (v.n - 1))=some x4∧zAd (!x4) R (∃ x5:Int×Int×Int,Yq.f v.a0 v.a1 v.a2 (IntKind.wrap IntKind.i64 (v.n - 1))=some x5∧∃ x6:Bool,Yd.f v.r3 v.r4 v.r5 x5.1 x5.2.1 x5.2.2=some x6∧zAd x6 R False)) R:=by
 unfold yQk at h
 simp only[← zBn] at h
 rcases h with h|⟨h,h1⟩|⟨h,h1,z,h2,h3⟩
 ·exact wdF h r
 ·exact wdT h ⟨false,h1,r⟩
 ·exact wdT h ⟨true,h1,z,h2,true,h3,r⟩
theorem zT3 (k:Bool):∀ (j:Nat) (v:CvV) (m:Int),cvI j v.a0 v.a1 v.a2 v.r3 v.r4 v.r5 v.n=some m→Star (zPy k) v { v with n:=m }∧yQk { v with n:=m }
 |0,_,_,h=>by cases h
 |j+1,v,m,h=>by
  unfold cvI at h
  by_cases c:v.n > 0
  ·rw[xGq c] at h
   obtain⟨o,e1,h⟩:=xGs.1 h
   cases o with
   |false=>rw[xGr (by decide)] at h;cases h;exact⟨.refl _,.inr (.inl ⟨c,e1⟩)⟩
   |true=>
    rw[xGq rfl] at h
    obtain⟨z,e2,h⟩:=xGs.1 h
    obtain⟨d,e3,h⟩:=xGs.1 h
    cases d with
    |true=>rw[xGq rfl] at h;cases h;exact⟨.refl _,.inr (.inr ⟨c,e1,z,e2,e3⟩)⟩
    |false=>
     rw[xGr (by decide)] at h
     obtain⟨hs,hf⟩:=zT3 k j { v with n:=wrap64 (v.n - 1) } m h
     refine⟨.step ?_ hs,hf⟩
     cases k with
     |true=>
      refine(yXm v { v with n:=wrap64 (v.n - 1) } False).mpr ?_
      refine wdT c ⟨true,(zBn _).symm ▸ e1,z,(zBn _).symm ▸ e2,false,e3,?_⟩
      show _∧_
      repeat'(first|rfl|exact xHo|exact congrArg (Value.int .i64) (zBn _)|refine xGy ?_ ?_)
     |false=>
      refine(yXl v { v with n:=wrap64 (v.n - 1) } False).mpr ?_
      refine wdT c ⟨true,(zBn _).symm ▸ e1,z,(zBn _).symm ▸ e2,false,e3,?_⟩
      show _∧_
      repeat'(first|rfl|exact xHo|exact congrArg (Value.int .i64) (zBn _)|refine xGy ?_ ?_)
  ·rw[xGr c] at h;cases h;exact⟨.refl _,.inl c⟩
def zT4 (v:CvV)(n:Int)(nx:Int×Int×Int×Bool):Prop:=Yk.f v.r0 v.r1 v.r2 v.r3 v.r4 v.r5=some true∧∃ (B:Int) (la:Int×Int×Int),Yr.f v.a0=some B∧cvI 200 v.a0 v.a1 v.a2 v.r3 v.r4 v.r5 B=some n∧Yq.f v.a0 v.a1 v.a2 n=some la∧YA.f la.1 la.2.1 la.2.2=some nx
def zZ3 (v:CvV)(n:Int):List Q4:=v.out++[(v.a0,v.a1,v.a2,n)]
def zOp (v:CvV)(n:Int)(nx:Int×Int×Int×Bool):CvV:={ v with a0:=nx.1,a1:=nx.2.1,a2:=nx.2.2.1,out:=zZ3 v n,n:=n }
def yTm (v:CvV)(r:List Q4):Prop:=(Yk.f v.r0 v.r1 v.r2 v.r3 v.r4 v.r5=some false∧r=v.out)∨∃ n nx,zT4 v n nx∧(nx.2.2.2=false∨(nx.2.2.2=true∧Yd.f v.r3 v.r4 v.r5 nx.1 nx.2.1 nx.2.2.1=some true))∧r=zZ3 v n
theorem zN4 {j:Nat}{v:CvV}{r:List Q4}(h:cvO (j+1) v.r0 v.r1 v.r2 v.r3 v.r4 v.r5 v.a0 v.a1 v.a2 v.out=some r):
  yTm v r∨∃ n nx,zT4 v n nx∧nx.2.2.2=true∧Yd.f v.r3 v.r4 v.r5 nx.1 nx.2.1 nx.2.2.1=some false∧cvO j v.r0 v.r1 v.r2 v.r3 v.r4 v.r5 nx.1 nx.2.1 nx.2.2.1 (zZ3 v n)=some r:=by
 unfold cvO at h
 obtain⟨o,e1,h⟩:=xGs.1 h
 cases o with
 |false=>rw[xGr (by decide)] at h;cases h;exact .inl (.inl ⟨e1,rfl⟩)
 |true=>
  rw[xGq rfl] at h
  obtain⟨B,e2,h⟩:=xGs.1 h
  obtain⟨n,e3,h⟩:=xGs.1 h
  obtain⟨la,e4,h⟩:=xGs.1 h
  obtain⟨nx,e5,h⟩:=xGs.1 h
  have F:zT4 v n nx:=⟨e1,B,la,e2,e3,e4,e5⟩
  by_cases c:nx.2.2.2=true
  ·rw[xGq c] at h
   obtain⟨d,e6,h⟩:=xGs.1 h
   cases d with
   |true=>rw[xGq rfl] at h;cases h;exact .inl (.inr ⟨n,nx,F,.inr ⟨c,e6⟩,rfl⟩)
   |false=>rw[xGr (by decide)] at h;exact .inr ⟨n,nx,F,c,e6,h⟩
  ·rw[xGr c] at h;cases h
   exact .inl (.inr ⟨n,nx,F,.inl (by cases q:nx.2.2.2 with|true=>exact absurd q c|false=>rfl),rfl⟩)
theorem zV6:∀ (j:Nat) (v:CvV) (r:List Q4),cvO j v.r0 v.r1 v.r2 v.r3 v.r4 v.r5 v.a0 v.a1 v.a2 v.out=some r→v.out.length≤r.length
 |0,_,_,h=>by cases h
 |j+1,v,r,h=>by
  rcases zN4 h with(⟨_,rfl⟩|⟨n,nx,_,_,rfl⟩)|⟨n,nx,_,_,_,h⟩
  ·exact xGv _
  ·unfold zZ3;rw[xG8];omega
  ·have:=zV6 j (zOp v n nx) r h
   unfold zOp zZ3 at this
   simp only[xG8] at this
   omega
theorem yQl {v:CvV}{n:Int}{nx:Int×Int×Int×Bool}(h:zT4 v n nx)(hl:v.out.length≤1000)(ho:nx.2.2.2=true)(hls:Yd.f v.r3 v.r4 v.r5 nx.1 nx.2.1 nx.2.2.1=some false):zKu true v (zOp v n nx):=by
 obtain⟨hO,B,la,hB,hn,hLa,hNx⟩:=h
 obtain⟨hs,he⟩:=zT3 true 200 { v with n:=B } n hn
 have hlen:v.out.length+1=(zZ3 v n).length:=by unfold zZ3;rw[xG8];rfl
 refine(yXo v (zOp v n nx) False).mpr ?_
 refine⟨true,hO,B,hB,{ v with n:=B },?_,{ v with n:=n },hs,yIr he ⟨v.out,rfl,rfl,hl,rfl,rfl,rfl,(v.a0,v.a1,v.a2,n),rfl,la,hLa,nx,hNx,bifW_n (fun _=>⟨false,hls,?_⟩) (fun q=>absurd ho q)⟩⟩
 ·repeat'(first|rfl|exact xHo|refine xGy ?_ ?_)
 ·show _∧_
  repeat'(first|rfl|exact xHo|exact hlen|refine xGy ?_ ?_)
theorem yQm {v:CvV}{n:Int}{nx:Int×Int×Int×Bool}(h:zT4 v n nx)(hl:v.out=[])(ho:nx.2.2.2=true)(hls:Yd.f v.r3 v.r4 v.r5 nx.1 nx.2.1 nx.2.2.1=some false):zKu false v (zOp v n nx):=by
 obtain⟨r0,r1,r2,r3,r4,r5,a0,a1,a2,out,n0⟩:=v
 obtain rfl:out=[]:=hl
 obtain⟨hO,B,la,hB,hn,hLa,hNx⟩:=h
 obtain⟨hs,he⟩:=zT3 false 200 ⟨r0,r1,r2,r3,r4,r5,a0,a1,a2,[],B⟩ n hn
 refine(yXn _ (zOp ⟨r0,r1,r2,r3,r4,r5,a0,a1,a2,[],n0⟩ n nx) False).mpr ?_
 refine⟨true,hO,B,hB,⟨r0,r1,r2,r3,r4,r5,a0,a1,a2,[],B⟩,?_,_,hs,yIr he ⟨la,hLa,nx,hNx,bifW_n (fun _=>⟨false,hls,?_⟩) (fun q=>absurd ho q)⟩⟩
 ·repeat'(first|rfl|exact xHo|refine xGy ?_ ?_)
 ·show _∧_
  repeat'(first|rfl|exact xHo|refine xGy ?_ ?_)
theorem yJ8:∀ (j:Nat) (v:CvV) (r:List Q4),r.length≤1000→cvO j v.r0 v.r1 v.r2 v.r3 v.r4 v.r5 v.a0 v.a1 v.a2 v.out=some r→∃ v',Star (zKu true) v v'∧yTm v' r∧v'.out.length≤1000
 |0,_,_,_,h=>by cases h
 |j+1,v,r,hr,h=>by
  have hl:=zV6 _ v r h
  rcases zN4 h with e|⟨n,nx,F,ho,hls,h⟩
  ·exact⟨v,.refl v,e,by omega⟩
  ·obtain⟨v',hs,he⟩:=yJ8 j (zOp v n nx) r hr h
   exact⟨v',.step (yQl F (by omega) ho hls) hs,he⟩
def cgF (x:Int×Int×Int×Int×Int×Int):Option (List Q4):=(cvF x.1 x.2.1 x.2.2.1 x.2.2.2.1 x.2.2.2.2.1 x.2.2.2.2.2).bind fun r=>if r.length≤1000 then some r else none
theorem yQn {x:Int×Int×Int×Int×Int×Int}{r:List Q4}(h:cgF x=some r):cvO 400 x.1 x.2.1 x.2.2.1 x.2.2.2.1 x.2.2.2.2.1 x.2.2.2.2.2 x.1 x.2.1 x.2.2.1 []=some r∧r.length≤1000:=by
 unfold cgF cvF at h
 obtain⟨o,e1,h⟩:=xGs.1 h
 split at h
 ·rename_i q;cases h;exact⟨e1,q⟩
 ·cases h
theorem zIn {v:CvV}{n:Int}:zZ3 v n≠[]:=by unfold zZ3;exact List.append_ne_nil_of_right_ne_nil _ (by simp)
theorem wGo (x:Int×Int×Int×Int×Int×Int)(r:List Q4)(hx:cgF x=some r):zAo Tryz.prog (cwC Lcg) (zAa Tryz.f53) (zAg (zRp x) 8) (zAh [] 64) (zA2 Tryz.prog Tryz.f53 (yQ9 r)):=by
 obtain⟨a,b,c,d,e,f⟩:=x
 obtain⟨h,hr⟩:=yQn hx
 refine zAr (zAp Lcg) zF0 _ yQf ((xGg a b c d e f r).mpr ?_)
 refine⟨⟨a,b,c,d,e,f,a,b,c,[],0⟩,?_,?_⟩
 ·repeat'(first|rfl|exact xHo|exact zIn|refine xGy ?_ ?_)
 rcases zN4 (v:=⟨a,b,c,d,e,f,a,b,c,[],0⟩) h with hE|⟨n,nx,F,ho,hls,h⟩
 ·left
  rcases hE with⟨hO,rfl⟩|⟨n,nx,⟨hO,B,la,hB,hn,hLa,hNx⟩,hend,rfl⟩
  ·exact⟨false,hO,rfl⟩
  ·obtain⟨hs,he⟩:=zT3 false 200 ⟨a,b,c,d,e,f,a,b,c,[],B⟩ n hn
   refine⟨true,hO,B,hB,⟨a,b,c,d,e,f,a,b,c,[],B⟩,?_,_,hs,yIr he ⟨la,hLa,nx,hNx,?_⟩⟩
   ·repeat'(first|rfl|exact xHo|exact zIn|refine xGy ?_ ?_)
   ·rcases hend with ho|⟨ho,hls⟩
    ·refine bifW_n (fun q=>by rw[ho] at q;cases q) (fun _=>?_)
     repeat'(first|rfl|exact xHo|exact zIn|refine xGy ?_ ?_)
    ·refine bifW_n (fun _=>⟨true,hls,?_⟩) (fun q=>absurd ho q)
     show _∧_
     repeat'(first|rfl|exact xHo|exact zIn|refine xGy ?_ ?_)
 ·right
  obtain⟨v',hs',hE,hl'⟩:=yJ8 _ (zOp ⟨a,b,c,d,e,f,a,b,c,[],0⟩ n nx) r hr h
  refine⟨_,.mk (yQm F rfl ho hls),v',hs',?_⟩
  have hne:r≠[]:=fun q=>by
   have:=zV6 _ (zOp ⟨a,b,c,d,e,f,a,b,c,[],0⟩ n nx) r h
   rw[q] at this
   exact absurd this (by unfold zOp zZ3;simp)
  rcases hE with⟨hO,rfl⟩|⟨n,nx,⟨hO,B,la,hB,hn,hLa,hNx⟩,hend,rfl⟩
  ·exact⟨false,hO,by repeat'(first|rfl|exact xHo|exact hne|refine xGy ?_ ?_)⟩
  ·obtain⟨hs,he⟩:=zT3 true 200 { v' with n:=B } n hn
   have hlen:v'.out.length+1=(zZ3 v' n).length:=by unfold zZ3;rw[xG8];rfl
   refine⟨true,hO,B,hB,{ v' with n:=B },?_,{ v' with n:=n },hs,yIr he ⟨v'.out,rfl,rfl,hl',rfl,rfl,rfl,(v'.a0,v'.a1,v'.a2,n),rfl,la,hLa,nx,hNx,?_⟩⟩
   ·repeat'(first|rfl|exact xHo|exact zIn|refine xGy ?_ ?_)
   ·rcases hend with ho|⟨ho,hls⟩
    ·refine bifW_n (fun q=>by rw[ho] at q;cases q) (fun _=>?_)
     repeat'(first|rfl|exact xHo|exact hlen|exact zIn|refine xGy ?_ ?_)
    ·refine bifW_n (fun _=>⟨true,hls,?_⟩) (fun q=>absurd ho q)
     show _∧_
     repeat'(first|rfl|exact xHo|exact hlen|exact zIn|refine xGy ?_ ?_)
theorem yJ9 {k:Nat}{a b c d e f:Int}{r:Q4}(h:Yv.f k a b c d e f=some r):∀ d',Yv.f (k+d') a b c d e f=some r
 |0=>h
 |n+1=>Yv.mono a b c d e f (k+n) r (yJ9 h n)
def zT5 (v:CvV)(p:Q4)(nx:Int×Int×Int×Bool):Prop:=F77 400 (v.a0,v.a1,v.a2,v.r3,v.r4,v.r5)=some p∧∃ la:Int×Int×Int,YT.f p.1 p.2.1 p.2.2.1 p.2.2.2=some la∧Yc0.f la.1 la.2.1 la.2.2=some nx
def zRr (v:CvV)(p:Q4)(nx:Int×Int×Int×Bool):CvV:={ v with a0:=nx.1,a1:=nx.2.1,a2:=nx.2.2.1,out:=v.out++[p] }
def yTn (v:CvV)(r:List Q4):Prop:=∃ p nx,zT5 v p nx∧(nx.2.2.2=false∨(nx.2.2.2=true∧Yx.f v.r3 v.r4 v.r5 nx.1 nx.2.1 nx.2.2.1=some true))∧r=v.out++[p]
theorem zN5 {j:Nat}{v:CvV}{x t:List S30}(hj:j≤399)(hx:v.out=x.map p4)(h:YI.l0 (j+1) x v.r0 v.r1 v.r2 v.r3 v.r4 v.r5 v.a0 v.a1 v.a2=some t):
  yTn v (t.map p4)∨∃ p nx y,zT5 v p nx∧nx.2.2.2=true∧Yx.f v.r3 v.r4 v.r5 nx.1 nx.2.1 nx.2.2.1=some false∧(zRr v p nx).out=y.map p4∧YI.l0 j y v.r0 v.r1 v.r2 v.r3 v.r4 v.r5 nx.1 nx.2.1 nx.2.2.1=some t:=by
 unfold YI.l0 at h
 obtain⟨p,e1,h⟩:=xGs.1 h
 split at h
 case isFalse=>cases h
 obtain⟨y,e2,h⟩:=xGs.1 h
 cases e2
 obtain⟨la,e3,h⟩:=xGs.1 h
 obtain⟨nx,e4,h⟩:=xGs.1 h
 have w:=yJ9 e1 (400 - j)
 rw[show j+(400 - j)=400 by omega] at w
 have F:zT5 v p nx:=⟨w,la,e3,e4⟩
 have hy:v.out++[p]=(x++[(⟨⟨p.1,⟨p.2.1,p.2.2.1⟩⟩,p.2.2.2⟩:S30)]).map p4:=by rw[List.map_append,hx];rfl
 by_cases c:nx.2.2.2=true
 ·rw[xGq c] at h
  obtain⟨d,e6,h⟩:=xGs.1 h
  cases d with
  |true=>rw[xGq rfl] at h;cases h;exact .inl ⟨p,nx,F,.inr ⟨c,e6⟩,hy.symm⟩
  |false=>rw[xGr (by decide)] at h;exact .inr ⟨p,nx,_,F,c,e6,hy,h⟩
 ·rw[xGr c] at h;cases h
  exact .inl ⟨p,nx,F,.inl (by cases q:nx.2.2.2 with|true=>exact absurd q c|false=>rfl),hy.symm⟩
theorem yFg:∀ (j:Nat) (v:CvV) (x t:List S30),j≤400→v.out=x.map p4→YI.l0 j x v.r0 v.r1 v.r2 v.r3 v.r4 v.r5 v.a0 v.a1 v.a2=some t→v.out.length≤t.length
 |0,_,_,_,_,_,h=>by simp[YI.l0] at h
 |j+1,v,x,t,hj,hx,h=>by
  rcases zN5 (by omega) hx h with⟨p,nx,_,_,e⟩|⟨p,nx,y,_,_,_,e,h⟩
  ·have:=congrArg List.length e
   rw[xHm,xG8] at this
   omega
  ·have:=yFg j (zRr v p nx) y t (by omega) e h
   unfold zRr at this
   simp only[xG8] at this
   omega
theorem yQo {v:CvV}{p:Q4}{nx:Int×Int×Int×Bool}(h:zT5 v p nx)(hl:v.out.length≤1000)(ho:nx.2.2.2=true)(hls:Yx.f v.r3 v.r4 v.r5 nx.1 nx.2.1 nx.2.2.1=some false):zKw true v (zRr v p nx):=by
 obtain⟨hW,la,hLa,hNx⟩:=h
 have hlen:v.out.length+1=(v.out++[p]).length:=by rw[xG8];rfl
 refine(yXq v (zRr v p nx) False).mpr ⟨p,hW,v.out,rfl,rfl,hl,rfl,rfl,rfl,p,rfl,la,hLa,nx,hNx,bifW_n (fun _=>⟨false,hls,?_⟩) (fun q=>absurd ho q)⟩
 show _∧_
 repeat'(first|rfl|exact xHo|exact hlen|refine xGy ?_ ?_)
theorem yQp {v:CvV}{p:Q4}{nx:Int×Int×Int×Bool}(h:zT5 v p nx)(hl:v.out=[])(ho:nx.2.2.2=true)(hls:Yx.f v.r3 v.r4 v.r5 nx.1 nx.2.1 nx.2.2.1=some false):zKw false v (zRr v p nx):=by
 obtain⟨r0,r1,r2,r3,r4,r5,a0,a1,a2,out,n0⟩:=v
 obtain rfl:out=[]:=hl
 obtain⟨hW,la,hLa,hNx⟩:=h
 refine(yXp _ (zRr ⟨r0,r1,r2,r3,r4,r5,a0,a1,a2,[],n0⟩ p nx) False).mpr ⟨p,hW,la,hLa,nx,hNx,bifW_n (fun _=>⟨false,hls,?_⟩) (fun q=>absurd ho q)⟩
 show _∧_
 repeat'(first|rfl|exact xHo|refine xGy ?_ ?_)
theorem yKa:∀ (j:Nat) (v:CvV) (x t:List S30),j≤400→v.out=x.map p4→t.length≤1000→YI.l0 j x v.r0 v.r1 v.r2 v.r3 v.r4 v.r5 v.a0 v.a1 v.a2=some t→∃ v',Star (zKw true) v v'∧yTn v' (t.map p4)∧v'.out.length≤1000
 |0,_,_,_,_,_,_,h=>by simp[YI.l0] at h
 |j+1,v,x,t,hj,hx,ht,h=>by
  have hl:=yFg _ v x t hj hx h
  rcases zN5 (by omega) hx h with e|⟨p,nx,y,F,ho,hls,e,h⟩
  ·exact⟨v,.refl v,e,by omega⟩
  ·obtain⟨v',hs,he⟩:=yKa j (zRr v p nx) y t (by omega) e ht h
   exact⟨v',.step (yQo F (by omega) ho hls) hs,he⟩
def crF (x:Int×Int×Int×Int×Int×Int):Option (List Q4):=(YI.f 400 x.1 x.2.1 x.2.2.1 x.2.2.2.1 x.2.2.2.2.1 x.2.2.2.2.2).bind fun r=>if r.length≤1000 then some (r.map p4) else none
theorem zT6 {l:List Q4}{p:Q4}:l++[p]≠[]:=List.append_ne_nil_of_right_ne_nil _ (by simp)
theorem wCr (x:Int×Int×Int×Int×Int×Int)(r:List Q4)(hx:crF x=some r):zAo Tryz.prog (cwC Lcr) (zAa Tryz.f33) (zAg (zRp x) 8) (zAh [] 64) (zA2 Tryz.prog Tryz.f33 (yQ9 r)):=by
 obtain⟨a,b,c,d,e,f⟩:=x
 unfold crF at hx
 obtain⟨t,h,hx⟩:=xGs.1 hx
 split at hx
 case isFalse=>cases hx
 rename_i ht
 cases hx
 refine zAr (zAp Lcr) zF0 _ yQg ((xGh a b c d e f (t.map p4)).mpr ?_)
 unfold YI.f at h
 obtain⟨o,eo,h⟩:=xGs.1 h
 have eo:YE.f a b c d e f=some o:=eo
 cases o with
 |false=>rw[xGr (by decide)] at h;cases h;exact⟨false,eo,rfl⟩
 |true=>
  rw[xGq rfl] at h
  refine⟨true,eo,⟨a,b,c,d,e,f,a,b,c,[],0⟩,?_,?_⟩
  ·repeat'(first|rfl|exact xHo|exact zT6|refine xGy ?_ ?_)
  rcases zN5 (v:=⟨a,b,c,d,e,f,a,b,c,[],0⟩) (x:=[]) (xGv _) rfl h with⟨p,nx,⟨hW,la,hLa,hNx⟩,hend,hr⟩|⟨p,nx,y,F,ho,hls,e,h⟩
  ·left
   rw[hr]
   refine⟨p,hW,la,hLa,nx,hNx,?_⟩
   rcases hend with ho|⟨ho,hls⟩
   ·refine bifW_n (fun q=>by rw[ho] at q;cases q) (fun _=>?_)
    repeat'(first|rfl|exact xHo|exact zT6|refine xGy ?_ ?_)
   ·refine bifW_n (fun _=>⟨true,hls,?_⟩) (fun q=>absurd ho q)
    show _∧_
    repeat'(first|rfl|exact xHo|exact zT6|refine xGy ?_ ?_)
  ·right
   obtain⟨v',hs',⟨p',nx',⟨hW,la,hLa,hNx⟩,hend,hr⟩,hl'⟩:=yKa _ (zRr ⟨a,b,c,d,_,f,a,b,c,[],0⟩ p nx) y t (by omega) e ht h
   refine⟨_,.mk (yQp F rfl ho hls),v',hs',?_⟩
   rw[hr]
   have hlen:v'.out.length+1=(v'.out++[p']).length:=by rw[xG8];rfl
   refine⟨p',hW,v'.out,rfl,rfl,hl',rfl,rfl,rfl,p',rfl,la,hLa,nx',hNx,?_⟩
   rcases hend with ho|⟨ho,hls⟩
   ·refine bifW_n (fun q=>by rw[ho] at q;cases q) (fun _=>?_)
    repeat'(first|rfl|exact xHo|exact hlen|exact zT6|refine xGy ?_ ?_)
   ·refine bifW_n (fun _=>⟨true,hls,?_⟩) (fun q=>absurd ho q)
    show _∧_
    repeat'(first|rfl|exact xHo|exact hlen|exact zT6|refine xGy ?_ ?_)
theorem zXx {r:List Q4}{v:Value}{s:St}(h:yQ9 r v s):yJ2 encQ 30 4 r v s:=by
 unfold yQ9 at h
 split at h
 ·subst h;rfl
 ·obtain⟨rfl,hne,rfl,h⟩:=h
  cases r with
  |nil=>exact absurd rfl hne
  |cons x t=>exact⟨_,rfl,zGi h⟩
 ·exact h.elim
theorem zT7 (x:Q4):∀ v∈encQ x,flat v=true:=by
 intro v hv
 simp only[encQ,xG6,xHh,or_false] at hv
 rcases hv with rfl|rfl|rfl|rfl<;>rfl
def yIs (k:Bool):Con:=Con.rowK yE0 cgF encQ 30 4 k
def zXy (k:Bool):Con:=Con.rowK yE0 crF encQ 30 4 k
theorem xGi {W:World}(hW:GoodW W)(k:Bool):zAk Tryz.prog W 6 53 (yIs k).own:=
 zXr zRp (Laying.empty hW.size) hW.size (by decide) (by decide) zAl (yXh hW) (zAq Lcg) Tryz.func53 (fn:=Tryz.f53) (c:=zAa Tryz.f53) (by kernel_rfl) (by kernel_rfl) (fun _ _ h=>zNy h) (fun a=>⟨rfl,(by kernel_rfl)⟩) zT7 (fun a r h=>zA1 (zAp _) _ (fun _ _ _ q=>zNf (fun _ _=>zXx) q) (wGo a r h)) k
theorem yXr {W:World}(hW:GoodW W)(k:Bool):zAk Tryz.prog W 6 33 (zXy k).own:=
 zXr zRp (Laying.empty hW.size) hW.size (by decide) (by decide) zAl (yXj hW) (zAq Lcr) Tryz.func33 (fn:=Tryz.f33) (c:=zAa Tryz.f33) (by kernel_rfl) (by kernel_rfl) (fun _ _ h=>zNy h) (fun a=>⟨rfl,(by kernel_rfl)⟩) zT7 (fun a r h=>zA1 (zAp _) _ (fun _ _ _ q=>zNf (fun _ _=>zXx) q) (wCr a r h)) k
end Go.Proofs.YtfnacgojmdbjmaaGreatDoor
namespace Go.Det
def Con.row {α β:Type}(dec:List Value→Option α)(F:α→Option (List β))(enc:β→List Value)(elem n:Nat):Con where
 own:=fun args s=>match dec args with
  |some a=>(match F a with
   |some r=>(match r with
    |[]=>none
    |_::_=>some (.slice (some ⟨s.next,0,none⟩) r.length (zBa+n),s.new (.cells (r.flatMap enc) (2 * elem) false)))
   |none=>none)
  |none=>none
 w:=fun args s K=>match dec args with
  |some a=>∃ r,F a=some r∧(r≠[]∧K (.slice (some ⟨s.next,0,none⟩) r.length (zBa+n)) (s.new (.cells (r.flatMap enc) (2 * elem) false)))
  |none=>False
 ok:=by
  intro args s K h
  split at h
  ·rename_i a ha
   obtain⟨r,hr,hne,hk⟩:=h
   refine⟨_,_,?_,hk,fun K' k=>⟨r,hr,hne,k⟩⟩
   cases r with
   |nil=>exact absurd rfl hne
   |cons x t=>simp only[ha,hr]
  ·exact h.elim
 mono:=by
  intro args s K K' k h
  split at h
  ·obtain⟨r,hr,hne,hk⟩:=h
   exact⟨r,hr,hne,k _ _ hk⟩
  ·exact h.elim
end Go.Det
namespace Go.Proofs.YtfnacgojmdbjmaaGreatDoor
open Go.Det Go.RowKit Go.Proofs.ZW
theorem yQq {f:FuncId}{fn:Func}{c:Code}{α β:Type}{dec:List Value→Option α}{F:α→Option (List β)}{enc:β→List Value}{elem n:Nat}{W:World}(hn:∀ x,(enc x).length=n)(hn0:0 < n)(hfl:∀ x,∀ v∈enc x,flat v=true)
  (hW:GoodW W) (hf:Tryz.prog.funcs[f]?=some fn) (hb:fn.body=some c) (hnm:(fn.name== "runtime.NumGoroutine")=false)
  (h:∀ args a r,dec args=some a→F a=some r→zCo args=true∧∀ w,GoodW w→Calls Tryz.prog f ⟨args⟩ w fun e w'=>∃ v,e=.returned v∧Below w.heap.size w w'∧w'.ownsRow w.heap.size elem n v r.length (r.flatMap enc)):
  zAk Tryz.prog W 6 f (Con.row dec F enc elem n).own:=by
 refine⟨fun args=>?_,fun W1 k1 args s v s' e φ w args' H _ hA hfr _=>?_⟩
 ·refine zI2 (match dec args with
   |some a=>(match F a with
    |some r=>(match r with
     |[]=>none
     |_::_=>some (Blk.cells (r.flatMap enc) (2 * elem) false,fun k=>Value.slice (some ⟨k,0,none⟩) r.length (zBa+n)))
    |none=>none)
   |none=>none) fun s=>?_
  show(match dec args with
   |some a=>(match F a with
    |some r=>(match r with
     |[]=>none
     |_::_=>some (Value.slice (some ⟨s.next,0,none⟩) r.length (zBa+n),s.new (.cells (r.flatMap enc) (2 * elem) false)))
    |none=>none)
   |none=>none)=_
  cases dec args with
  |none=>rfl
  |some a=>
   simp only
   cases F a with
   |none=>rfl
   |some r=>cases r<;>rfl
 ·have e0:(match dec args with
   |some a=>(match F a with
    |some r=>(match r with
     |[]=>none
     |_::_=>some (Value.slice (some ⟨s.next,0,none⟩) r.length (zBa+n),s.new (.cells (r.flatMap enc) (2 * elem) false)))
    |none=>none)
   |none=>none)=some (v,s'):=e
  split at e0
  case h_2=>cases e0
  rename_i a ha
  split at e0
  case h_2=>cases e0
  rename_i r hr
  split at e0
  case h_1=>cases e0
  rename_i x t
  cases e0
  obtain⟨h1,h3⟩:=h args a (x::t) ha hr
  rw[zB5 h1 hA,zBg hf hb hnm]
  have kw:Later W w:=k1.trans H.later
  refine(h3 w (hW.later kw.size kw.old)).mono ?_
  rintro e W' ⟨v,rfl,hB,hl,ho⟩
  rcases ho with⟨_,ho⟩|⟨g,cap,cur,rfl,hg,hblk,hcap,_,hsz,hcur⟩
  ·simp at ho
  have hnew:φ s.next=none:=hfr s.next (xGv _) (by show s.next < Nat.max s.hi (s.next+1);exact xHd (xHw _) (xIy _ _))
  refine⟨_,upd φ s.next (g,0,cur.size),rfl,Ext.upd hnew _,?_,?_⟩
  ·exact VR.sliceU (φ:=upd φ s.next (g,0,cur.size)) s.next 0 g 0 cur.size (x::t).length cap n (zBd _ _ _) hn0 (by omega) hcap
  ·refine H.adopt (w':=W') hnew hB.os hB.output hB.tape hB.size (fun j hj _=>hB.block j hj) (xHf H.size hg) (fz:=(0,0)) (c:=cur) (by rw[zSa];exact hblk) (fun _=>rfl) ?_ rfl ?_ (fun i hi=>?_) (fun _ o _=>by simp) (fun O q=>by rw[xIb hg] at q;cases q)
   ·intro j cj ej rj bj sj zj _ a'
    have:=H.dom _ _ _ _ a'
    omega
   ·rw[hl,hsz];have:=xIn n hcap;omega
   ·have hv:((x::t).flatMap enc).getD i und=cur.getD i und:=by
     rw[← hcur,xGw,xHb,xIh,xGq (by rw[← hl];exact hi)]
     simp
    rw[xIz,hv]
    refine zCp ?_ _
    rw[← hv,xGw,xGz hi]
    have hm:=xH3 hi
    obtain⟨y,_,hy⟩:=List.mem_flatMap.1 hm
    exact hfl y _ hy
end Go.Proofs.YtfnacgojmdbjmaaGreatDoor
namespace Go.Proofs.YtfnacgojmdbjmaaGreatDoor
open Go.Det Go.RowKit PRD Go.Proofs.ZW
def yF2 (x:ByteArray×Int):Option (List ByteArray):=if x.1.size≤1000 then PPPT.Yo.f 7000 x.1 x.2 else none
def yYw (s:ByteArray):List Value:=[.string s]
theorem zT8:∀ l:List ByteArray,l.flatMap yYw=l.map Value.string
 |[]=>rfl
 |x::t=>by rw[List.flatMap_cons,xHx,zT8 t];rfl
def con79:Con:=Con.row yEl yF2 yYw 9 1
theorem xGj {W:World}(hW:GoodW W):zAk Tryz.prog W 6 79 con79.own:=by
 refine yQq (fn:=Tryz.f79) (c:=zAa Tryz.f79) (fun _=>rfl) (by decide) (fun x v hv=>?_) hW Tryz.func79 (by kernel_rfl) (by kernel_rfl) fun args a r ha hr=>?_
 ·obtain rfl:=xHs.1 hv
  rfl
 obtain rfl:=yEm ha
 unfold yF2 at hr
 split at hr
 case isFalse=>cases hr
 refine⟨rfl,fun w hG=>(PPPT.Yo.calls 7000 a.1 a.2 r w hG hr).mono ?_⟩
 rintro e w' ⟨v,rfl,hR,hB⟩
 obtain⟨_,inner,ho,hreps⟩:=hR
 obtain rfl:=zLk (enc:=Value.string) (fun p c h=>h) hreps
 refine⟨v,rfl,hB,?_⟩
 rw[zT8]
 exact ho
def yIt:Con where
 own:=con79.own
 w:=fun args s K=>match yEl args with
  |some a=>∃ x y:ByteArray,yF2 a=some [x,y]∧K (.slice (some ⟨s.next,0,none⟩) 2 (zBa+1)) (s.new (.cells [.string x,.string y] (2 * 9) false))
  |none=>False
 ok:=by
  intro args s K h
  split at h
  ·rename_i a ha
   obtain⟨x,y,h,hk⟩:=h
   exact⟨_,_,by unfold con79 Con.row;simp only[ha,h];rfl,hk,fun K' k=>⟨x,y,h,k⟩⟩
  ·exact h.elim
 mono:=by
  intro args s K K' k h
  split at h
  ·obtain⟨x,y,h,hk⟩:=h
   exact⟨x,y,h,k _ _ hk⟩
  ·exact h.elim
abbrev P7:Type:=Int×Int×Int×Int×Int×Int×Bool
def zZx:P7:=(0,0,0,0,0,0,false)
def yUl (x y:ByteArray):Option P7:=(zNu x).bind fun a=>(zNu y).bind fun b=>if a.2.2.2=true then(if b.2.2.2=true then(Yk.f a.1 a.2.1 a.2.2.1 b.1 b.2.1 b.2.2.1).bind fun o=>(if o=true then some (a.1,a.2.1,a.2.2.1,b.1,b.2.1,b.2.2.1,true) else some zZx) else some zZx) else some zZx
def yTo:List ByteArray→Option P7
 |[x,y]=>yUl x y
 |_=>some zZx
def zT9 (s:ByteArray):Option P7:=(yF2 (s,45)).bind yTo
def L47 (two:Bool):List (Nat×Con):=[(79,match two with|true=>yIt|false=>con79),(63,con63),(49,con49)]
def con47:Con:=Con.opt zZp (fun s=>zT9 s) yDu
theorem yXs (s:ByteArray)(Q:Value→Prop):zBj Tryz.prog (cwC (L47 true)) (oxE [14]) 0 (zAa Tryz.f47) (zAg [.string s] 8) (zAh [] 64) (zA2 Tryz.prog Tryz.f47 fun v _=>Q v)=((∃ x0:ByteArray,(∃ x1:ByteArray,((yF2 (s,45)=Option.some [x0,x1])∧((Bool.true=Bool.true)∧((((0:Int)≤0)∧(0 < (↑2:Int)))∧(∃ x2:Int×Int×Int×Bool,((zNu x0=Option.some x2)∧((((0:Int)≤1)∧(1 < (↑2:Int)))∧(∃ x3:Int×Int×Int×Bool,((zNu x1=Option.some x3)∧zAd (!Prod.snd (Prod.snd (Prod.snd x2))) (Q (Value.tuple #[Value.agg #[Value.int IntKind.i64 0,Value.int IntKind.u64 0,Value.int IntKind.u64 0,Value.int IntKind.i64 0,Value.int IntKind.u64 0,Value.int IntKind.u64 0],Value.bool Bool.false])) (zAd (!Prod.snd (Prod.snd (Prod.snd x3))) (Q (Value.tuple #[Value.agg #[Value.int IntKind.i64 0,Value.int IntKind.u64 0,Value.int IntKind.u64 0,Value.int IntKind.i64 0,Value.int IntKind.u64 0,Value.int IntKind.u64 0],Value.bool Bool.false])) ((∃ x4:Bool,((Yk.f (Prod.fst x2) (Prod.fst (Prod.snd x2)) (Prod.fst (Prod.snd (Prod.snd x2))) (Prod.fst x3) (Prod.fst (Prod.snd x3)) (Prod.fst (Prod.snd (Prod.snd x3)))=Option.some x4)∧zAd (!x4) (Q (Value.tuple #[Value.agg #[Value.int IntKind.i64 0,Value.int IntKind.u64 0,Value.int IntKind.u64 0,Value.int IntKind.i64 0,Value.int IntKind.u64 0,Value.int IntKind.u64 0],Value.bool Bool.false])) (Q (Value.tuple #[Value.agg #[Value.int IntKind.i64 (Prod.fst x2),Value.int IntKind.u64 (Prod.fst (Prod.snd x2)),Value.int IntKind.u64 (Prod.fst (Prod.snd (Prod.snd x2))),Value.int IntKind.i64 (Prod.fst x3),Value.int IntKind.u64 (Prod.fst (Prod.snd x3)),Value.int IntKind.u64 (Prod.fst (Prod.snd (Prod.snd x3)))],Value.bool Bool.true]))))))))))))))))):=by kernel_rfl
theorem yXt (s:ByteArray)(Q:Value→Prop):zBj Tryz.prog (cwC (L47 false)) (oxJ Tryz.prog 1000 false [] [] [18]) 0 (zAa Tryz.f47) (zAg [.string s] 8) (zAh [] 64) (zA2 Tryz.prog Tryz.f47 fun v _=>Q v)=((∃ x0:List ByteArray,((yF2 (s,45)=Option.some x0)∧((x0≠[])∧zAd (zAf ((↑(List.length x0):Int)≠2)) (Q (Value.tuple #[Value.agg #[Value.int IntKind.i64 0,Value.int IntKind.u64 0,Value.int IntKind.u64 0,Value.int IntKind.i64 0,Value.int IntKind.u64 0,Value.int IntKind.u64 0],Value.bool Bool.false])) (False))))):=by kernel_rfl
def yYx:List (Nat×Own):=[(79,con79.own),(63,con63.own),(49,con49.own)]
theorem zZy {s:ByteArray}{l:List ByteArray}(h:yF2 (s,45)=some l):l≠[]:=by
 unfold yF2 at h
 split at h
 case isFalse=>cases h
 rename_i hs
 have hs:s.size≤1000:=hs
 have e:=zJl (s:=s) (c:=45) hs (k:=7000) (by omega)
 have h':PPPT.Yo.f 7000 s (((45:UInt8).toNat:Nat):Int)=some l:=h
 rw[e] at h'
 cases h'
 have:=zNr 45 s.data.toList
 intro q
 exact this (List.map_eq_nil_iff.1 q)
theorem wRg (s:ByteArray)(y:P7)(hx:zT9 s=some y):∃ cw,CwOk (zDc yYx) cw∧zAo Tryz.prog cw (zAa Tryz.f47) (zAg [.string s] 8) (zAh [] 64) (zA2 Tryz.prog Tryz.f47 fun v' _=>v'=yDu y):=by
 unfold zT9 at hx
 obtain⟨l,el,hx⟩:=xGs.1 hx
 unfold yTo at hx
 split at hx
 ·rename_i x z
  refine⟨_,zAq (L47 true),zAs (zAp _) (zEc _) (n:=0) (by kernel_rfl) ((yXs s _).mpr ⟨x,z,el,rfl,⟨by decide,by decide⟩,?_⟩)⟩
  unfold yUl at hx
  obtain⟨a,ea,hx⟩:=xGs.1 hx
  obtain⟨b,eb,hx⟩:=xGs.1 hx
  refine⟨a,ea,⟨by decide,by decide⟩,b,eb,bifW_n (fun hc=>bifW_n (fun hd=>?_) fun hd=>?_) fun hc=>?_⟩
  ·rw[xGq hc,xGq hd] at hx
   obtain⟨o,eo,hx⟩:=xGs.1 hx
   refine⟨o,eo,bifW_n (fun ho=>?_) fun ho=>?_⟩
   ·rw[xGq ho] at hx;cases hx;rfl
   ·rw[xGr ho] at hx;cases hx;rfl
  ·rw[xGq hc,xGr hd] at hx;cases hx;rfl
  ·rw[xGr hc] at hx;cases hx;rfl
 ·rename_i hno
  cases hx
  refine⟨_,zAq (L47 false),zAs (zAp _) (zNv _ _ _ _ _) (n:=0) (by kernel_rfl) ((yXt s _).mpr ⟨l,el,zZy el,bifW_c (fun _=>rfl) fun h2=>?_⟩)⟩
  have h2:l.length=2:=by omega
  match l,h2,hno with
  |[x,z],_,hno=>exact(hno x z rfl).elim
theorem xGk {W:World}(hW:GoodW W):zAk Tryz.prog W 6 47 con47.own:=by
 refine zNm (l:=yYx) (Laying.empty hW.size) hW.size (by decide) zAl (OwnsAll.cons (xGj hW) (OwnsAll.cons (xGa hW) (OwnsAll.cons (yQd hW) (zAb W 6)))) Tryz.func47 (fn:=Tryz.f47) (c:=zAa Tryz.f47) (by kernel_rfl) (by kernel_rfl) fun args v hv=>?_
 split at hv
 case h_2=>cases hv
 rename_i a ha
 split at hv
 case h_2=>cases hv
 rename_i b hd
 cases hv
 obtain rfl:=zGn ha
 exact⟨rfl,rfl,by kernel_rfl,wRg a b hd⟩
theorem yFh {c:UInt8}:∀ (l:List UInt8),c∉l→spl c l=[l]
 |[],_=>rfl
 |x::t,h=>by
  simp only[xG6,not_or] at h
  rw[spl,xGr (fun q=>h.1 q.symm),yFh t h.2]
theorem yFi {c:UInt8}{b:List UInt8}(hb:c∉b):∀ (a:List UInt8),c∉a→spl c (a++c::b)=[a,b]
 |[],_=>by rw[xH4,spl,xGq rfl,yFh b hb]
 |x::t,h=>by
  simp only[xG6,not_or] at h
  rw[xIs,spl,xGr (fun q=>h.1 q.symm),yFi hb t h.2]
theorem yFj (c:UInt8):∀ (l:List UInt8),(spl c l).length=l.count c+1
 |[]=>rfl
 |x::t=>by
  have ih:=yFj c t
  rw[spl]
  by_cases h:x=c
  ·rw[xGq h,h,List.count_cons_self,xG4,ih]
  ·rw[xGr h,List.count_cons_of_ne h]
   split
   ·rename_i e;rw[e] at ih;simp at ih
   ·rename_i e;rw[e] at ih;exact ih
theorem yFk {l:List ByteArray}(h:l.length≠2):yTo l=some zZx:=by
 unfold yTo
 split
 ·exact absurd rfl h
 ·rfl
theorem zXz (x:ByteArray)(hx:x.size≤200):∃ r,YH.f x=some r∧zNu x=some r∧yEa r:=by
 obtain⟨r,hr,ha⟩:=yEc hx
 refine⟨r,hr,?_,ha⟩
 unfold zNu
 rw[xGq hx,yIc hx]
 exact hr
theorem yKb {s:ByteArray}(hs:s.size≤1000):yF2 (s,45)=some ((spl 45 s.data.toList).map mkB):=by
 unfold yF2
 rw[xGq (show s.size≤1000 from hs)]
 exact zJl (s:=s) (c:=45) hs (k:=7000) (by omega)
theorem zUa {s:ByteArray}{a b:List UInt8}(hs:s.size≤1000)(e:s.data.toList=a++45::b)(ha:45∉a)(la:a.length≤200)(lb:b.length≤200):∃ r,YM.f s=some r∧zT9 s=some r:=by
 have odd:Odd 45:=⟨by decide,by decide⟩
 unfold YM.f zT9
 rw[yKb hs,xGp]
 have ec:Yo0.f s { data:=#[45] }=some (mkB a,mkB b,true):=by
  show zDg s _=_
  unfold zDg zVm
  rw[xGq (show s.size < 4294967281 by omega),show(ByteArray.data { data:=#[45] }).toList=[45] from rfl,e,Txt.cut_one b ha]
  rfl
 obtain⟨x,x1,x2,x3⟩:=zXz (mkB a) (by rw[bsz];omega)
 obtain⟨y,y1,y2,y3⟩:=zXz (mkB b) (by rw[bsz];omega)
 rw[ec,xGp,x1,xGp,y1,xGp,xGq rfl]
 by_cases hb:(45:UInt8)∈b
 ·have no:¬ y.2.2.2=true:=fun q=>yE8 odd (by rw[bsz];omega) y1 q hb
  have h3:((spl 45 s.data.toList).map mkB).length≠2:=by
   rw[xHm,yFj,e,List.count_append,List.count_cons_self]
   have:=List.count_pos_iff.2 hb
   omega
  rw[yFk h3,xGr no]
  split<;>exact⟨_,rfl,rfl⟩
 ·have h2:(spl 45 s.data.toList).map mkB=[mkB a,mkB b]:=by
   rw[e,yFi hb a ha];rfl
  rw[h2]
  show ∃ r,_=some r∧yUl (mkB a) (mkB b)=some r
  unfold yUl
  rw[x2,xGp,y2,xGp]
  obtain⟨o,o1,o2⟩:=Yt0 x.1 x.2.1 x.2.2.1 y.1 y.2.1 y.2.2.1
  rw[o1,o2]
  split
  ·split
   ·cases o<;>exact⟨_,rfl,rfl⟩
   ·exact⟨_,rfl,rfl⟩
  ·exact⟨_,rfl,rfl⟩
theorem zJs {s:ByteArray}(hs:s.size≤200):∃ r,YM.f s=some r∧zT9 s=some r:=by
 have hl:s.data.toList.length=s.size:=rfl
 by_cases h45:(45:UInt8)∈s.data.toList
 ·obtain⟨a,b,e,ha⟩:=List.eq_append_cons_of_mem h45
  have hle:a.length+1+b.length=s.size:=by rw[← hl,e];simp;omega
  exact zUa (by omega) e ha (by omega) (by omega)
 ·unfold YM.f zT9
  rw[yKb (show s.size≤1000 by omega),xGp]
  have ec:Yo0.f s { data:=#[45] }=some (s,⟨#[]⟩,false):=by
   show zDg s _=_
   unfold zDg zVm
   rw[xGq (show s.size < 4294967281 by omega),show(ByteArray.data { data:=#[45] }).toList=[45] from rfl,yIn h45]
  obtain⟨x,x1,_,_⟩:=zXz s hs
  obtain⟨y,y1,_,_⟩:=zXz ⟨#[]⟩ (xIc _)
  have h1:=zRj s.data.toList h45
  have hm:yTo ((spl 45 s.data.toList).map mkB)=some zZx:=yFk (by rw[xHm,h1];decide)
  rw[hm,ec,xGp,x1,xGp,y1,xGp,xGr (fun q=>by cases q)]
  exact⟨_,rfl,rfl⟩
def con34w:Con:=Con.opt yYs (fun _=>some true) fun b=>.bool b
theorem yXu {W:World}(hW:GoodW W):zAk Tryz.prog W 6 34 con34w.own:=by
 refine zA6 (fn:=Tryz.f34) (c:=zAa Tryz.f34) hW Tryz.func34 (by kernel_rfl) (by kernel_rfl) fun args v h=>?_
 split at h
 case h_2=>cases h
 rename_i a ha
 cases h
 unfold yYs at ha
 split at ha
 case h_2=>cases ha
 exact⟨rfl,rfl,fun w hG=>zZi w hG⟩
def L7r:List (Nat×Con):=[(36,con36),(10,con10),(46,con46),(12,con12),(32,con32),(47,con47),(35,con35),(48,con48),(49,con49),(40,con40),(50,con50),(39,con39),(51,con51),(41,con41),(52,con52),(34,con34w)]
def L7 (k:Bool):List (Nat×Con):=(33,zXy k)::(53,yIs k)::L7r
def L7d:List (Nat×Con):=(33,Con.or (zXy true) (zXy false) rfl)::(53,Con.or (yIs true) (yIs false) rfl)::L7r
theorem yYy {W:World}(hW:GoodW W):OwnsAll Tryz.prog W 6 (zZ2 L7d):=
 OwnsAll.con (yXr hW true) (OwnsAll.con (xGi hW true) (OwnsAll.con (xC7 hW) (OwnsAll.con (yZ4 hW) (OwnsAll.con (xGc hW) (OwnsAll.con (xGb hW) (OwnsAll.con (xDq hW) (OwnsAll.con (xGk hW) (OwnsAll.con (xDs hW) (OwnsAll.con (yNe hW) (OwnsAll.con (yQd hW) (OwnsAll.con (xDa hW) (OwnsAll.con (xGd hW) (OwnsAll.con (xC8 hW) (OwnsAll.con (xGe hW) (OwnsAll.con (xDb hW) (OwnsAll.con (xGf hW) (OwnsAll.con (yXu hW) (zAb W 6))))))))))))))))))
theorem cw7 (k:Bool):∀ g args s K,cwC (L7 k) g args s K→cwC L7d g args s K:=by
 intro g args s K h
 unfold L7 cwC at h
 unfold L7d cwC
 split at h
 ·rename_i q
  try simp only[q]
  cases k with
  |true=>exact .inl h
  |false=>exact .inr h
 ·rename_i q
  try simp only[q]
  unfold cwC at h ⊢
  split at h
  ·rename_i q
   try simp only[q]
   cases k with
   |true=>exact .inl h
   |false=>exact .inr h
  ·rename_i q
   try simp only[q]
   exact h
abbrev R6:Type:=Int×Int×Int×Int×Int×Int
def zEe (x:R6):List Value:=[.int .i64 x.1,.int .u64 x.2.1,.int .u64 x.2.2.1,.int .i64 x.2.2.2.1,.int .u64 x.2.2.2.2.1,.int .u64 x.2.2.2.2.2]
theorem zPz (N:Nat)(t:List R6):yKz N (t.flatMap zEe)=true:=by
 refine List.all_eq_true.2 fun v hv=>?_
 obtain⟨y,_,hy⟩:=List.mem_flatMap.1 hv
 simp only[zEe,xG6,xHh,or_false] at hy
 rcases hy with rfl|rfl|rfl|rfl|rfl|rfl<;>rfl
structure LqV where
 r:R6
 p:Q4
 t:List R6
 i:Int
 f:List Q4
 g:List Q4
 j:Int
def zZ4 (v:LqV):zK4:=[(19,.pointer (some ⟨65,0,none⟩)),(21,.pointer (some ⟨67,0,none⟩)),(102,.slice (some ⟨77,0,none⟩) 3 3),(103,.int .i64 3),(104,.int .i64 v.i)]
def yFl (v:LqV):zZf:=[(65,zEe v.r,105,false),(67,encQ v.p,61,false),(77,v.t.flatMap zEe,105,false)]
def zN6 (v:LqV)(l:zAv)(s:St):Prop:=zI9 l (zZ4 v)∧zPj s 65 (zEe v.r) 105 false∧zPj s 67 (encQ v.p) 61 false∧yG1 s 77 (v.t.flatMap zEe) 105 false
theorem zKx {v:LqV}{l:zAv}{s:St}(h:zN6 v l s):zDf l s (zBo (zZ4 v)) (zDr (yFl v) 78):=by
 obtain⟨h1,h2,h3,h4⟩:=h
 refine zEv (by decide) (fun x hx=>?_) (fun x hx=>?_) h1 ⟨zBu h2,zBu h3,zGi h4,trivial⟩
 ·simp only[zZ4,xG6,xHh,or_false] at hx
  rcases hx with rfl|rfl|rfl|rfl|rfl<;>rfl
 ·simp only[yFl,xG6,xHh,or_false] at hx
  rcases hx with rfl|rfl|rfl
  ·exact⟨show(64:Nat)≤65∧65 < 78 by decide,rfl⟩
  ·exact⟨show(64:Nat)≤67∧67 < 78 by decide,rfl⟩
  ·exact⟨show(64:Nat)≤77∧77 < 78 by decide,zPz _ _⟩
def yQr (v:LqV):zK4:=(30,.slice (some ⟨79,0,none⟩) v.f.length (zBa+4))::(31,.slice (some ⟨80,0,none⟩) v.g.length (zBa+4))::(157,.int .i64 (v.f.length:Int))::(158,.int .i64 v.j)::zZ4 v
def yRa (v:LqV):zZf:=(79,v.f.flatMap encQ,60,false)::(80,v.g.flatMap encQ,60,false)::yFl v
def zRs (v:LqV)(l:zAv)(s:St):Prop:=zI9 l (yQr v)∧yG1 s 79 (v.f.flatMap encQ) 60 false∧yG1 s 80 (v.g.flatMap encQ) 60 false∧zPj s 65 (zEe v.r) 105 false∧zPj s 67 (encQ v.p) 61 false∧yG1 s 77 (v.t.flatMap zEe) 105 false
theorem zKy {v:LqV}{l:zAv}{s:St}(h:zRs v l s):zDf l s (zBo (yQr v)) (zDr (yRa v) 81):=by
 obtain⟨h1,h5,h6,h2,h3,h4⟩:=h
 refine zEv (by decide) (fun x hx=>?_) (fun x hx=>?_) h1 ⟨zGi h5,zGi h6,zBu h2,zBu h3,zGi h4,trivial⟩
 ·simp only[yQr,zZ4,xG6,xHh,or_false] at hx
  rcases hx with rfl|rfl|rfl|rfl|rfl|rfl|rfl|rfl|rfl<;>rfl
 ·simp only[yRa,yFl,xG6,xHh,or_false] at hx
  rcases hx with rfl|rfl|rfl|rfl|rfl
  ·exact⟨show(64:Nat)≤79∧79 < 81 by decide,zKf _ _⟩
  ·exact⟨show(64:Nat)≤80∧80 < 81 by decide,zKf _ _⟩
  ·exact⟨show(64:Nat)≤65∧65 < 81 by decide,rfl⟩
  ·exact⟨show(64:Nat)≤67∧67 < 81 by decide,rfl⟩
  ·exact⟨show(64:Nat)≤77∧77 < 81 by decide,zPz _ _⟩
def zGw:Code:=match zBb (zAa Tryz.f7) with|_::b::_=>b|_=>.skip
def zUb:Code:=match zBb (zAa Tryz.f7) with|a::_=>a|_=>.skip
def zUc:Code:=match zBb zGw with|a::_=>a|_=>.skip
def yTp (b:Bool)(n:Nat):Option OpX:=match Nat.beq n 159 with
 |true=>some (yTf b)
 |false=>(match Nat.beq n 164||Nat.beq n 168 with|true=>some (yT4 encQ 30 4)|false=>none)
theorem yFm {cw:Cw}(b:Bool):zVb Tryz.prog cw (yTp b):=by
 intro n X hX o l s K h
 unfold yTp at hX
 split at hX
 ·cases hX;exact zVz h
 ·split at hX
  ·cases hX
   exact yBr (n:=3) (fun _=>rfl) (by kernel_rfl) (by kernel_rfl) h
  ·cases hX
def yRb (b:Bool)(n:Nat):Option OpX:=match Nat.beq n 105 with
 |true=>some (yTf b)
 |false=>(match Nat.beq n 107 with|true=>some (yT4 zEe 52 6)|false=>oxE [159] n)
theorem yFn {cw:Cw}(b:Bool):zVb Tryz.prog cw (yRb b):=by
 intro n X hX o l s K h
 unfold yRb at hX
 split at hX
 ·cases hX;exact zVz h
 ·split at hX
  ·cases hX
   exact yBr (n:=5) (fun _=>rfl) (by kernel_rfl) (by kernel_rfl) h
  ·exact zEc [159] n X hX o l s K h
def zX0 (v v1:LqV):Prop:=zB8 Tryz.prog (cwC (L7 true)) (yTp true) lxM zUc (zBo (yQr v)) (zDr (yRa v) 81) (zCi (fun l s=>zRs v1 l s) (fun _ _ _=>False))
def yYz:LpX:=fun l s K=>∃ v:LqV,zRs v l s∧∃ v':LqV,Star zX0 v v'∧zB8 Tryz.prog (cwC (L7 true)) (yTp false) lxM zUc (zBo (yQr v')) (zDr (yRa v') 81) (zCi (fun _ _=>False) K)
def yTq (k:Bool)(n:Nat):Option LpX:=match k with
 |true=>(match Nat.beq n 22 with|true=>some yYz|false=>none)
 |false=>lxU Tryz.prog (cwC (L7 false)) (oxE [159]) (zBb zGw) 1 n
theorem yQs (k:Bool):zZe Tryz.prog (cwC (L7 k)) (yTq k) (zBb zGw):=by
 cases k with
 |false=>exact yBt (zAp _) (zEc _) 1 (by kernel_rfl)
 |true=>
  have e:zBb zGw=[zUc]:=by kernel_rfl
  rw[e]
  intro a ha X hX l s K h
  obtain rfl:=xHs.1 ha
  have e2:yTq true (zJt zUc)=some yYz:=by kernel_rfl
  rw[e2] at hX
  cases hX
  obtain⟨v,hv,v',hs,he⟩:=h
  have hm:=zAp (L7 true)
  refine zEu hm (fun v=>zBo (yQr v)) (fun v=>zDr (yRa v) 81) (fun v v1 hstep=>?_) hs (zKy hv) (zAr hm (yFm false) _ (zFg _) he)
  exact zA1 hm _ (zBq (fun l s q=>zKy q) fun _ _ _ q=>q) (zAr hm (yFm true) _ (zFg _) hstep)
def yFo (k:Bool)(v v1:LqV):Prop:=zB8 Tryz.prog (cwC (L7 k)) (yRb true) (yTq k) zGw (zBo (zZ4 v)) (zDr (yFl v) 78) (zCi (fun l s=>zN6 v1 l s) (fun _ _ _=>False))
def zP0 (v v1:LqV):Prop:=yFo true v v1∨yFo false v v1
def yY0:LpX:=fun l s K=>∃ v:LqV,zN6 v l s∧∃ v':LqV,Star zP0 v v'∧zB8 Tryz.prog (cwC (L7 true)) (yRb false) lxM zGw (zBo (zZ4 v')) (zDr (yFl v') 78) (zCi (fun _ _=>False) K)
def yQt (n:Nat):Option LpX:=match Nat.beq n 14 with
 |true=>some yY0
 |false=>lxU Tryz.prog (cwC L7d) (oxR Tryz.prog 55 [77]) (zBb (zAa Tryz.f7)) 5 n
theorem yFp:zZe Tryz.prog (cwC L7d) yQt (zBb (zAa Tryz.f7)):=by
 have e:zBb (zAa Tryz.f7)=[zUb,zGw]:=by kernel_rfl
 intro a ha X hX l s K h
 have ha':=ha
 rw[e] at ha
 have hm:=zAp L7d
 rcases xG6.1 ha with rfl|ha
 ·have e2:yQt (zJt zUb)=lxU Tryz.prog (cwC L7d) (oxR Tryz.prog 55 [77]) (zBb (zAa Tryz.f7)) 5 (zJt zUb):=by
   have e3:Nat.beq (zJt zUb) 14=false:=by kernel_rfl
   unfold yQt
   rw[e3]
  rw[e2] at hX
  exact yBt hm (yJ1 55 [77]) 5 (by kernel_rfl) zUb ha' X hX l s K h
 ·obtain rfl:=xHs.1 ha
  have e2:yQt (zJt zGw)=some yY0:=by
   have e3:Nat.beq (zJt zGw) 14=true:=by kernel_rfl
   unfold yQt
   rw[e3]
  rw[e2] at hX
  cases hX
  obtain⟨v,hv,v',hs,he⟩:=h
  have up:∀ k v v1,yFo k v v1→zAo Tryz.prog (cwC L7d) zGw (zBo (zZ4 v)) (zDr (yFl v) 78) (zCi (fun l s=>zDf l s (zBo (zZ4 v1)) (zDr (yFl v1) 78)) (fun _ _ _=>False)):=
   fun k v v1 q=>zFe (cw7 k) (zAp _) hm _ (zA1 (zAp _) _ (zBq (fun l s q=>zKx q) fun _ _ _ q=>q) (zAr (zAp _) (yFn true) _ (yQs k) q))
  refine zEu hm (fun v=>zBo (zZ4 v)) (fun v=>zDr (yFl v) 78) (fun v v1 hstep=>?_) hs (zKx hv) (zFe (cw7 true) (zAp _) hm _ (zAr (zAp _) (yFn false) _ (zFg _) he))
  rcases hstep with q|q
  ·exact up true _ _ q
  ·exact up false _ _ q
theorem xGl (v v1:LqV)(Kp:Prop):zB8 Tryz.prog (cwC (L7 true)) (yTp true) lxM zUc (zBo (yQr v)) (zDr (yRa v) 81) (zCi (fun l s=>zRs v1 l s) (fun _ _ _=>Kp))=(((true=true)∧((zAf (v.j < (↑(List.length v.f):Int))=true)∧(((0≤v.j)∧(v.j < (↑(List.length v.f):Int)))∧((30=30)∧(∃ x0:List Q4,((List.flatMap encQ v.f=List.flatMap encQ x0)∧(∃ x1:Nat,((0+Int.toNat v.j * 4=x1 * 4)∧(∃ x2:Q4,((x0[x1]?=some x2)∧(((0≤v.j)∧(v.j < (↑(List.length v.g):Int)))∧((30=30)∧(∃ x3:List Q4,((List.flatMap encQ v.g=List.flatMap encQ x3)∧(∃ x4:Nat,((0+Int.toNat v.j * 4=x4 * 4)∧(∃ x5:Q4,((x3[x4]?=some x5)∧zAd (!(zAf (x2.1=x5.1)&&(zAf (x2.2.1=x5.2.1)&&(zAf (x2.2.2.1=x5.2.2.1)&&(zAf (x2.2.2.2=x5.2.2.2)&&true))))) Kp (((eqL [vS 79 (List.length v.f) (zBa+4),vS 80 (List.length v.g) (zBa+4),vI (↑(List.length v.f):Int),vI (IntKind.wrap .i64 (v.j+1)),vP 65,vP 67,vS 77 3 3,vI 3,vI v.i] [vS 79 (List.length v1.f) (zBa+4),vS 80 (List.length v1.g) (zBa+4),vI (↑(List.length v1.f):Int),vI v1.j,vP 65,vP 67,vS 77 3 3,vI 3,vI v1.i])∧((rE (List.flatMap encQ v.f) (List.flatMap encQ v1.f) 60)∧((rE (List.flatMap encQ v.g) (List.flatMap encQ v1.g) 60)∧((bE (zEe v.r) (zEe v1.r) 105)∧((bE (encQ v.p) (encQ v1.p) 61)∧(rE (List.flatMap zEe v.t) (List.flatMap zEe v1.t) 105)))))))))))))))))))))))))):=by kernel_rfl
theorem yXv (v v1:LqV)(Kp:Prop):zB8 Tryz.prog (cwC (L7 true)) (yRb true) (yTq true) zGw (zBo (zZ4 v)) (zDr (yFl v) 78) (zCi (fun l s=>zN6 v1 l s) (fun _ _ _=>Kp))=(((true=true)∧((zAf (v.i < 3)=true)∧(((0≤v.i)∧(v.i < (↑3:Int)))∧((52=52)∧(∃ x0:List R6,((List.flatMap zEe v.t=List.flatMap zEe x0)∧(∃ x1:Nat,((0+Int.toNat v.i * 6=x1 * 6)∧(∃ x2:R6,((x0[x1]?=some x2)∧(∃ x3:ByteArray,((Yn0.f x2.1 x2.2.1 x2.2.2.1 x2.2.2.2.1 x2.2.2.2.2.1 x2.2.2.2.2.2=some x3)∧(∃ x4:ByteArray,((YJ.f x2.1 x2.2.1 x2.2.2.1 x2.2.2.2.1 x2.2.2.2.2.1 x2.2.2.2.2.2=some x4)∧zAd (!zAf (x3.data.toList=x4.data.toList)) Kp ((∃ x5:Bool,((YE.f x2.1 x2.2.1 x2.2.2.1 x2.2.2.2.1 x2.2.2.2.2.1 x2.2.2.2.2.2=some x5)∧(∃ x6:Bool,((Yk.f x2.1 x2.2.1 x2.2.2.1 x2.2.2.2.1 x2.2.2.2.2.1 x2.2.2.2.2.2=some x6)∧zAd (!x5==x6) Kp ((∃ x7:Bool,((Yx0.f x2.1 x2.2.1 x2.2.2.1 x2.2.2.2.1 x2.2.2.2.2.1 x2.2.2.2.2.2 v.p.1 v.p.2.1 v.p.2.2.1 v.p.2.2.2=some x7)∧(∃ x8:Bool,((Yj0.f x2.1 x2.2.1 x2.2.2.1 x2.2.2.2.1 x2.2.2.2.2.1 x2.2.2.2.2.2 v.p.1 v.p.2.1 v.p.2.2.1 v.p.2.2.2=some x8)∧zAd (!x7==x8) Kp ((∃ x9:Bool,((Yq0.f x2.1 x2.2.1 x2.2.2.1 x2.2.2.2.1 x2.2.2.2.2.1 x2.2.2.2.2.2 v.r.1 v.r.2.1 v.r.2.2.1 v.r.2.2.2.1 v.r.2.2.2.2.1 v.r.2.2.2.2.2=some x9)∧(∃ x10:Bool,((YR.f x2.1 x2.2.1 x2.2.2.1 x2.2.2.2.1 x2.2.2.2.2.1 x2.2.2.2.2.2 v.r.1 v.r.2.1 v.r.2.2.1 v.r.2.2.2.1 v.r.2.2.2.2.1 v.r.2.2.2.2.2=some x10)∧zAd (!x9==x10) Kp ((∃ x11:Bool,((Yr0.f x2.1 x2.2.1 x2.2.2.1 x2.2.2.2.1 x2.2.2.2.2.1 x2.2.2.2.2.2 v.r.1 v.r.2.1 v.r.2.2.1 v.r.2.2.2.1 v.r.2.2.2.2.1 v.r.2.2.2.2.2=some x11)∧(∃ x12:Bool,((YS.f x2.1 x2.2.1 x2.2.2.1 x2.2.2.2.1 x2.2.2.2.2.1 x2.2.2.2.2.2 v.r.1 v.r.2.1 v.r.2.2.1 v.r.2.2.2.1 v.r.2.2.2.2.1 v.r.2.2.2.2.2=some x12)∧zAd (!x11==x12) Kp ((∃ x13:List Q4,((crF (x2.1,x2.2.1,x2.2.2.1,x2.2.2.2.1,x2.2.2.2.2.1,x2.2.2.2.2.2)=some x13)∧((x13≠[])∧(∃ x14:List Q4,((cgF (x2.1,x2.2.1,x2.2.2.1,x2.2.2.2.1,x2.2.2.2.2.1,x2.2.2.2.2.2)=some x14)∧((x14≠[])∧zAd (zAf ((↑(List.length x13):Int)≠(↑(List.length x14):Int))) Kp ((∃ x15:LqV,(((eqL [vS 79 (List.length x13) (zBa+4),vS 80 (List.length x14) (zBa+4),vI (↑(List.length x13):Int),vI 0,vP 65,vP 67,vS 77 3 3,vI 3,vI v.i] [vS 79 (List.length x15.f) (zBa+4),vS 80 (List.length x15.g) (zBa+4),vI (↑(List.length x15.f):Int),vI x15.j,vP 65,vP 67,vS 77 3 3,vI 3,vI x15.i])∧((rE (List.flatMap encQ x13) (List.flatMap encQ x15.f) 60)∧((rE (List.flatMap encQ x14) (List.flatMap encQ x15.g) 60)∧((bE (zEe v.r) (zEe x15.r) 105)∧((bE (encQ v.p) (encQ x15.p) 61)∧(rE (List.flatMap zEe v.t) (List.flatMap zEe x15.t) 105))))))∧(∃ x16:LqV,((Star zX0 x15 x16)∧((true=true)∧((zAf (x16.j < (↑(List.length x16.f):Int))=false)∧((eqL [vP 65,vP 67,vS 77 3 3,vI 3,vI (IntKind.wrap .i64 (x16.i+1))] [vP 65,vP 67,vS 77 3 3,vI 3,vI v1.i])∧((bE (zEe x16.r) (zEe v1.r) 105)∧((bE (encQ x16.p) (encQ v1.p) 61)∧(rE (List.flatMap zEe x16.t) (List.flatMap zEe v1.t) 105))))))))))))))))))))))))))))))))))))))))))))))))))))):=by kernel_rfl
theorem yXw (v v1:LqV)(Kp:Prop):zB8 Tryz.prog (cwC (L7 false)) (yRb true) (yTq false) zGw (zBo (zZ4 v)) (zDr (yFl v) 78) (zCi (fun l s=>zN6 v1 l s) (fun _ _ _=>Kp))=(((true=true)∧((zAf (v.i < 3)=true)∧(((0≤v.i)∧(v.i < (↑3:Int)))∧((52=52)∧(∃ x0:List R6,((List.flatMap zEe v.t=List.flatMap zEe x0)∧(∃ x1:Nat,((0+Int.toNat v.i * 6=x1 * 6)∧(∃ x2:R6,((x0[x1]?=some x2)∧(∃ x3:ByteArray,((Yn0.f x2.1 x2.2.1 x2.2.2.1 x2.2.2.2.1 x2.2.2.2.2.1 x2.2.2.2.2.2=some x3)∧(∃ x4:ByteArray,((YJ.f x2.1 x2.2.1 x2.2.2.1 x2.2.2.2.1 x2.2.2.2.2.1 x2.2.2.2.2.2=some x4)∧zAd (!zAf (x3.data.toList=x4.data.toList)) Kp ((∃ x5:Bool,((YE.f x2.1 x2.2.1 x2.2.2.1 x2.2.2.2.1 x2.2.2.2.2.1 x2.2.2.2.2.2=some x5)∧(∃ x6:Bool,((Yk.f x2.1 x2.2.1 x2.2.2.1 x2.2.2.2.1 x2.2.2.2.2.1 x2.2.2.2.2.2=some x6)∧zAd (!x5==x6) Kp ((∃ x7:Bool,((Yx0.f x2.1 x2.2.1 x2.2.2.1 x2.2.2.2.1 x2.2.2.2.2.1 x2.2.2.2.2.2 v.p.1 v.p.2.1 v.p.2.2.1 v.p.2.2.2=some x7)∧(∃ x8:Bool,((Yj0.f x2.1 x2.2.1 x2.2.2.1 x2.2.2.2.1 x2.2.2.2.2.1 x2.2.2.2.2.2 v.p.1 v.p.2.1 v.p.2.2.1 v.p.2.2.2=some x8)∧zAd (!x7==x8) Kp ((∃ x9:Bool,((Yq0.f x2.1 x2.2.1 x2.2.2.1 x2.2.2.2.1 x2.2.2.2.2.1 x2.2.2.2.2.2 v.r.1 v.r.2.1 v.r.2.2.1 v.r.2.2.2.1 v.r.2.2.2.2.1 v.r.2.2.2.2.2=some x9)∧(∃ x10:Bool,((YR.f x2.1 x2.2.1 x2.2.2.1 x2.2.2.2.1 x2.2.2.2.2.1 x2.2.2.2.2.2 v.r.1 v.r.2.1 v.r.2.2.1 v.r.2.2.2.1 v.r.2.2.2.2.1 v.r.2.2.2.2.2=some x10)∧zAd (!x9==x10) Kp ((∃ x11:Bool,((Yr0.f x2.1 x2.2.1 x2.2.2.1 x2.2.2.2.1 x2.2.2.2.2.1 x2.2.2.2.2.2 v.r.1 v.r.2.1 v.r.2.2.1 v.r.2.2.2.1 v.r.2.2.2.2.1 v.r.2.2.2.2.2=some x11)∧(∃ x12:Bool,((YS.f x2.1 x2.2.1 x2.2.2.1 x2.2.2.2.1 x2.2.2.2.2.1 x2.2.2.2.2.2 v.r.1 v.r.2.1 v.r.2.2.1 v.r.2.2.2.1 v.r.2.2.2.2.1 v.r.2.2.2.2.2=some x12)∧zAd (!x11==x12) Kp (((crF (x2.1,x2.2.1,x2.2.2.1,x2.2.2.2.1,x2.2.2.2.2.1,x2.2.2.2.2.2)=some [])∧((cgF (x2.1,x2.2.1,x2.2.2.1,x2.2.2.2.1,x2.2.2.2.2.1,x2.2.2.2.2.2)=some [])∧zAd (zAf ((↑0:Int)≠(↑0:Int))) Kp (((true=true)∧((eqL [vP 65,vP 67,vS 77 3 3,vI 3,vI (IntKind.wrap .i64 (v.i+1))] [vP 65,vP 67,vS 77 3 3,vI 3,vI v1.i])∧((bE (zEe v.r) (zEe v1.r) 105)∧((bE (encQ v.p) (encQ v1.p) 61)∧(rE (List.flatMap zEe v.t) (List.flatMap zEe v1.t) 105)))))))))))))))))))))))))))))))))))))))))))):=by kernel_rfl
end Go.Proofs.YtfnacgojmdbjmaaGreatDoor
end

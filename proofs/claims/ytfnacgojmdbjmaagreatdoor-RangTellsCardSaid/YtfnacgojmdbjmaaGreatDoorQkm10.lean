/- Texts of a proof, joined: words of the print (those that are named here) and printed functions. -/
import Derived.Test.YtfnacgojmdbjmaaGreatDoorQkm9
import Derived.Test.YtfnacgojmdbjmaaGreatDoorQkm4
import Derived.Test.YtfnacgojmdbjmaaGreatDoorQkm7
set_option linter.unusedSimpArgs false
set_option linter.unusedVariables false
set_option maxRecDepth 100000
noncomputable section
namespace Go.Proofs.YtfnacgojmdbjmaaGreatDoor
open Go.Det Go.RowKit PRD Go.Proofs.ZW
abbrev P5:Type:=Int×Int×Int×Int×Bool
def yQ8:Nat→Int→Int→Int→Int→Int→Int→Option P5
 |0,_,_,_,_,_,_=>none
 |k+1,n,a1,a2,m0,m1,m2=>(YO.f 4).bind fun t=>if n≤t then(YP.f 4 n).bind fun M=>(YY.f a1 a2 M.1 M.2).bind fun c=>(Ys0.f 4 c.1 c.2 n).bind fun x=>
   if x.2.2.2=true then(if(x.1=m0∧x.2.1=m1∧x.2.2.1=m2) then some (4,c.1,c.2,n,true) else yQ8 k (wrap64 (n+1)) a1 a2 m0 m1 m2) else yQ8 k (wrap64 (n+1)) a1 a2 m0 m1 m2
  else some (0,0,0,0,false)
def yYm (a0 a1 a2 m0 m1 m2:Int):Option P5:=(YK.f a0 a1 a2).bind fun o=>if o=true then(if a0=4 then yQ8 40 0 a1 a2 m0 m1 m2 else some (0,0,0,0,false)) else some (0,0,0,0,false)
def yId:Nat→Int→Int→Int→Int→Int→Int→Int→Option P5
 |0,_,_,_,_,_,_,_=>none
 |k+1,n,a0,a1,a2,m0,m1,m2=>if n≤32 then(YF.f 4 n).bind fun M=>(Ys.f a1 a2 M.1 M.2).bind fun c=>(Yf0.f 4 c.1 c.2 n).bind fun x=>(Ym.f a0 a1 a2).bind fun o=>
   if o=true then(if a0=4 then(if x.2.2.2=true then(if(x.1=m0∧x.2.1=m1∧x.2.2.1=m2) then some (4,c.1,c.2,n,true) else yId k (wrap64 (n+1)) a0 a1 a2 m0 m1 m2) else yId k (wrap64 (n+1)) a0 a1 a2 m0 m1 m2) else yId k (wrap64 (n+1)) a0 a1 a2 m0 m1 m2) else yId k (wrap64 (n+1)) a0 a1 a2 m0 m1 m2
  else some (0,0,0,0,false)
def yYn (a0 a1 a2 m0 m1 m2:Int):Option P5:=yId 40 0 a0 a1 a2 m0 m1 m2
structure OfV where
 a0:Int
 a1:Int
 a2:Int
 m0:Int
 m1:Int
 m2:Int
 n:Int
def yEo (v:OfV):zK4:=[(2,.pointer (some ⟨64,0,none⟩)),(3,.pointer (some ⟨65,0,none⟩)),(4,.pointer (some ⟨66,0,none⟩)),(6,.int .i64 v.n)]
def yYo (v:OfV):List Value:=[.int .i64 v.a0,.int .u64 v.a1,.int .u64 v.a2]
def yYp (v:OfV):List Value:=[.int .i64 v.m0,.int .u64 v.m1,.int .u64 v.m2]
def yF1 (v:OfV):zZf:=[(64,yYo v,57,false),(65,yYp v,57,false),(66,yUf,61,false)]
def zIl (v:OfV)(l:zAv)(s:St):Prop:=zI9 l (yEo v)∧zPj s 64 (yYo v) 57 false∧zPj s 65 (yYp v) 57 false∧zPj s 66 yUf 61 false
theorem zFh {v:OfV}{l:zAv}{s:St}(h:zIl v l s):zDf l s (zBo (yEo v)) (zDr (yF1 v) 67):=by
 obtain⟨h1,h2,h3,h4⟩:=h
 refine zEv (by decide) (fun x hx=>?_) (fun x hx=>?_) h1 ⟨zBu h2,zBu h3,zBu h4,trivial⟩
 ·simp only[yEo,xG6,xHh,or_false] at hx
  rcases hx with rfl|rfl|rfl|rfl<;>rfl
 ·simp only[yF1,xG6,xHh,or_false] at hx
  rcases hx with rfl|rfl|rfl
  ·exact⟨show(64:Nat)≤64∧64 < 67 by decide,rfl⟩
  ·exact⟨show(64:Nat)≤65∧65 < 67 by decide,rfl⟩
  ·exact⟨show(64:Nat)≤66∧66 < 67 by decide,rfl⟩
def L19:List (Nat×Con):=[(68,con68),(69,con69),(67,con67),(66,con66),(17,yWo)]
def zTw:Code:=match zBb (zAa Tryz.f19) with|a::_=>a|[]=>.skip
def yEp (v v1:OfV):Prop:=zB8 Tryz.prog (cwC L19) oxN lxM zTw (zBo (yEo v)) (zDr (yF1 v) 67) (zCi (fun l s=>zIl v1 l s) (fun _ _ _=>False))
def yYq:LpX:=fun l s K=>∃ v:OfV,zIl v l s∧∃ v':OfV,Star yEp v v'∧zB8 Tryz.prog (cwC L19) oxN lxM zTw (zBo (yEo v')) (zDr (yF1 v') 67) (zCi (fun _ _=>False) K)
def yWu (n:Nat):Option LpX:=match Nat.beq n 4 with|true=>some yYq|false=>none
theorem yPl:zZe Tryz.prog (cwC L19) yWu (zBb (zAa Tryz.f19)):=by
 have e:zBb (zAa Tryz.f19)=[zTw]:=by kernel_rfl
 rw[e]
 intro a ha X hX l s K h
 obtain rfl:=xHs.1 ha
 have e2:yWu (zJt zTw)=some yYq:=by kernel_rfl
 rw[e2] at hX
 cases hX
 obtain⟨v,hv,v',hs,he⟩:=h
 have hm:=zAp L19
 refine zEu hm (fun v=>zBo (yEo v)) (fun v=>zDr (yF1 v) 67) (fun v v1 hstep=>?_) hs (zFh hv) (zAr hm zF0 _ (zFg _) he)
 exact zA1 hm _ (zBq (fun l s q=>zFh q) fun _ _ _ q=>q) (zAr hm zF0 _ (zFg _) hstep)
def L20:List (Nat×Con):=[(65,con65),(55,con55),(18,yWr),(44,con44)]
def zTx:Code:=match zBb (zAa Tryz.f20) with|a::_=>a|[]=>.skip
def zXp (v v1:OfV):Prop:=zB8 Tryz.prog (cwC L20) oxN lxM zTx (zBo (yEo v)) (zDr (yF1 v) 67) (zCi (fun l s=>zIl v1 l s) (fun _ _ _=>False))
def yYr:LpX:=fun l s K=>∃ v:OfV,zIl v l s∧∃ v':OfV,Star zXp v v'∧zB8 Tryz.prog (cwC L20) oxN lxM zTx (zBo (yEo v')) (zDr (yF1 v') 67) (zCi (fun _ _=>False) K)
def yWv (n:Nat):Option LpX:=match Nat.beq n 2 with|true=>some yYr|false=>none
theorem yPm:zZe Tryz.prog (cwC L20) yWv (zBb (zAa Tryz.f20)):=by
 have e:zBb (zAa Tryz.f20)=[zTx]:=by kernel_rfl
 rw[e]
 intro a ha X hX l s K h
 obtain rfl:=xHs.1 ha
 have e2:yWv (zJt zTx)=some yYr:=by kernel_rfl
 rw[e2] at hX
 cases hX
 obtain⟨v,hv,v',hs,he⟩:=h
 have hm:=zAp L20
 refine zEu hm (fun v=>zBo (yEo v)) (fun v=>zDr (yF1 v) 67) (fun v v1 hstep=>?_) hs (zFh hv) (zAr hm zF0 _ (zFg _) he)
 exact zA1 hm _ (zBq (fun l s q=>zFh q) fun _ _ _ q=>q) (zAr hm zF0 _ (zFg _) hstep)
theorem yTa (v v1:OfV)(Kp:Prop):zB8 Tryz.prog (cwC L19) oxN lxM zTw (zBo (yEo v)) (zDr (yF1 v) 67) (zCi (fun l s=>zIl v1 l s) (fun _ _ _=>Kp))=((∃ x0:Int,((YO.f 4=some x0)∧zAd (zAf (OfV.n v≤x0)) ((∃ x1:Int×Int,((YP.f 4 (OfV.n v)=some x1)∧(∃ x2:Int×Int,((YY.f (OfV.a1 v) (OfV.a2 v) x1.1 x1.2=some x2)∧(∃ x3:Int×Int×Int×Bool,((Ys0.f 4 (x2.1) x2.2 (OfV.n v)=some x3)∧zAd (Prod.snd (Prod.snd (x3.2))) (zAd (zAf (x3.1=OfV.m0 v)&&(zAf (Prod.fst (x3.2)=OfV.m1 v)&&(zAf (Prod.fst (Prod.snd (x3.2))=OfV.m2 v)&&true))) (Kp) ((((Value.pointer (some { block:=64,off:=0 })=Value.pointer (some { block:=64,off:=0 }))∧((Value.pointer (some { block:=65,off:=0 })=Value.pointer (some { block:=65,off:=0 }))∧((Value.pointer (some { block:=66,off:=0 })=Value.pointer (some { block:=66,off:=0 }))∧((Value.int .i64 (IntKind.wrap .i64 (OfV.n v+1))=Value.int .i64 (OfV.n v1))∧True))))∧((((Value.int .i64 (OfV.a0 v)=Value.int .i64 (OfV.a0 v1))∧((Value.int .u64 (OfV.a1 v)=Value.int .u64 (OfV.a1 v1))∧((Value.int .u64 (OfV.a2 v)=Value.int .u64 (OfV.a2 v1))∧True)))∧((57=57)∧(false=false)))∧((((Value.int .i64 (OfV.m0 v)=Value.int .i64 (OfV.m0 v1))∧((Value.int .u64 (OfV.m1 v)=Value.int .u64 (OfV.m1 v1))∧((Value.int .u64 (OfV.m2 v)=Value.int .u64 (OfV.m2 v1))∧True)))∧((57=57)∧(false=false)))∧(((Value.int .i64 0=Value.int .i64 0)∧((Value.int .u64 0=Value.int .u64 0)∧((Value.int .u64 0=Value.int .u64 0)∧((Value.int .i64 0=Value.int .i64 0)∧True))))∧((61=61)∧(false=false)))))))) ((((Value.pointer (some { block:=64,off:=0 })=Value.pointer (some { block:=64,off:=0 }))∧((Value.pointer (some { block:=65,off:=0 })=Value.pointer (some { block:=65,off:=0 }))∧((Value.pointer (some { block:=66,off:=0 })=Value.pointer (some { block:=66,off:=0 }))∧((Value.int .i64 (IntKind.wrap .i64 (OfV.n v+1))=Value.int .i64 (OfV.n v1))∧True))))∧((((Value.int .i64 (OfV.a0 v)=Value.int .i64 (OfV.a0 v1))∧((Value.int .u64 (OfV.a1 v)=Value.int .u64 (OfV.a1 v1))∧((Value.int .u64 (OfV.a2 v)=Value.int .u64 (OfV.a2 v1))∧True)))∧((57=57)∧(false=false)))∧((((Value.int .i64 (OfV.m0 v)=Value.int .i64 (OfV.m0 v1))∧((Value.int .u64 (OfV.m1 v)=Value.int .u64 (OfV.m1 v1))∧((Value.int .u64 (OfV.m2 v)=Value.int .u64 (OfV.m2 v1))∧True)))∧((57=57)∧(false=false)))∧(((Value.int .i64 0=Value.int .i64 0)∧((Value.int .u64 0=Value.int .u64 0)∧((Value.int .u64 0=Value.int .u64 0)∧((Value.int .i64 0=Value.int .i64 0)∧True))))∧((61=61)∧(false=false)))))))))))))) (Kp)))):=by kernel_rfl
theorem xD1 (a0 a1 a2 m0 m1 m2:Int)(Q:Value→Prop):zB8 Tryz.prog (cwC L19) oxN yWu (zAa Tryz.f19) (zAg [.agg #[.int .i64 a0,.int .u64 a1,.int .u64 a2],.agg #[.int .i64 m0,.int .u64 m1,.int .u64 m2]] 8) (zAh [] 64) (zA2 Tryz.prog Tryz.f19 fun v _=>Q v)=((∃ x0:Bool,((YK.f a0 a1 a2=some x0)∧zAd (!x0) (Q (Value.tuple #[Value.agg #[Value.int .i64 0,Value.int .u64 0,Value.int .u64 0,Value.int .i64 0],Value.bool false])) (zAd (zAf (a0≠4)) (Q (Value.tuple #[Value.agg #[Value.int .i64 0,Value.int .u64 0,Value.int .u64 0,Value.int .i64 0],Value.bool false])) ((∃ x1:OfV,((((Value.pointer (some { block:=64,off:=0 })=Value.pointer (some { block:=64,off:=0 }))∧((Value.pointer (some { block:=65,off:=0 })=Value.pointer (some { block:=65,off:=0 }))∧((Value.pointer (some { block:=66,off:=0 })=Value.pointer (some { block:=66,off:=0 }))∧((Value.int .i64 0=Value.int .i64 (OfV.n x1))∧True))))∧((((Value.int .i64 a0=Value.int .i64 (OfV.a0 x1))∧((Value.int .u64 a1=Value.int .u64 (OfV.a1 x1))∧((Value.int .u64 a2=Value.int .u64 (OfV.a2 x1))∧True)))∧((2 * 28+1=57)∧(false=false)))∧((((Value.int .i64 m0=Value.int .i64 (OfV.m0 x1))∧((Value.int .u64 m1=Value.int .u64 (OfV.m1 x1))∧((Value.int .u64 m2=Value.int .u64 (OfV.m2 x1))∧True)))∧((2 * 28+1=57)∧(false=false)))∧(((Value.int .i64 0=Value.int .i64 0)∧((Value.int .u64 0=Value.int .u64 0)∧((Value.int .u64 0=Value.int .u64 0)∧((Value.int .i64 0=Value.int .i64 0)∧True))))∧((2 * 30+1=61)∧(false=false))))))∧(∃ x2:OfV,((Star yEp x1 x2)∧(∃ x3:Int,((YO.f 4=some x3)∧zAd (zAf (OfV.n x2≤x3)) ((∃ x4:Int×Int,((YP.f 4 (OfV.n x2)=some x4)∧(∃ x5:Int×Int,((YY.f (OfV.a1 x2) (OfV.a2 x2) x4.1 x4.2=some x5)∧(∃ x6:Int×Int×Int×Bool,((Ys0.f 4 (x5.1) x5.2 (OfV.n x2)=some x6)∧zAd (Prod.snd (Prod.snd (x6.2))) (zAd (zAf (x6.1=OfV.m0 x2)&&(zAf (Prod.fst (x6.2)=OfV.m1 x2)&&(zAf (Prod.fst (Prod.snd (x6.2))=OfV.m2 x2)&&true))) (Q (Value.tuple #[Value.agg #[Value.int .i64 4,Value.int .u64 (x5.1),Value.int .u64 (x5.2),Value.int .i64 (OfV.n x2)],Value.bool true])) (False)) (False)))))))) (Q (Value.tuple #[Value.agg #[Value.int .i64 0,Value.int .u64 0,Value.int .u64 0,Value.int .i64 0],Value.bool false]))))))))))))):=by kernel_rfl
theorem yWw (v v1:OfV)(Kp:Prop):zB8 Tryz.prog (cwC L20) oxN lxM zTx (zBo (yEo v)) (zDr (yF1 v) 67) (zCi (fun l s=>zIl v1 l s) (fun _ _ _=>Kp))=(zAd (zAf (OfV.n v≤32)) ((∃ x0:Int×Int,((YF.f 4 (OfV.n v)=some x0)∧(∃ x1:Int×Int,((Ys.f (OfV.a1 v) (OfV.a2 v) x0.1 x0.2=some x1)∧(∃ x2:Int×Int×Int×Bool,((Yf0.f 4 (x1.1) x1.2 (OfV.n v)=some x2)∧(∃ x3:Bool,((Ym.f (OfV.a0 v) (OfV.a1 v) (OfV.a2 v)=some x3)∧zAd (x3) (zAd (zAf (OfV.a0 v=4)) (zAd (Prod.snd (Prod.snd (x2.2))) (zAd (zAf (x2.1=OfV.m0 v)&&(zAf (Prod.fst (x2.2)=OfV.m1 v)&&(zAf (Prod.fst (Prod.snd (x2.2))=OfV.m2 v)&&true))) (Kp) ((((Value.pointer (some { block:=64,off:=0 })=Value.pointer (some { block:=64,off:=0 }))∧((Value.pointer (some { block:=65,off:=0 })=Value.pointer (some { block:=65,off:=0 }))∧((Value.pointer (some { block:=66,off:=0 })=Value.pointer (some { block:=66,off:=0 }))∧((Value.int .i64 (IntKind.wrap .i64 (OfV.n v+1))=Value.int .i64 (OfV.n v1))∧True))))∧((((Value.int .i64 (OfV.a0 v)=Value.int .i64 (OfV.a0 v1))∧((Value.int .u64 (OfV.a1 v)=Value.int .u64 (OfV.a1 v1))∧((Value.int .u64 (OfV.a2 v)=Value.int .u64 (OfV.a2 v1))∧True)))∧((57=57)∧(false=false)))∧((((Value.int .i64 (OfV.m0 v)=Value.int .i64 (OfV.m0 v1))∧((Value.int .u64 (OfV.m1 v)=Value.int .u64 (OfV.m1 v1))∧((Value.int .u64 (OfV.m2 v)=Value.int .u64 (OfV.m2 v1))∧True)))∧((57=57)∧(false=false)))∧(((Value.int .i64 0=Value.int .i64 0)∧((Value.int .u64 0=Value.int .u64 0)∧((Value.int .u64 0=Value.int .u64 0)∧((Value.int .i64 0=Value.int .i64 0)∧True))))∧((61=61)∧(false=false)))))))) ((((Value.pointer (some { block:=64,off:=0 })=Value.pointer (some { block:=64,off:=0 }))∧((Value.pointer (some { block:=65,off:=0 })=Value.pointer (some { block:=65,off:=0 }))∧((Value.pointer (some { block:=66,off:=0 })=Value.pointer (some { block:=66,off:=0 }))∧((Value.int .i64 (IntKind.wrap .i64 (OfV.n v+1))=Value.int .i64 (OfV.n v1))∧True))))∧((((Value.int .i64 (OfV.a0 v)=Value.int .i64 (OfV.a0 v1))∧((Value.int .u64 (OfV.a1 v)=Value.int .u64 (OfV.a1 v1))∧((Value.int .u64 (OfV.a2 v)=Value.int .u64 (OfV.a2 v1))∧True)))∧((57=57)∧(false=false)))∧((((Value.int .i64 (OfV.m0 v)=Value.int .i64 (OfV.m0 v1))∧((Value.int .u64 (OfV.m1 v)=Value.int .u64 (OfV.m1 v1))∧((Value.int .u64 (OfV.m2 v)=Value.int .u64 (OfV.m2 v1))∧True)))∧((57=57)∧(false=false)))∧(((Value.int .i64 0=Value.int .i64 0)∧((Value.int .u64 0=Value.int .u64 0)∧((Value.int .u64 0=Value.int .u64 0)∧((Value.int .i64 0=Value.int .i64 0)∧True))))∧((61=61)∧(false=false)))))))) ((((Value.pointer (some { block:=64,off:=0 })=Value.pointer (some { block:=64,off:=0 }))∧((Value.pointer (some { block:=65,off:=0 })=Value.pointer (some { block:=65,off:=0 }))∧((Value.pointer (some { block:=66,off:=0 })=Value.pointer (some { block:=66,off:=0 }))∧((Value.int .i64 (IntKind.wrap .i64 (OfV.n v+1))=Value.int .i64 (OfV.n v1))∧True))))∧((((Value.int .i64 (OfV.a0 v)=Value.int .i64 (OfV.a0 v1))∧((Value.int .u64 (OfV.a1 v)=Value.int .u64 (OfV.a1 v1))∧((Value.int .u64 (OfV.a2 v)=Value.int .u64 (OfV.a2 v1))∧True)))∧((57=57)∧(false=false)))∧((((Value.int .i64 (OfV.m0 v)=Value.int .i64 (OfV.m0 v1))∧((Value.int .u64 (OfV.m1 v)=Value.int .u64 (OfV.m1 v1))∧((Value.int .u64 (OfV.m2 v)=Value.int .u64 (OfV.m2 v1))∧True)))∧((57=57)∧(false=false)))∧(((Value.int .i64 0=Value.int .i64 0)∧((Value.int .u64 0=Value.int .u64 0)∧((Value.int .u64 0=Value.int .u64 0)∧((Value.int .i64 0=Value.int .i64 0)∧True))))∧((61=61)∧(false=false)))))))) ((((Value.pointer (some { block:=64,off:=0 })=Value.pointer (some { block:=64,off:=0 }))∧((Value.pointer (some { block:=65,off:=0 })=Value.pointer (some { block:=65,off:=0 }))∧((Value.pointer (some { block:=66,off:=0 })=Value.pointer (some { block:=66,off:=0 }))∧((Value.int .i64 (IntKind.wrap .i64 (OfV.n v+1))=Value.int .i64 (OfV.n v1))∧True))))∧((((Value.int .i64 (OfV.a0 v)=Value.int .i64 (OfV.a0 v1))∧((Value.int .u64 (OfV.a1 v)=Value.int .u64 (OfV.a1 v1))∧((Value.int .u64 (OfV.a2 v)=Value.int .u64 (OfV.a2 v1))∧True)))∧((57=57)∧(false=false)))∧((((Value.int .i64 (OfV.m0 v)=Value.int .i64 (OfV.m0 v1))∧((Value.int .u64 (OfV.m1 v)=Value.int .u64 (OfV.m1 v1))∧((Value.int .u64 (OfV.m2 v)=Value.int .u64 (OfV.m2 v1))∧True)))∧((57=57)∧(false=false)))∧(((Value.int .i64 0=Value.int .i64 0)∧((Value.int .u64 0=Value.int .u64 0)∧((Value.int .u64 0=Value.int .u64 0)∧((Value.int .i64 0=Value.int .i64 0)∧True))))∧((61=61)∧(false=false)))))))))))))))) (Kp)):=by kernel_rfl
theorem xD2 (a0 a1 a2 m0 m1 m2:Int)(Q:Value→Prop):zB8 Tryz.prog (cwC L20) oxN yWv (zAa Tryz.f20) (zAg [.agg #[.int .i64 a0,.int .u64 a1,.int .u64 a2],.agg #[.int .i64 m0,.int .u64 m1,.int .u64 m2]] 8) (zAh [] 64) (zA2 Tryz.prog Tryz.f20 fun v _=>Q v)=((∃ x0:OfV,((((Value.pointer (some { block:=64,off:=0 })=Value.pointer (some { block:=64,off:=0 }))∧((Value.pointer (some { block:=65,off:=0 })=Value.pointer (some { block:=65,off:=0 }))∧((Value.pointer (some { block:=66,off:=0 })=Value.pointer (some { block:=66,off:=0 }))∧((Value.int .i64 0=Value.int .i64 (OfV.n x0))∧True))))∧((((Value.int .i64 a0=Value.int .i64 (OfV.a0 x0))∧((Value.int .u64 a1=Value.int .u64 (OfV.a1 x0))∧((Value.int .u64 a2=Value.int .u64 (OfV.a2 x0))∧True)))∧((2 * 28+1=57)∧(false=false)))∧((((Value.int .i64 m0=Value.int .i64 (OfV.m0 x0))∧((Value.int .u64 m1=Value.int .u64 (OfV.m1 x0))∧((Value.int .u64 m2=Value.int .u64 (OfV.m2 x0))∧True)))∧((2 * 28+1=57)∧(false=false)))∧(((Value.int .i64 0=Value.int .i64 0)∧((Value.int .u64 0=Value.int .u64 0)∧((Value.int .u64 0=Value.int .u64 0)∧((Value.int .i64 0=Value.int .i64 0)∧True))))∧((2 * 30+1=61)∧(false=false))))))∧(∃ x1:OfV,((Star zXp x0 x1)∧zAd (zAf (OfV.n x1≤32)) ((∃ x2:Int×Int,((YF.f 4 (OfV.n x1)=some x2)∧(∃ x3:Int×Int,((Ys.f (OfV.a1 x1) (OfV.a2 x1) x2.1 x2.2=some x3)∧(∃ x4:Int×Int×Int×Bool,((Yf0.f 4 (x3.1) x3.2 (OfV.n x1)=some x4)∧(∃ x5:Bool,((Ym.f (OfV.a0 x1) (OfV.a1 x1) (OfV.a2 x1)=some x5)∧zAd (x5) (zAd (zAf (OfV.a0 x1=4)) (zAd (Prod.snd (Prod.snd (x4.2))) (zAd (zAf (x4.1=OfV.m0 x1)&&(zAf (Prod.fst (x4.2)=OfV.m1 x1)&&(zAf (Prod.fst (Prod.snd (x4.2))=OfV.m2 x1)&&true))) (Q (Value.tuple #[Value.agg #[Value.int .i64 4,Value.int .u64 (x3.1),Value.int .u64 (x3.2),Value.int .i64 (OfV.n x1)],Value.bool true])) (False)) (False)) (False)) (False)))))))))) (Q (Value.tuple #[Value.agg #[Value.int .i64 0,Value.int .u64 0,Value.int .u64 0,Value.int .i64 0],Value.bool false]))))))):=by kernel_rfl
theorem yTb {p q r:Prop}{A B:Prop}(h:p∧q∧r)(k:A):zAd (zAf p&&(zAf q&&(zAf r&&true))) A B:=by
 have:(zAf p&&(zAf q&&(zAf r&&true)))=true:=by rw[zBy.2 h.1,zBy.2 h.2.1,zBy.2 h.2.2];rfl
 rw[this];exact k
theorem yTc {p q r:Prop}{A B:Prop}(h:¬ (p∧q∧r))(k:B):zAd (zAf p&&(zAf q&&(zAf r&&true))) A B:=by
 have:(zAf p&&(zAf q&&(zAf r&&true)))=false:=by
  refine Bool.eq_false_iff.2 fun e=>h ?_
  simp only[xG0,and_true] at e
  exact⟨zBy.1 e.1,zBy.1 e.2.1,zBy.1 e.2.2⟩
 rw[this];exact k
def zPu (v:OfV):OfV:=⟨v.a0,v.a1,v.a2,v.m0,v.m1,v.m2,wrap64 (v.n+1)⟩
def yWx (v:OfV)(y:P5):Prop:=∃ t,YO.f 4=some t∧((¬ v.n≤t∧y=(0,0,0,0,false))∨(v.n≤t∧∃ M,YP.f 4 v.n=some M∧∃ c,YY.f v.a1 v.a2 M.1 M.2=some c∧∃ x,Ys0.f 4 c.1 c.2 v.n=some x∧x.2.2.2=true∧(x.1=v.m0∧x.2.1=v.m1∧x.2.2.1=v.m2)∧y=(4,c.1,c.2,v.n,true)))
theorem yEq:∀ (k:Nat) (v:OfV) (y:P5),yQ8 k v.n v.a1 v.a2 v.m0 v.m1 v.m2=some y→∃ v',Star yEp v v'∧yWx v' y
 |0,_,_,h=>by simp[yQ8] at h
 |k+1,v,y,h=>by
  unfold yQ8 at h
  obtain⟨t,e0,h⟩:=xGs.1 h
  by_cases hn:v.n≤t
  ·rw[xGq hn] at h
   obtain⟨M,e1,h⟩:=xGs.1 h
   obtain⟨c,e2,h⟩:=xGs.1 h
   obtain⟨x,e3,h⟩:=xGs.1 h
   by_cases hb:x.2.2.2=true
   ·rw[xGq hb] at h
    by_cases hm:x.1=v.m0∧x.2.1=v.m1∧x.2.2.1=v.m2
    ·rw[xGq hm] at h
     cases h
     exact⟨v,.refl v,t,e0,.inr ⟨hn,M,e1,c,e2,x,e3,hb,hm,rfl⟩⟩
    ·rw[xGr hm] at h
     obtain⟨v',hs,hf⟩:=yEq k (zPu v) y h
     refine⟨v',.step ((yTa v (zPu v) False).mpr ⟨t,e0,wdT hn ⟨M,e1,c,e2,x,e3,?_⟩⟩) hs,hf⟩
     rw[hb]
     refine yTc hm ?_
     simp only[zBn]
     repeat'(first|rfl|exact xHo|refine xGy ?_ ?_)
   ·rw[xGr hb] at h
    obtain⟨v',hs,hf⟩:=yEq k (zPu v) y h
    refine⟨v',.step ((yTa v (zPu v) False).mpr ⟨t,e0,wdT hn ⟨M,e1,c,e2,x,e3,?_⟩⟩) hs,hf⟩
    rw[Bool.eq_false_iff.2 hb]
    simp only[zBn]
    show _∧_
    repeat'(first|rfl|exact xHo|refine xGy ?_ ?_)
  ·rw[xGr hn] at h
   cases h
   exact⟨v,.refl v,t,e0,.inl ⟨hn,rfl⟩⟩
def yTd (x:Int×Int×Int×Int×Int×Int):List Value:=[.agg #[.int .i64 x.1,.int .u64 x.2.1,.int .u64 x.2.2.1],.agg #[.int .i64 x.2.2.2.1,.int .u64 x.2.2.2.2.1,.int .u64 x.2.2.2.2.2]]
theorem w19 (x:Int×Int×Int×Int×Int×Int)(y:P5)(hx:yYm x.1 x.2.1 x.2.2.1 x.2.2.2.1 x.2.2.2.2.1 x.2.2.2.2.2=some y):zAo Tryz.prog (cwC L19) (zAa Tryz.f19) (zAg (yTd x) 8) (zAh [] 64) (zA2 Tryz.prog Tryz.f19 fun v' _=>v'=yPh y):=by
 obtain⟨a0,a1,a2,m0,m1,m2⟩:=x
 unfold yYm at hx
 simp only at hx
 obtain⟨o,e0,hx⟩:=xGs.1 hx
 refine zAr (zAp L19) zF0 _ yPl ((xD1 a0 a1 a2 m0 m1 m2 _).mpr ⟨o,e0,bifW_n (fun ho=>?_) (fun ho=>?_)⟩)
 ·rw[xGq ho] at hx
  refine bifW_c (fun h4=>?_) (fun h4=>?_)
  ·rw[xGr h4] at hx
   cases hx;rfl
  ·rw[xGq (xG9.1 h4)] at hx
   obtain⟨v',hs,t,f0,hf⟩:=yEq 40 ⟨a0,a1,a2,m0,m1,m2,0⟩ y hx
   refine⟨⟨a0,a1,a2,m0,m1,m2,0⟩,?_,v',hs,t,f0,?_⟩
   ·repeat'(first|rfl|exact xHo|refine xGy ?_ ?_)
   ·rcases hf with⟨q,rfl⟩|⟨q,M,f1,c,f2,z,f3,f4,f5,rfl⟩
    ·exact wdF q rfl
    ·refine wdT q ⟨M,f1,c,f2,z,f3,?_⟩
     rw[f4]
     exact yTb f5 rfl
 ·rw[xGr ho] at hx
  cases hx;rfl
def yTe (v:OfV)(y:P5):Prop:=(¬ v.n≤32∧y=(0,0,0,0,false))∨(v.n≤32∧∃ M,YF.f 4 v.n=some M∧∃ c,Ys.f v.a1 v.a2 M.1 M.2=some c∧∃ x,Yf0.f 4 c.1 c.2 v.n=some x∧Ym.f v.a0 v.a1 v.a2=some true∧v.a0=4∧x.2.2.2=true∧(x.1=v.m0∧x.2.1=v.m1∧x.2.2.1=v.m2)∧y=(4,c.1,c.2,v.n,true))
theorem yJy:∀ (k:Nat) (v:OfV) (y:P5),yId k v.n v.a0 v.a1 v.a2 v.m0 v.m1 v.m2=some y→∃ v',Star zXp v v'∧yTe v' y
 |0,_,_,h=>by simp[yId] at h
 |k+1,v,y,h=>by
  unfold yId at h
  by_cases hn:v.n≤32
  ·rw[xGq hn] at h
   obtain⟨M,e1,h⟩:=xGs.1 h
   obtain⟨c,e2,h⟩:=xGs.1 h
   obtain⟨x,e3,h⟩:=xGs.1 h
   obtain⟨o,e4,h⟩:=xGs.1 h
   have again:yId k (wrap64 (v.n+1)) v.a0 v.a1 v.a2 v.m0 v.m1 v.m2=some y→¬ (o=true∧v.a0=4∧x.2.2.2=true∧(x.1=v.m0∧x.2.1=v.m1∧x.2.2.1=v.m2))→∃ v',Star zXp v v'∧yTe v' y:=by
    intro h hno
    obtain⟨v',hs,hf⟩:=yJy k (zPu v) y h
    refine⟨v',.step ((yWw v (zPu v) False).mpr (wdT hn ⟨M,e1,c,e2,x,e3,o,e4,?_⟩)) hs,hf⟩
    simp only[zBn]
    refine bifW_b (fun ho=>bifW_c (fun h4=>bifW_b (fun hb=>?_) (fun hb=>?_)) (fun h4=>?_)) (fun ho=>?_)
    ·by_cases hm:x.1=v.m0∧x.2.1=v.m1∧x.2.2.1=v.m2
     ·exact absurd ⟨ho,h4,hb,hm⟩ hno
     ·refine yTc hm ?_
      repeat'(first|rfl|exact xHo|refine xGy ?_ ?_)
    all_goals repeat'(first|rfl|exact xHo|refine xGy ?_ ?_)
   by_cases ho:o=true
   ·rw[xGq ho] at h
    by_cases h4:v.a0=4
    ·rw[xGq h4] at h
     by_cases hb:x.2.2.2=true
     ·rw[xGq hb] at h
      by_cases hm:x.1=v.m0∧x.2.1=v.m1∧x.2.2.1=v.m2
      ·rw[xGq hm] at h
       cases h
       subst ho
       exact⟨v,.refl v,.inr ⟨hn,M,e1,c,e2,x,e3,e4,h4,hb,hm,rfl⟩⟩
      ·rw[xGr hm] at h
       exact again h fun q=>hm q.2.2.2
     ·rw[xGr hb] at h
      exact again h fun q=>hb q.2.2.1
    ·rw[xGr h4] at h
     exact again h fun q=>h4 q.2.1
   ·rw[xGr ho] at h
    exact again h fun q=>ho q.1
  ·rw[xGr hn] at h
   cases h
   exact⟨v,.refl v,.inl ⟨hn,rfl⟩⟩
theorem w20 (x:Int×Int×Int×Int×Int×Int)(y:P5)(hx:yYn x.1 x.2.1 x.2.2.1 x.2.2.2.1 x.2.2.2.2.1 x.2.2.2.2.2=some y):zAo Tryz.prog (cwC L20) (zAa Tryz.f20) (zAg (yTd x) 8) (zAh [] 64) (zA2 Tryz.prog Tryz.f20 fun v' _=>v'=yPh y):=by
 obtain⟨a0,a1,a2,m0,m1,m2⟩:=x
 unfold yYn at hx
 simp only at hx
 obtain⟨v',hs,hf⟩:=yJy 40 ⟨a0,a1,a2,m0,m1,m2,0⟩ y hx
 refine zAr (zAp L20) zF0 _ yPm ((xD2 a0 a1 a2 m0 m1 m2 _).mpr ⟨⟨a0,a1,a2,m0,m1,m2,0⟩,?_,v',hs,?_⟩)
 ·repeat'(first|rfl|exact xHo|refine xGy ?_ ?_)
 ·rcases hf with⟨q,rfl⟩|⟨q,M,f1,c,f2,z,f3,f4,f5,f6,f7,rfl⟩
  ·exact wdF q rfl
  ·refine wdT q ⟨M,f1,c,f2,z,f3,true,f4,?_⟩
   show zAd (zAf (v'.a0=4)) _ _
   refine wdT f5 ?_
   rw[f6]
   exact yTb f7 rfl
end Go.Proofs.YtfnacgojmdbjmaaGreatDoor
namespace Go.Det
variable {P:Program}
def yWy (P:Program):OpX:=fun o l s K=>match o.op with
 |.slice t x lo hi none=>(match typ P t with
  |some .string=>(match evalO l x with
   |.string b=>(match zC7 l lo with
    |none=>(match zC7 l hi with
     |some (.int _ h)=>0≤h∧(h≤(b.size:Int)∧K (.string (b.extract 0 h.toNat)) s)
     |_=>False)
    |some (.int _ m)=>(match zC7 l hi with
     |none=>0≤m∧(m≤(b.size:Int)∧K (.string (b.extract m.toNat b.size)) s)
     |_=>False)
    |_=>False)
   |_=>False)
  |_=>False)
 |_=>False
theorem yPn {cw:Cw}{o:Oper}{l:zAv}{s:St}{K:KV}(h:yWy P o l s K):opW P cw o l s K:=by
 unfold yWy at h
 split at h
 case h_2=>exact h.elim
 rename_i t x lo hi ho
 split at h
 case h_2=>exact h.elim
 rename_i ht
 split at h
 case h_2=>exact h.elim
 rename_i b hb
 unfold opW
 rw[ho]
 show zZ0 (opD P zU7 o l s) K
 have e:opD P zU7 o l s=ofV (zWa P t (evalO l x) (zC7 l lo) (zC7 l hi) (zC7 l none)) s:=by
  unfold opD
  rw[ho]
  rfl
 rw[e]
 have en:zC7 l none=none:=rfl
 unfold zWa
 rw[ht,hb,en]
 unfold zK6 zH6
 split at h
 ·rename_i h1
  split at h
  case h_2=>exact h.elim
  rename_i k m h2
  obtain⟨a1,a2,hk⟩:=h
  have e1:Nat.ble 0 m.toNat=true:=xH0 (xIc _)
  have e2:Nat.ble m.toNat b.size=true:=xH0 (by omega)
  rw[h1,h2]
  simp only[bound,zIo,xGq a1,e1,e2,Bool.and_self,if_true]
  exact hk
 ·rename_i k m h1
  split at h
  case h_2=>exact h.elim
  rename_i h2
  obtain⟨a1,a2,hk⟩:=h
  have e1:Nat.ble m.toNat b.size=true:=xH0 (by omega)
  have e2:Nat.ble b.size b.size=true:=xH0 (xGv _)
  rw[h1,h2]
  simp only[bound,zIo,xGq a1,e1,e2,Bool.and_self,if_true]
  exact hk
 ·exact h.elim
def yTf (b:Bool):OpX:=fun o l s K=>match o.op with
 |.binOp op _ x y _=>(match evalO l x,evalO l y with
  |.int k m,.int k' n=>zGt k k'=true∧(match op with
   |.lss=>zAf (m < n)=b∧K (.bool b) s
   |_=>False)
  |_,_=>False)
 |_=>False
theorem zVz {cw:Cw}{b:Bool}{o:Oper}{l:zAv}{s:St}{K:KV}(h:yTf b o l s K):opW P cw o l s K:=by
 unfold yTf at h
 split at h
 case h_2=>exact h.elim
 rename_i op t x y q ho
 split at h
 case h_2=>exact h.elim
 rename_i k m k' n h1 h2
 obtain⟨hk,h⟩:=h
 split at h
 case h_2=>exact h.elim
 obtain⟨hb,h⟩:=h
 unfold opW
 rw[ho]
 simp only[h1,h2]
 unfold yJb
 simp only[hk,hb]
 exact h
def inN:List Nat→Nat→Bool
 |[],_=>false
 |d::t,n=>Nat.beq d n||inN t n
def oxJ (P:Program)(c:Nat)(b:Bool)(ss ds no:List Nat)(n:Nat):Option OpX:=match Nat.beq c n with
 |true=>some (yTf b)
 |false=>(match inN ss n with
  |true=>some (yWy P)
  |false=>(match inN no n with
   |true=>some fun _ _ _ _=>False
   |false=>oxE ds n))
theorem zNv {cw:Cw}(c:Nat)(b:Bool)(ss ds no:List Nat):zVb P cw (oxJ P c b ss ds no):=by
 intro n X h
 unfold oxJ at h
 split at h
 ·cases h;exact fun o l s K=>zVz
 ·split at h
  ·cases h;exact fun o l s K=>yPn
  ·split at h
   ·cases h;exact fun o l s K q=>q.elim
   ·exact zEc ds n X h
def Con.optK {α:Type}(dec:List Value→Option α)(F:α→Option (Int×Bool))(b:Bool)(enc:Int×Bool→Value):Con where
 own:=(Con.opt dec F enc).own
 w:=fun args s K=>match dec args with
  |some a=>∃ n:Int,F a=some (n,b)∧K (enc (n,b)) s
  |none=>False
 ok:=by
  intro args s K h
  split at h
  ·rename_i a ha
   obtain⟨n,h,hk⟩:=h
   exact⟨enc (n,b),s,by unfold Con.opt zCz;simp only[ha,h],hk,fun K' k=>⟨n,h,k⟩⟩
  ·exact h.elim
 mono:=by
  intro args s K K' k h
  split at h
  ·obtain⟨n,h,hk⟩:=h
   exact⟨n,h,k _ _ hk⟩
  ·exact h.elim
end Go.Det
namespace Go.Proofs.YtfnacgojmdbjmaaGreatDoor
open Go.Det Go.RowKit PRD Go.Proofs.ZW
def L15:List (Nat×Con):=[(62,yWl),(63,con63),(64,yWk),(16,con16)]
theorem xD3 (s:ByteArray)(Q:Value→Prop):zBj Tryz.prog (cwC L15) (oxJ Tryz.prog 1000 false [18,26] [] []) 0 (zAa Tryz.f15) (zAg [.string s] 8) (zAh [] 64) (zA2 Tryz.prog Tryz.f15 fun v _=>Q v)=((∃ x0:Int,((yPg s 47=some x0)∧zAd (zAf (x0 < 0)) (Q (Value.tuple #[Value.agg #[Value.int .i64 0,Value.int .u64 0,Value.int .u64 0,Value.int .i64 0],Value.bool false])) (((0≤x0)∧((x0≤(↑(ByteArray.size s):Int))∧(∃ x1:Int×Int×Int×Bool,((zNu (ByteArray.extract s 0 (Int.toNat x0))=some x1)∧((0≤IntKind.wrap .i64 (x0+1))∧((IntKind.wrap .i64 (x0+1)≤(↑(ByteArray.size s):Int))∧(∃ x2:Int×Bool,((yPf (ByteArray.extract s (Int.toNat (IntKind.wrap .i64 (x0+1))) (ByteArray.size s)) 128=some x2)∧zAd (!Prod.snd (Prod.snd (x1.2))) (Q (Value.tuple #[Value.agg #[Value.int .i64 0,Value.int .u64 0,Value.int .u64 0,Value.int .i64 0],Value.bool false])) (zAd (!x2.2) (Q (Value.tuple #[Value.agg #[Value.int .i64 0,Value.int .u64 0,Value.int .u64 0,Value.int .i64 0],Value.bool false])) ((∃ x3:Bool,((Yi.f (x1.1) (Prod.fst (x1.2)) (Prod.fst (Prod.snd (x1.2))) (IntKind.wrap .i64 (x2.1))=some x3)∧zAd (!x3) (Q (Value.tuple #[Value.agg #[Value.int .i64 0,Value.int .u64 0,Value.int .u64 0,Value.int .i64 0],Value.bool false])) (Q (Value.tuple #[Value.agg #[Value.int .i64 (x1.1),Value.int .u64 (Prod.fst (x1.2)),Value.int .u64 (Prod.fst (Prod.snd (x1.2))),Value.int .i64 (IntKind.wrap .i64 (x2.1))],Value.bool true])))))))))))))))))):=by kernel_rfl
end Go.Proofs.YtfnacgojmdbjmaaGreatDoor
namespace Go.Proofs.YtfnacgojmdbjmaaGreatDoor
open Go.Det Go.RowKit Go.Proofs.ZW
def zJn (s:ByteArray):Option (Int×Bool):=PPPT.YB.f 7000 s
def zJo (s:ByteArray):Option Int:=PPPT.Yz.f 7000 s
def zB3 (x:ByteArray×Bool):Option (List Int×Bool):=PPPT.Ya.f 7000 x.1 x.2
def con87:Con:=Con.opt zZp zJn zW8
theorem xD4 {W:World}(hW:GoodW W):zAk Tryz.prog W 6 87 con87.own:=by
 refine zA6 (fn:=Tryz.f87) (c:=zAa Tryz.f87) hW Tryz.func87 (by kernel_rfl) (by kernel_rfl) fun args v h=>?_
 split at h
 case h_2=>cases h
 rename_i a ha
 split at h
 case h_2=>cases h
 rename_i b hb
 cases h
 obtain rfl:=zGn ha
 exact⟨rfl,rfl,fun w hG=>(PPPT.YB.calls 7000 a b.1 b.2 w hG hb).mono fun e w' h=>⟨h.1,h.2⟩⟩
def con88:Con:=Con.opt zZp zJo enI
theorem xD5 {W:World}(hW:GoodW W):zAk Tryz.prog W 6 88 con88.own:=by
 refine zA6 (fn:=Tryz.f88) (c:=zAa Tryz.f88) hW Tryz.func88 (by kernel_rfl) (by kernel_rfl) fun args v h=>?_
 split at h
 case h_2=>cases h
 rename_i a ha
 split at h
 case h_2=>cases h
 rename_i b hb
 cases h
 obtain rfl:=zGn ha
 exact⟨rfl,rfl,fun w hG=>(PPPT.Yz.calls 7000 a b w hG hb).mono fun e w' h=>⟨h.1,h.2.below⟩⟩
theorem vg0 (l:Bool)(Q:Value→Prop):zBj Tryz.prog (cwC []) ox0 0 (zAa Tryz.f89) (zAg [.string ⟨⟨[]⟩⟩,.bool l] 8) (zAh [] 64) (zA2 Tryz.prog Tryz.f89 fun v _=>Q v)=(zAd (zAf (Array.toList (ByteArray.data { data:={ toList:=[] } })=Array.toList (ByteArray.data { data:=#[] }))) (Q (Value.tuple #[Value.slice Option.none 0 0,Value.bool Bool.true])) (False)):=by kernel_rfl
def con89e:Con:=Con.flat yUe (fun _=>true) fun _=>.tuple #[.slice none 0 0,.bool true]
theorem yWz {W:World}(hW:GoodW W):zAk Tryz.prog W 6 89 con89e.own:=
 zQx (fun l:Bool=>[.string ⟨⟨[]⟩⟩,.bool l]) (Laying.empty hW.size) hW.size (by decide) zAl (l:=[]) (zAb W 6) Tryz.func89 (fn:=Tryz.f89) (c:=zAa Tryz.f89) (by kernel_rfl) (by kernel_rfl) (fun _ _ h=>zXa h) (fun a=>⟨rfl,rfl,(by kernel_rfl)⟩) fun a _=>
  zAs (zAp _) zFd (by kernel_rfl) ((vg0 a _).mpr (zW0 rfl rfl))
theorem yPo {l:Bool}{r:List Int×Bool}(h:zB3 (⟨⟨[]⟩⟩,l)=some r):r=([],true):=by
 unfold zB3 PPPT.Ya.f at h
 rw[xGq (show ByteArray.toList ⟨⟨[]⟩⟩=[] by rw[ByteArray.toList_eq])] at h
 cases h;rfl
theorem xD6 {W:World}(hW:GoodW W):zAk Tryz.prog W 6 89 (zRb zB3 23):=
 zW9 (fn:=Tryz.f89) (c:=zAa Tryz.f89) (Gd:=GoodW) (g:=con89e.own) (fun w k=>hW.later k.size k.old) Tryz.func89 (by kernel_rfl) (by kernel_rfl) (yWz hW)
  (fun last r s h=>by cases yPo h;rfl)
  fun t last r h w hG=>(PPPT.Ya.calls 7000 t last r.1 r.2 w hG h).mono (by
   rintro e w' ⟨v,rfl,hR,hB⟩
   obtain⟨_,inner,ho,hreps⟩:=hR
   obtain rfl:=zLk (enc:=Value.int .u64) (fun p c h=>h) hreps
   exact⟨v,rfl,⟨hB.os,hB.tape,hB.output,hB.size,hB.block⟩,ho⟩)
abbrev ya (s:ByteArray)(j:Int):ByteArray:=ByteArray.extract s 0 (Int.toNat j)
abbrev yb (s:ByteArray)(j:Int):ByteArray:=ByteArray.extract s (Int.toNat (IntKind.wrap IntKind.i64 (j+2))) (ByteArray.size s)
abbrev yh (s:ByteArray)(T:Int→Prop):Prop:=∃ x0:Int,((zJn s=Option.some (x0,Bool.false))∧(∃ x1:Int,((zJo s=Option.some x1)∧((Bool.true=Bool.true)∧((zAf (x1 < 0)=Bool.false)∧((0≤x1)∧((x1≤(↑(ByteArray.size s):Int))∧T x1)))))))
abbrev yo (s:ByteArray)(j:Int)(T:Prop):Prop:=(0≤IntKind.wrap IntKind.i64 (j+2))∧((IntKind.wrap IntKind.i64 (j+2)≤(↑(ByteArray.size s):Int))∧T)
abbrev yq (Q:Value→Prop)(a b c d e f g h:Int):Prop:=Q (Value.tuple #[Value.agg #[Value.int IntKind.i64 6,Value.int IntKind.u64 (orI IntKind.u64 (zE2 IntKind.u64 (orI IntKind.u64 (zE2 IntKind.u64 (orI IntKind.u64 (zE2 IntKind.u64 (orI IntKind.u64 (zE2 IntKind.u64 0 16) a) 16) b) 16) c) 16) d),Value.int IntKind.u64 (orI IntKind.u64 (zE2 IntKind.u64 (orI IntKind.u64 (zE2 IntKind.u64 (orI IntKind.u64 (zE2 IntKind.u64 (orI IntKind.u64 (zE2 IntKind.u64 0 16) e) 16) f) 16) g) 16) h)],Value.bool Bool.true])
abbrev yt (n:Int)(T:Prop):Prop:=(((0:Int)≤16)∧((((0:Int)≤0)∧(0 < n))∧(((0:Int)≤16)∧(((0≤IntKind.wrap IntKind.i64 (4+0))∧(IntKind.wrap IntKind.i64 (4+0) < n))∧((Bool.true=Bool.true)∧(((0:Int)≤16)∧(((0≤IntKind.wrap IntKind.i64 (0+1))∧(IntKind.wrap IntKind.i64 (0+1) < n))∧(((0:Int)≤16)∧(((0≤IntKind.wrap IntKind.i64 (4+IntKind.wrap IntKind.i64 (0+1)))∧(IntKind.wrap IntKind.i64 (4+IntKind.wrap IntKind.i64 (0+1)) < n))∧((Bool.true=Bool.true)∧(((0:Int)≤16)∧(((0≤IntKind.wrap IntKind.i64 (IntKind.wrap IntKind.i64 (0+1)+1))∧(IntKind.wrap IntKind.i64 (IntKind.wrap IntKind.i64 (0+1)+1) < n))∧(((0:Int)≤16)∧(((0≤IntKind.wrap IntKind.i64 (4+IntKind.wrap IntKind.i64 (IntKind.wrap IntKind.i64 (0+1)+1)))∧(IntKind.wrap IntKind.i64 (4+IntKind.wrap IntKind.i64 (IntKind.wrap IntKind.i64 (0+1)+1)) < n))∧((Bool.true=Bool.true)∧(((0:Int)≤16)∧(((0≤IntKind.wrap IntKind.i64 (IntKind.wrap IntKind.i64 (IntKind.wrap IntKind.i64 (0+1)+1)+1))∧(IntKind.wrap IntKind.i64 (IntKind.wrap IntKind.i64 (IntKind.wrap IntKind.i64 (0+1)+1)+1) < n))∧(((0:Int)≤16)∧(((0≤IntKind.wrap IntKind.i64 (4+IntKind.wrap IntKind.i64 (IntKind.wrap IntKind.i64 (IntKind.wrap IntKind.i64 (0+1)+1)+1)))∧(IntKind.wrap IntKind.i64 (4+IntKind.wrap IntKind.i64 (IntKind.wrap IntKind.i64 (IntKind.wrap IntKind.i64 (0+1)+1)+1)) < n))∧((Bool.true=Bool.true)∧T))))))))))))))))))))
abbrev yz (Q:Value→Prop):Prop:=Q (Value.tuple #[Value.agg #[Value.int IntKind.i64 0,Value.int IntKind.u64 0,Value.int IntKind.u64 0],Value.bool Bool.false])
def LpA:List (Nat×Con):=[(87,Con.optK zZp zJn true zW8),(88,con88),(89,Con.rowB zB3 23)]
def LpT (h t:Nat):List (Nat×Con):=[(87,Con.optK zZp zJn false zW8),(88,con88),(89,Con.rowS zB3 23 h t)]
def LpB:List (Nat×Con):=[(87,Con.optK zZp zJn false zW8),(88,con88),(89,Con.rowB zB3 23)]
def Lp0:List (Nat×Own):=[(87,con87.own),(88,con88.own),(89,zRb zB3 23)]
end Go.Proofs.YtfnacgojmdbjmaaGreatDoor
namespace Go.Proofs.YtfnacgojmdbjmaaGreatDoor
open Go.Det Go.RowKit  Go.Proofs.ZW
theorem vjA (s:ByteArray)(Q:Value→Prop):zBj Tryz.prog (cwC LpA) (oxJ Tryz.prog 28 false [46,54] [] []) 0 (zAa Tryz.f63) (zAg [.string s] 8) (zAh [] 64) (zA2 Tryz.prog Tryz.f63 fun v _=>Q v)=((∃ x0:Int,((zJn s=some (x0,true))∧Q (Value.tuple #[Value.agg #[Value.int .i64 4,Value.int .u64 0,Value.int .u64 x0],Value.bool true])))):=by kernel_rfl
theorem xD7 (s:ByteArray)(Q:Value→Prop):zBj Tryz.prog (cwC LpB) (oxJ Tryz.prog 28 false [46,54] [] [73]) 0 (zAa Tryz.f63) (zAg [.string s] 8) (zAh [] 64) (zA2 Tryz.prog Tryz.f63 fun v _=>Q v)=((yh s fun x1=>(∃ x2:List Int×Bool,((zB3 (ya s x1,false)=some x2)∧((((ya s x1).data.toList=[])∧(yo s x1 ((∃ x3:List Int×Bool,((zB3 (yb s x1,true)=some x3)∧((((yb s x1).data.toList=[])∧zAd (!x2.2) (yz Q) (zAd (!x3.2) (yz Q) (zAd (zAf (7 < IntKind.wrap .i64 ((↑0:Int)+(↑0:Int)))) (yz Q) (False))))∨((((yb s x1).data.toList≠[])∧((x3.1=[])∧zAd (!x2.2) (yz Q) (zAd (!x3.2) (yz Q) (zAd (zAf (7 < IntKind.wrap .i64 ((↑0:Int)+(↑0:Int)))) (yz Q) (False)))))∨(((yb s x1).data.toList≠[])∧((x3.1≠[])∧zAd (!x2.2) (yz Q) (zAd (!x3.2) (yz Q) (zAd (zAf (7 < IntKind.wrap .i64 ((↑0:Int)+(↑(List.length (x3.1)):Int)))) (yz Q) (False))))))))))))∨((((ya s x1).data.toList≠[])∧((x2.1=[])∧(yo s x1 ((∃ x3:List Int×Bool,((zB3 (yb s x1,true)=some x3)∧((((yb s x1).data.toList=[])∧zAd (!x2.2) (yz Q) (zAd (!x3.2) (yz Q) (zAd (zAf (7 < IntKind.wrap .i64 ((↑0:Int)+(↑0:Int)))) (yz Q) (False))))∨((((yb s x1).data.toList≠[])∧((x3.1=[])∧zAd (!x2.2) (yz Q) (zAd (!x3.2) (yz Q) (zAd (zAf (7 < IntKind.wrap .i64 ((↑0:Int)+(↑0:Int)))) (yz Q) (False)))))∨(((yb s x1).data.toList≠[])∧((x3.1≠[])∧zAd (!x2.2) (yz Q) (zAd (!x3.2) (yz Q) (zAd (zAf (7 < IntKind.wrap .i64 ((↑0:Int)+(↑(List.length (x3.1)):Int)))) (yz Q) (False)))))))))))))∨(((ya s x1).data.toList≠[])∧((x2.1≠[])∧(yo s x1 ((∃ x3:List Int×Bool,((zB3 (yb s x1,true)=some x3)∧((((yb s x1).data.toList=[])∧zAd (!x2.2) (yz Q) (zAd (!x3.2) (yz Q) (zAd (zAf (7 < IntKind.wrap .i64 ((↑(List.length (x2.1)):Int)+(↑0:Int)))) (yz Q) (False))))∨((((yb s x1).data.toList≠[])∧((x3.1=[])∧zAd (!x2.2) (yz Q) (zAd (!x3.2) (yz Q) (zAd (zAf (7 < IntKind.wrap .i64 ((↑(List.length (x2.1)):Int)+(↑0:Int)))) (yz Q) (False)))))∨(((yb s x1).data.toList≠[])∧((x3.1≠[])∧zAd (!x2.2) (yz Q) (zAd (!x3.2) (yz Q) (zAd (zAf (7 < IntKind.wrap .i64 ((↑(List.length (x2.1)):Int)+(↑(List.length (x3.1)):Int)))) (yz Q) (False))))))))))))))))))):=by kernel_rfl
theorem xD8 (s:ByteArray)(Q:Value→Prop):zBj Tryz.prog (cwC LpB) (oxJ Tryz.prog 28 true [46,54] [] [42]) 0 (zAa Tryz.f63) (zAg [.string s] 8) (zAh [] 64) (zA2 Tryz.prog Tryz.f63 fun v _=>Q v)=((∃ x0:Int,((zJn s=some (x0,false))∧(∃ x1:Int,((zJo s=some x1)∧((true=true)∧((zAf (x1 < 0)=true)∧(∃ x2:List Int×Bool,((zB3 (s,true)=some x2)∧(((s.data.toList=[])∧zAd (!x2.2) (yz Q) (zAd (zAf ((↑0:Int)≠8)) (yz Q) (False)))∨(((s.data.toList≠[])∧((x2.1=[])∧zAd (!x2.2) (yz Q) (zAd (zAf ((↑0:Int)≠8)) (yz Q) (False))))∨((s.data.toList≠[])∧((x2.1≠[])∧zAd (!x2.2) (yz Q) (zAd (zAf ((↑(List.length (x2.1)):Int)≠8)) (yz Q) (False))))))))))))))):=by kernel_rfl
theorem vjw (s:ByteArray)(Q:Value→Prop):zBj Tryz.prog (cwC (LpT 0 8)) (oxJ Tryz.prog 28 true [46,54] [39,90] []) 5 (zAa Tryz.f63) (zAg [.string s] 8) (zAh [] 64) (zA2 Tryz.prog Tryz.f63 fun v _=>Q v)=((∃ x0:Int,((zJn s=some (x0,false))∧(∃ x1:Int,((zJo s=some x1)∧((true=true)∧((zAf (x1 < 0)=true)∧((s.data.toList≠[])∧(∃ x2:Int,(∃ x3:Int,(∃ x4:Int,(∃ x5:Int,(∃ x6:Int,(∃ x7:Int,(∃ x8:Int,(∃ x9:Int,((zB3 (s,true)=some ([x2,x3,x4,x5,x6,x7,x8,x9],true))∧((true=true)∧((true=true)∧(yt (↑8:Int) (yq Q x2 x3 x4 x5 x6 x7 x8 x9))))))))))))))))))))):=by kernel_rfl
theorem xD9 (s:ByteArray)(Q:Value→Prop):zBj Tryz.prog (cwC (LpT 0 0)) (oxJ Tryz.prog 28 false [46,54] [70,81,90] []) 9 (zAa Tryz.f63) (zAg [.string s] 8) (zAh [] 64) (zA2 Tryz.prog Tryz.f63 fun v _=>Q v)=((yh s fun x1=>(((ya s x1).data.toList=[])∧((zB3 (ya s x1,false)=some ([],true))∧(yo s x1 ((((yb s x1).data.toList=[])∧((zB3 (yb s x1,true)=some ([],true))∧((true=true)∧((true=true)∧((true=true)∧((true=true)∧((true=true)∧((true=true)∧((true=true)∧((true=true)∧((true=true)∧((true=true)∧((true=true)∧(yt (↑8:Int) (yq Q 0 0 0 0 0 0 0 0))))))))))))))))))))):=by kernel_rfl
theorem xEa (s:ByteArray)(Q:Value→Prop):zBj Tryz.prog (cwC (LpT 0 1)) (oxJ Tryz.prog 28 false [46,54] [70,81,90] []) 9 (zAa Tryz.f63) (zAg [.string s] 8) (zAh [] 64) (zA2 Tryz.prog Tryz.f63 fun v _=>Q v)=((yh s fun x1=>(((ya s x1).data.toList=[])∧((zB3 (ya s x1,false)=some ([],true))∧(yo s x1 ((((yb s x1).data.toList≠[])∧(∃ x2:Int,((zB3 (yb s x1,true)=some ([x2],true))∧((true=true)∧((true=true)∧((true=true)∧((true=true)∧((true=true)∧((true=true)∧((true=true)∧((true=true)∧((true=true)∧((true=true)∧(yt (↑8:Int) (yq Q 0 0 0 0 0 0 0 x2))))))))))))))))))))):=by kernel_rfl
theorem xEb (s:ByteArray)(Q:Value→Prop):zBj Tryz.prog (cwC (LpT 0 2)) (oxJ Tryz.prog 28 false [46,54] [70,81,90] []) 9 (zAa Tryz.f63) (zAg [.string s] 8) (zAh [] 64) (zA2 Tryz.prog Tryz.f63 fun v _=>Q v)=((yh s fun x1=>(((ya s x1).data.toList=[])∧((zB3 (ya s x1,false)=some ([],true))∧(yo s x1 ((((yb s x1).data.toList≠[])∧(∃ x2:Int,(∃ x3:Int,((zB3 (yb s x1,true)=some ([x2,x3],true))∧((true=true)∧((true=true)∧((true=true)∧((true=true)∧((true=true)∧((true=true)∧((true=true)∧((true=true)∧((true=true)∧(yt (↑8:Int) (yq Q 0 0 0 0 0 0 x2 x3))))))))))))))))))))):=by kernel_rfl
theorem xEc (s:ByteArray)(Q:Value→Prop):zBj Tryz.prog (cwC (LpT 0 3)) (oxJ Tryz.prog 28 false [46,54] [70,81,90] []) 9 (zAa Tryz.f63) (zAg [.string s] 8) (zAh [] 64) (zA2 Tryz.prog Tryz.f63 fun v _=>Q v)=((yh s fun x1=>(((ya s x1).data.toList=[])∧((zB3 (ya s x1,false)=some ([],true))∧(yo s x1 ((((yb s x1).data.toList≠[])∧(∃ x2:Int,(∃ x3:Int,(∃ x4:Int,((zB3 (yb s x1,true)=some ([x2,x3,x4],true))∧((true=true)∧((true=true)∧((true=true)∧((true=true)∧((true=true)∧((true=true)∧((true=true)∧((true=true)∧(yt (↑8:Int) (yq Q 0 0 0 0 0 x2 x3 x4))))))))))))))))))))):=by kernel_rfl
theorem xEd (s:ByteArray)(Q:Value→Prop):zBj Tryz.prog (cwC (LpT 0 4)) (oxJ Tryz.prog 28 false [46,54] [70,81,90] []) 9 (zAa Tryz.f63) (zAg [.string s] 8) (zAh [] 64) (zA2 Tryz.prog Tryz.f63 fun v _=>Q v)=((yh s fun x1=>(((ya s x1).data.toList=[])∧((zB3 (ya s x1,false)=some ([],true))∧(yo s x1 ((((yb s x1).data.toList≠[])∧(∃ x2:Int,(∃ x3:Int,(∃ x4:Int,(∃ x5:Int,((zB3 (yb s x1,true)=some ([x2,x3,x4,x5],true))∧((true=true)∧((true=true)∧((true=true)∧((true=true)∧((true=true)∧((true=true)∧((true=true)∧(yt (↑8:Int) (yq Q 0 0 0 0 x2 x3 x4 x5))))))))))))))))))))):=by kernel_rfl
theorem xEe (s:ByteArray)(Q:Value→Prop):zBj Tryz.prog (cwC (LpT 0 5)) (oxJ Tryz.prog 28 false [46,54] [70,81,90] []) 9 (zAa Tryz.f63) (zAg [.string s] 8) (zAh [] 64) (zA2 Tryz.prog Tryz.f63 fun v _=>Q v)=((yh s fun x1=>(((ya s x1).data.toList=[])∧((zB3 (ya s x1,false)=some ([],true))∧(yo s x1 ((((yb s x1).data.toList≠[])∧(∃ x2:Int,(∃ x3:Int,(∃ x4:Int,(∃ x5:Int,(∃ x6:Int,((zB3 (yb s x1,true)=some ([x2,x3,x4,x5,x6],true))∧((true=true)∧((true=true)∧((true=true)∧((true=true)∧((true=true)∧((true=true)∧(yt (↑8:Int) (yq Q 0 0 0 x2 x3 x4 x5 x6))))))))))))))))))))):=by kernel_rfl
theorem xEf (s:ByteArray)(Q:Value→Prop):zBj Tryz.prog (cwC (LpT 0 6)) (oxJ Tryz.prog 28 false [46,54] [70,81,90] []) 9 (zAa Tryz.f63) (zAg [.string s] 8) (zAh [] 64) (zA2 Tryz.prog Tryz.f63 fun v _=>Q v)=((yh s fun x1=>(((ya s x1).data.toList=[])∧((zB3 (ya s x1,false)=some ([],true))∧(yo s x1 ((((yb s x1).data.toList≠[])∧(∃ x2:Int,(∃ x3:Int,(∃ x4:Int,(∃ x5:Int,(∃ x6:Int,(∃ x7:Int,((zB3 (yb s x1,true)=some ([x2,x3,x4,x5,x6,x7],true))∧((true=true)∧((true=true)∧((true=true)∧((true=true)∧((true=true)∧(yt (↑8:Int) (yq Q 0 0 x2 x3 x4 x5 x6 x7))))))))))))))))))))):=by kernel_rfl
theorem xEg (s:ByteArray)(Q:Value→Prop):zBj Tryz.prog (cwC (LpT 0 7)) (oxJ Tryz.prog 28 false [46,54] [70,81,90] []) 9 (zAa Tryz.f63) (zAg [.string s] 8) (zAh [] 64) (zA2 Tryz.prog Tryz.f63 fun v _=>Q v)=((yh s fun x1=>(((ya s x1).data.toList=[])∧((zB3 (ya s x1,false)=some ([],true))∧(yo s x1 ((((yb s x1).data.toList≠[])∧(∃ x2:Int,(∃ x3:Int,(∃ x4:Int,(∃ x5:Int,(∃ x6:Int,(∃ x7:Int,(∃ x8:Int,((zB3 (yb s x1,true)=some ([x2,x3,x4,x5,x6,x7,x8],true))∧((true=true)∧((true=true)∧((true=true)∧((true=true)∧(yt (↑8:Int) (yq Q 0 x2 x3 x4 x5 x6 x7 x8))))))))))))))))))))):=by kernel_rfl
theorem xEh (s:ByteArray)(Q:Value→Prop):zBj Tryz.prog (cwC (LpT 1 0)) (oxJ Tryz.prog 28 false [46,54] [70,81,90] []) 9 (zAa Tryz.f63) (zAg [.string s] 8) (zAh [] 64) (zA2 Tryz.prog Tryz.f63 fun v _=>Q v)=((yh s fun x1=>(((ya s x1).data.toList≠[])∧(∃ x2:Int,((zB3 (ya s x1,false)=some ([x2],true))∧(yo s x1 ((((yb s x1).data.toList=[])∧((zB3 (yb s x1,true)=some ([],true))∧((true=true)∧((true=true)∧((true=true)∧((true=true)∧((true=true)∧((true=true)∧((true=true)∧((true=true)∧((true=true)∧((true=true)∧(yt (↑8:Int) (yq Q x2 0 0 0 0 0 0 0))))))))))))))))))))):=by kernel_rfl
theorem xEi (s:ByteArray)(Q:Value→Prop):zBj Tryz.prog (cwC (LpT 1 1)) (oxJ Tryz.prog 28 false [46,54] [70,81,90] []) 9 (zAa Tryz.f63) (zAg [.string s] 8) (zAh [] 64) (zA2 Tryz.prog Tryz.f63 fun v _=>Q v)=((yh s fun x1=>(((ya s x1).data.toList≠[])∧(∃ x2:Int,((zB3 (ya s x1,false)=some ([x2],true))∧(yo s x1 ((((yb s x1).data.toList≠[])∧(∃ x3:Int,((zB3 (yb s x1,true)=some ([x3],true))∧((true=true)∧((true=true)∧((true=true)∧((true=true)∧((true=true)∧((true=true)∧((true=true)∧((true=true)∧((true=true)∧(yt (↑8:Int) (yq Q x2 0 0 0 0 0 0 x3))))))))))))))))))))):=by kernel_rfl
theorem xEj (s:ByteArray)(Q:Value→Prop):zBj Tryz.prog (cwC (LpT 1 2)) (oxJ Tryz.prog 28 false [46,54] [70,81,90] []) 9 (zAa Tryz.f63) (zAg [.string s] 8) (zAh [] 64) (zA2 Tryz.prog Tryz.f63 fun v _=>Q v)=((yh s fun x1=>(((ya s x1).data.toList≠[])∧(∃ x2:Int,((zB3 (ya s x1,false)=some ([x2],true))∧(yo s x1 ((((yb s x1).data.toList≠[])∧(∃ x3:Int,(∃ x4:Int,((zB3 (yb s x1,true)=some ([x3,x4],true))∧((true=true)∧((true=true)∧((true=true)∧((true=true)∧((true=true)∧((true=true)∧((true=true)∧((true=true)∧(yt (↑8:Int) (yq Q x2 0 0 0 0 0 x3 x4))))))))))))))))))))):=by kernel_rfl
theorem xEk (s:ByteArray)(Q:Value→Prop):zBj Tryz.prog (cwC (LpT 1 3)) (oxJ Tryz.prog 28 false [46,54] [70,81,90] []) 9 (zAa Tryz.f63) (zAg [.string s] 8) (zAh [] 64) (zA2 Tryz.prog Tryz.f63 fun v _=>Q v)=((yh s fun x1=>(((ya s x1).data.toList≠[])∧(∃ x2:Int,((zB3 (ya s x1,false)=some ([x2],true))∧(yo s x1 ((((yb s x1).data.toList≠[])∧(∃ x3:Int,(∃ x4:Int,(∃ x5:Int,((zB3 (yb s x1,true)=some ([x3,x4,x5],true))∧((true=true)∧((true=true)∧((true=true)∧((true=true)∧((true=true)∧((true=true)∧((true=true)∧(yt (↑8:Int) (yq Q x2 0 0 0 0 x3 x4 x5))))))))))))))))))))):=by kernel_rfl
theorem xEl (s:ByteArray)(Q:Value→Prop):zBj Tryz.prog (cwC (LpT 1 4)) (oxJ Tryz.prog 28 false [46,54] [70,81,90] []) 9 (zAa Tryz.f63) (zAg [.string s] 8) (zAh [] 64) (zA2 Tryz.prog Tryz.f63 fun v _=>Q v)=((yh s fun x1=>(((ya s x1).data.toList≠[])∧(∃ x2:Int,((zB3 (ya s x1,false)=some ([x2],true))∧(yo s x1 ((((yb s x1).data.toList≠[])∧(∃ x3:Int,(∃ x4:Int,(∃ x5:Int,(∃ x6:Int,((zB3 (yb s x1,true)=some ([x3,x4,x5,x6],true))∧((true=true)∧((true=true)∧((true=true)∧((true=true)∧((true=true)∧((true=true)∧(yt (↑8:Int) (yq Q x2 0 0 0 x3 x4 x5 x6))))))))))))))))))))):=by kernel_rfl
theorem xEm (s:ByteArray)(Q:Value→Prop):zBj Tryz.prog (cwC (LpT 1 5)) (oxJ Tryz.prog 28 false [46,54] [70,81,90] []) 9 (zAa Tryz.f63) (zAg [.string s] 8) (zAh [] 64) (zA2 Tryz.prog Tryz.f63 fun v _=>Q v)=((yh s fun x1=>(((ya s x1).data.toList≠[])∧(∃ x2:Int,((zB3 (ya s x1,false)=some ([x2],true))∧(yo s x1 ((((yb s x1).data.toList≠[])∧(∃ x3:Int,(∃ x4:Int,(∃ x5:Int,(∃ x6:Int,(∃ x7:Int,((zB3 (yb s x1,true)=some ([x3,x4,x5,x6,x7],true))∧((true=true)∧((true=true)∧((true=true)∧((true=true)∧((true=true)∧(yt (↑8:Int) (yq Q x2 0 0 x3 x4 x5 x6 x7))))))))))))))))))))):=by kernel_rfl
theorem xEn (s:ByteArray)(Q:Value→Prop):zBj Tryz.prog (cwC (LpT 1 6)) (oxJ Tryz.prog 28 false [46,54] [70,81,90] []) 9 (zAa Tryz.f63) (zAg [.string s] 8) (zAh [] 64) (zA2 Tryz.prog Tryz.f63 fun v _=>Q v)=((yh s fun x1=>(((ya s x1).data.toList≠[])∧(∃ x2:Int,((zB3 (ya s x1,false)=some ([x2],true))∧(yo s x1 ((((yb s x1).data.toList≠[])∧(∃ x3:Int,(∃ x4:Int,(∃ x5:Int,(∃ x6:Int,(∃ x7:Int,(∃ x8:Int,((zB3 (yb s x1,true)=some ([x3,x4,x5,x6,x7,x8],true))∧((true=true)∧((true=true)∧((true=true)∧((true=true)∧(yt (↑8:Int) (yq Q x2 0 x3 x4 x5 x6 x7 x8))))))))))))))))))))):=by kernel_rfl
theorem xEo (s:ByteArray)(Q:Value→Prop):zBj Tryz.prog (cwC (LpT 2 0)) (oxJ Tryz.prog 28 false [46,54] [70,81,90] []) 9 (zAa Tryz.f63) (zAg [.string s] 8) (zAh [] 64) (zA2 Tryz.prog Tryz.f63 fun v _=>Q v)=((yh s fun x1=>(((ya s x1).data.toList≠[])∧(∃ x2:Int,(∃ x3:Int,((zB3 (ya s x1,false)=some ([x2,x3],true))∧(yo s x1 ((((yb s x1).data.toList=[])∧((zB3 (yb s x1,true)=some ([],true))∧((true=true)∧((true=true)∧((true=true)∧((true=true)∧((true=true)∧((true=true)∧((true=true)∧((true=true)∧((true=true)∧(yt (↑8:Int) (yq Q x2 x3 0 0 0 0 0 0))))))))))))))))))))):=by kernel_rfl
theorem xEp (s:ByteArray)(Q:Value→Prop):zBj Tryz.prog (cwC (LpT 2 1)) (oxJ Tryz.prog 28 false [46,54] [70,81,90] []) 9 (zAa Tryz.f63) (zAg [.string s] 8) (zAh [] 64) (zA2 Tryz.prog Tryz.f63 fun v _=>Q v)=((yh s fun x1=>(((ya s x1).data.toList≠[])∧(∃ x2:Int,(∃ x3:Int,((zB3 (ya s x1,false)=some ([x2,x3],true))∧(yo s x1 ((((yb s x1).data.toList≠[])∧(∃ x4:Int,((zB3 (yb s x1,true)=some ([x4],true))∧((true=true)∧((true=true)∧((true=true)∧((true=true)∧((true=true)∧((true=true)∧((true=true)∧((true=true)∧(yt (↑8:Int) (yq Q x2 x3 0 0 0 0 0 x4))))))))))))))))))))):=by kernel_rfl
theorem xEq (s:ByteArray)(Q:Value→Prop):zBj Tryz.prog (cwC (LpT 2 2)) (oxJ Tryz.prog 28 false [46,54] [70,81,90] []) 9 (zAa Tryz.f63) (zAg [.string s] 8) (zAh [] 64) (zA2 Tryz.prog Tryz.f63 fun v _=>Q v)=((yh s fun x1=>(((ya s x1).data.toList≠[])∧(∃ x2:Int,(∃ x3:Int,((zB3 (ya s x1,false)=some ([x2,x3],true))∧(yo s x1 ((((yb s x1).data.toList≠[])∧(∃ x4:Int,(∃ x5:Int,((zB3 (yb s x1,true)=some ([x4,x5],true))∧((true=true)∧((true=true)∧((true=true)∧((true=true)∧((true=true)∧((true=true)∧((true=true)∧(yt (↑8:Int) (yq Q x2 x3 0 0 0 0 x4 x5))))))))))))))))))))):=by kernel_rfl
theorem xEr (s:ByteArray)(Q:Value→Prop):zBj Tryz.prog (cwC (LpT 2 3)) (oxJ Tryz.prog 28 false [46,54] [70,81,90] []) 9 (zAa Tryz.f63) (zAg [.string s] 8) (zAh [] 64) (zA2 Tryz.prog Tryz.f63 fun v _=>Q v)=((yh s fun x1=>(((ya s x1).data.toList≠[])∧(∃ x2:Int,(∃ x3:Int,((zB3 (ya s x1,false)=some ([x2,x3],true))∧(yo s x1 ((((yb s x1).data.toList≠[])∧(∃ x4:Int,(∃ x5:Int,(∃ x6:Int,((zB3 (yb s x1,true)=some ([x4,x5,x6],true))∧((true=true)∧((true=true)∧((true=true)∧((true=true)∧((true=true)∧((true=true)∧(yt (↑8:Int) (yq Q x2 x3 0 0 0 x4 x5 x6))))))))))))))))))))):=by kernel_rfl
theorem xEs (s:ByteArray)(Q:Value→Prop):zBj Tryz.prog (cwC (LpT 2 4)) (oxJ Tryz.prog 28 false [46,54] [70,81,90] []) 9 (zAa Tryz.f63) (zAg [.string s] 8) (zAh [] 64) (zA2 Tryz.prog Tryz.f63 fun v _=>Q v)=((yh s fun x1=>(((ya s x1).data.toList≠[])∧(∃ x2:Int,(∃ x3:Int,((zB3 (ya s x1,false)=some ([x2,x3],true))∧(yo s x1 ((((yb s x1).data.toList≠[])∧(∃ x4:Int,(∃ x5:Int,(∃ x6:Int,(∃ x7:Int,((zB3 (yb s x1,true)=some ([x4,x5,x6,x7],true))∧((true=true)∧((true=true)∧((true=true)∧((true=true)∧((true=true)∧(yt (↑8:Int) (yq Q x2 x3 0 0 x4 x5 x6 x7))))))))))))))))))))):=by kernel_rfl
theorem xEt (s:ByteArray)(Q:Value→Prop):zBj Tryz.prog (cwC (LpT 2 5)) (oxJ Tryz.prog 28 false [46,54] [70,81,90] []) 9 (zAa Tryz.f63) (zAg [.string s] 8) (zAh [] 64) (zA2 Tryz.prog Tryz.f63 fun v _=>Q v)=((yh s fun x1=>(((ya s x1).data.toList≠[])∧(∃ x2:Int,(∃ x3:Int,((zB3 (ya s x1,false)=some ([x2,x3],true))∧(yo s x1 ((((yb s x1).data.toList≠[])∧(∃ x4:Int,(∃ x5:Int,(∃ x6:Int,(∃ x7:Int,(∃ x8:Int,((zB3 (yb s x1,true)=some ([x4,x5,x6,x7,x8],true))∧((true=true)∧((true=true)∧((true=true)∧((true=true)∧(yt (↑8:Int) (yq Q x2 x3 0 x4 x5 x6 x7 x8))))))))))))))))))))):=by kernel_rfl
theorem xEu (s:ByteArray)(Q:Value→Prop):zBj Tryz.prog (cwC (LpT 3 0)) (oxJ Tryz.prog 28 false [46,54] [70,81,90] []) 9 (zAa Tryz.f63) (zAg [.string s] 8) (zAh [] 64) (zA2 Tryz.prog Tryz.f63 fun v _=>Q v)=((yh s fun x1=>(((ya s x1).data.toList≠[])∧(∃ x2:Int,(∃ x3:Int,(∃ x4:Int,((zB3 (ya s x1,false)=some ([x2,x3,x4],true))∧(yo s x1 ((((yb s x1).data.toList=[])∧((zB3 (yb s x1,true)=some ([],true))∧((true=true)∧((true=true)∧((true=true)∧((true=true)∧((true=true)∧((true=true)∧((true=true)∧((true=true)∧(yt (↑8:Int) (yq Q x2 x3 x4 0 0 0 0 0))))))))))))))))))))):=by kernel_rfl
theorem xEv (s:ByteArray)(Q:Value→Prop):zBj Tryz.prog (cwC (LpT 3 1)) (oxJ Tryz.prog 28 false [46,54] [70,81,90] []) 9 (zAa Tryz.f63) (zAg [.string s] 8) (zAh [] 64) (zA2 Tryz.prog Tryz.f63 fun v _=>Q v)=((yh s fun x1=>(((ya s x1).data.toList≠[])∧(∃ x2:Int,(∃ x3:Int,(∃ x4:Int,((zB3 (ya s x1,false)=some ([x2,x3,x4],true))∧(yo s x1 ((((yb s x1).data.toList≠[])∧(∃ x5:Int,((zB3 (yb s x1,true)=some ([x5],true))∧((true=true)∧((true=true)∧((true=true)∧((true=true)∧((true=true)∧((true=true)∧((true=true)∧(yt (↑8:Int) (yq Q x2 x3 x4 0 0 0 0 x5))))))))))))))))))))):=by kernel_rfl
theorem xEw (s:ByteArray)(Q:Value→Prop):zBj Tryz.prog (cwC (LpT 3 2)) (oxJ Tryz.prog 28 false [46,54] [70,81,90] []) 9 (zAa Tryz.f63) (zAg [.string s] 8) (zAh [] 64) (zA2 Tryz.prog Tryz.f63 fun v _=>Q v)=((yh s fun x1=>(((ya s x1).data.toList≠[])∧(∃ x2:Int,(∃ x3:Int,(∃ x4:Int,((zB3 (ya s x1,false)=some ([x2,x3,x4],true))∧(yo s x1 ((((yb s x1).data.toList≠[])∧(∃ x5:Int,(∃ x6:Int,((zB3 (yb s x1,true)=some ([x5,x6],true))∧((true=true)∧((true=true)∧((true=true)∧((true=true)∧((true=true)∧((true=true)∧(yt (↑8:Int) (yq Q x2 x3 x4 0 0 0 x5 x6))))))))))))))))))))):=by kernel_rfl
theorem xEx (s:ByteArray)(Q:Value→Prop):zBj Tryz.prog (cwC (LpT 3 3)) (oxJ Tryz.prog 28 false [46,54] [70,81,90] []) 9 (zAa Tryz.f63) (zAg [.string s] 8) (zAh [] 64) (zA2 Tryz.prog Tryz.f63 fun v _=>Q v)=((yh s fun x1=>(((ya s x1).data.toList≠[])∧(∃ x2:Int,(∃ x3:Int,(∃ x4:Int,((zB3 (ya s x1,false)=some ([x2,x3,x4],true))∧(yo s x1 ((((yb s x1).data.toList≠[])∧(∃ x5:Int,(∃ x6:Int,(∃ x7:Int,((zB3 (yb s x1,true)=some ([x5,x6,x7],true))∧((true=true)∧((true=true)∧((true=true)∧((true=true)∧((true=true)∧(yt (↑8:Int) (yq Q x2 x3 x4 0 0 x5 x6 x7))))))))))))))))))))):=by kernel_rfl
theorem xEy (s:ByteArray)(Q:Value→Prop):zBj Tryz.prog (cwC (LpT 3 4)) (oxJ Tryz.prog 28 false [46,54] [70,81,90] []) 9 (zAa Tryz.f63) (zAg [.string s] 8) (zAh [] 64) (zA2 Tryz.prog Tryz.f63 fun v _=>Q v)=((yh s fun x1=>(((ya s x1).data.toList≠[])∧(∃ x2:Int,(∃ x3:Int,(∃ x4:Int,((zB3 (ya s x1,false)=some ([x2,x3,x4],true))∧(yo s x1 ((((yb s x1).data.toList≠[])∧(∃ x5:Int,(∃ x6:Int,(∃ x7:Int,(∃ x8:Int,((zB3 (yb s x1,true)=some ([x5,x6,x7,x8],true))∧((true=true)∧((true=true)∧((true=true)∧((true=true)∧(yt (↑8:Int) (yq Q x2 x3 x4 0 x5 x6 x7 x8))))))))))))))))))))):=by kernel_rfl
theorem xEz (s:ByteArray)(Q:Value→Prop):zBj Tryz.prog (cwC (LpT 4 0)) (oxJ Tryz.prog 28 false [46,54] [70,81,90] []) 9 (zAa Tryz.f63) (zAg [.string s] 8) (zAh [] 64) (zA2 Tryz.prog Tryz.f63 fun v _=>Q v)=((yh s fun x1=>(((ya s x1).data.toList≠[])∧(∃ x2:Int,(∃ x3:Int,(∃ x4:Int,(∃ x5:Int,((zB3 (ya s x1,false)=some ([x2,x3,x4,x5],true))∧(yo s x1 ((((yb s x1).data.toList=[])∧((zB3 (yb s x1,true)=some ([],true))∧((true=true)∧((true=true)∧((true=true)∧((true=true)∧((true=true)∧((true=true)∧((true=true)∧(yt (↑8:Int) (yq Q x2 x3 x4 x5 0 0 0 0))))))))))))))))))))):=by kernel_rfl
theorem xE0 (s:ByteArray)(Q:Value→Prop):zBj Tryz.prog (cwC (LpT 4 1)) (oxJ Tryz.prog 28 false [46,54] [70,81,90] []) 9 (zAa Tryz.f63) (zAg [.string s] 8) (zAh [] 64) (zA2 Tryz.prog Tryz.f63 fun v _=>Q v)=((yh s fun x1=>(((ya s x1).data.toList≠[])∧(∃ x2:Int,(∃ x3:Int,(∃ x4:Int,(∃ x5:Int,((zB3 (ya s x1,false)=some ([x2,x3,x4,x5],true))∧(yo s x1 ((((yb s x1).data.toList≠[])∧(∃ x6:Int,((zB3 (yb s x1,true)=some ([x6],true))∧((true=true)∧((true=true)∧((true=true)∧((true=true)∧((true=true)∧((true=true)∧(yt (↑8:Int) (yq Q x2 x3 x4 x5 0 0 0 x6))))))))))))))))))))):=by kernel_rfl
theorem xE1 (s:ByteArray)(Q:Value→Prop):zBj Tryz.prog (cwC (LpT 4 2)) (oxJ Tryz.prog 28 false [46,54] [70,81,90] []) 9 (zAa Tryz.f63) (zAg [.string s] 8) (zAh [] 64) (zA2 Tryz.prog Tryz.f63 fun v _=>Q v)=((yh s fun x1=>(((ya s x1).data.toList≠[])∧(∃ x2:Int,(∃ x3:Int,(∃ x4:Int,(∃ x5:Int,((zB3 (ya s x1,false)=some ([x2,x3,x4,x5],true))∧(yo s x1 ((((yb s x1).data.toList≠[])∧(∃ x6:Int,(∃ x7:Int,((zB3 (yb s x1,true)=some ([x6,x7],true))∧((true=true)∧((true=true)∧((true=true)∧((true=true)∧((true=true)∧(yt (↑8:Int) (yq Q x2 x3 x4 x5 0 0 x6 x7))))))))))))))))))))):=by kernel_rfl
theorem xE2 (s:ByteArray)(Q:Value→Prop):zBj Tryz.prog (cwC (LpT 4 3)) (oxJ Tryz.prog 28 false [46,54] [70,81,90] []) 9 (zAa Tryz.f63) (zAg [.string s] 8) (zAh [] 64) (zA2 Tryz.prog Tryz.f63 fun v _=>Q v)=((yh s fun x1=>(((ya s x1).data.toList≠[])∧(∃ x2:Int,(∃ x3:Int,(∃ x4:Int,(∃ x5:Int,((zB3 (ya s x1,false)=some ([x2,x3,x4,x5],true))∧(yo s x1 ((((yb s x1).data.toList≠[])∧(∃ x6:Int,(∃ x7:Int,(∃ x8:Int,((zB3 (yb s x1,true)=some ([x6,x7,x8],true))∧((true=true)∧((true=true)∧((true=true)∧((true=true)∧(yt (↑8:Int) (yq Q x2 x3 x4 x5 0 x6 x7 x8))))))))))))))))))))):=by kernel_rfl
theorem xE3 (s:ByteArray)(Q:Value→Prop):zBj Tryz.prog (cwC (LpT 5 0)) (oxJ Tryz.prog 28 false [46,54] [70,81,90] []) 9 (zAa Tryz.f63) (zAg [.string s] 8) (zAh [] 64) (zA2 Tryz.prog Tryz.f63 fun v _=>Q v)=((yh s fun x1=>(((ya s x1).data.toList≠[])∧(∃ x2:Int,(∃ x3:Int,(∃ x4:Int,(∃ x5:Int,(∃ x6:Int,((zB3 (ya s x1,false)=some ([x2,x3,x4,x5,x6],true))∧(yo s x1 ((((yb s x1).data.toList=[])∧((zB3 (yb s x1,true)=some ([],true))∧((true=true)∧((true=true)∧((true=true)∧((true=true)∧((true=true)∧((true=true)∧(yt (↑8:Int) (yq Q x2 x3 x4 x5 x6 0 0 0))))))))))))))))))))):=by kernel_rfl
theorem xE4 (s:ByteArray)(Q:Value→Prop):zBj Tryz.prog (cwC (LpT 5 1)) (oxJ Tryz.prog 28 false [46,54] [70,81,90] []) 9 (zAa Tryz.f63) (zAg [.string s] 8) (zAh [] 64) (zA2 Tryz.prog Tryz.f63 fun v _=>Q v)=((yh s fun x1=>(((ya s x1).data.toList≠[])∧(∃ x2:Int,(∃ x3:Int,(∃ x4:Int,(∃ x5:Int,(∃ x6:Int,((zB3 (ya s x1,false)=some ([x2,x3,x4,x5,x6],true))∧(yo s x1 ((((yb s x1).data.toList≠[])∧(∃ x7:Int,((zB3 (yb s x1,true)=some ([x7],true))∧((true=true)∧((true=true)∧((true=true)∧((true=true)∧((true=true)∧(yt (↑8:Int) (yq Q x2 x3 x4 x5 x6 0 0 x7))))))))))))))))))))):=by kernel_rfl
theorem xE5 (s:ByteArray)(Q:Value→Prop):zBj Tryz.prog (cwC (LpT 5 2)) (oxJ Tryz.prog 28 false [46,54] [70,81,90] []) 9 (zAa Tryz.f63) (zAg [.string s] 8) (zAh [] 64) (zA2 Tryz.prog Tryz.f63 fun v _=>Q v)=((yh s fun x1=>(((ya s x1).data.toList≠[])∧(∃ x2:Int,(∃ x3:Int,(∃ x4:Int,(∃ x5:Int,(∃ x6:Int,((zB3 (ya s x1,false)=some ([x2,x3,x4,x5,x6],true))∧(yo s x1 ((((yb s x1).data.toList≠[])∧(∃ x7:Int,(∃ x8:Int,((zB3 (yb s x1,true)=some ([x7,x8],true))∧((true=true)∧((true=true)∧((true=true)∧((true=true)∧(yt (↑8:Int) (yq Q x2 x3 x4 x5 x6 0 x7 x8))))))))))))))))))))):=by kernel_rfl
theorem xE6 (s:ByteArray)(Q:Value→Prop):zBj Tryz.prog (cwC (LpT 6 0)) (oxJ Tryz.prog 28 false [46,54] [70,81,90] []) 9 (zAa Tryz.f63) (zAg [.string s] 8) (zAh [] 64) (zA2 Tryz.prog Tryz.f63 fun v _=>Q v)=((yh s fun x1=>(((ya s x1).data.toList≠[])∧(∃ x2:Int,(∃ x3:Int,(∃ x4:Int,(∃ x5:Int,(∃ x6:Int,(∃ x7:Int,((zB3 (ya s x1,false)=some ([x2,x3,x4,x5,x6,x7],true))∧(yo s x1 ((((yb s x1).data.toList=[])∧((zB3 (yb s x1,true)=some ([],true))∧((true=true)∧((true=true)∧((true=true)∧((true=true)∧((true=true)∧(yt (↑8:Int) (yq Q x2 x3 x4 x5 x6 x7 0 0))))))))))))))))))))):=by kernel_rfl
theorem xE7 (s:ByteArray)(Q:Value→Prop):zBj Tryz.prog (cwC (LpT 6 1)) (oxJ Tryz.prog 28 false [46,54] [70,81,90] []) 9 (zAa Tryz.f63) (zAg [.string s] 8) (zAh [] 64) (zA2 Tryz.prog Tryz.f63 fun v _=>Q v)=((yh s fun x1=>(((ya s x1).data.toList≠[])∧(∃ x2:Int,(∃ x3:Int,(∃ x4:Int,(∃ x5:Int,(∃ x6:Int,(∃ x7:Int,((zB3 (ya s x1,false)=some ([x2,x3,x4,x5,x6,x7],true))∧(yo s x1 ((((yb s x1).data.toList≠[])∧(∃ x8:Int,((zB3 (yb s x1,true)=some ([x8],true))∧((true=true)∧((true=true)∧((true=true)∧((true=true)∧(yt (↑8:Int) (yq Q x2 x3 x4 x5 x6 x7 0 x8))))))))))))))))))))):=by kernel_rfl
theorem xE8 (s:ByteArray)(Q:Value→Prop):zBj Tryz.prog (cwC (LpT 7 0)) (oxJ Tryz.prog 28 false [46,54] [70,81,90] []) 9 (zAa Tryz.f63) (zAg [.string s] 8) (zAh [] 64) (zA2 Tryz.prog Tryz.f63 fun v _=>Q v)=((yh s fun x1=>(((ya s x1).data.toList≠[])∧(∃ x2:Int,(∃ x3:Int,(∃ x4:Int,(∃ x5:Int,(∃ x6:Int,(∃ x7:Int,(∃ x8:Int,((zB3 (ya s x1,false)=some ([x2,x3,x4,x5,x6,x7,x8],true))∧(yo s x1 ((((yb s x1).data.toList=[])∧((zB3 (yb s x1,true)=some ([],true))∧((true=true)∧((true=true)∧((true=true)∧((true=true)∧(yt (↑8:Int) (yq Q x2 x3 x4 x5 x6 x7 x8 0))))))))))))))))))))):=by kernel_rfl
end Go.Proofs.YtfnacgojmdbjmaaGreatDoor
namespace Go.Proofs.YtfnacgojmdbjmaaGreatDoor
open Go.Det Go.RowKit Go.Proofs.ZW
theorem zA3 {x:ByteArray}{l b:Bool}{r:List Int}(hr:r≠[])(h:zB3 (x,l)=some (r,b)):x.data.toList≠[]:=by
 intro hx
 obtain⟨⟨t⟩⟩:=x
 have:t=[]:=hx
 subst this
 have:=yPo h
 cases this
 exact hr rfl
theorem zEd {x:ByteArray}{l:Bool}(hs:x.size≤200)(h:zB3 (x,l)=some ([],true)):x.data.toList=[]:=by
 obtain⟨r,r',e1,e2,e3⟩:=zPt hs l (k:=7000) (by omega)
 have e2':zB3 (x,l)=some r':=e2
 rw[h] at e2'
 cases e2'
 have h2:r.2=true:=e3.1.symm
 have:=e3.2 h2
 rw[← this] at e1
 exact(zGq e1).2 rfl rfl
def zFn (cw:Cw)(s:ByteArray)(y:Int×Int×Int×Bool):Prop:=zAo Tryz.prog cw (zAa Tryz.f63) (zAg [.string s] 8) (zAh [] 64) (zA2 Tryz.prog Tryz.f63 fun v' _=>v'=yFz y)
structure ParH (s:ByteArray) (j:Int) (a b:List Int):Prop where
 f:∃ n,zJn s=some (n,false)
 jo:zJo s=some j
 lo:0≤j
 hi:j≤(s.size:Int)
 w0:0≤IntKind.wrap IntKind.i64 (j+2)
 w1:IntKind.wrap IntKind.i64 (j+2)≤(s.size:Int)
 a:zB3 (ya s j,false)=some (a,true)
 b:zB3 (yb s j,true)=some (b,true)
 sa:(ya s j).size≤200
 sb:(yb s j).size≤200
theorem ParH.c {s:ByteArray}{j:Int}{a b:List Int}(k:ParH s j a b):zAf (j < 0)=false:=zCm.2 (by have:=k.lo;omega)
theorem zCw {h t:Nat}{s:ByteArray}{y:Int×Int×Int×Bool}(k:zBj Tryz.prog (cwC (LpT h t)) (oxJ Tryz.prog 28 false [46,54] [70,81,90] []) 9 (zAa Tryz.f63) (zAg [.string s] 8) (zAh [] 64) (zA2 Tryz.prog Tryz.f63 fun v' _=>v'=yFz y)):zFn (cwC (LpT h t)) s y:=
 zAs (zAp _) (zNv _ _ _ _ _) (n:=9) (by kernel_rfl) k
variable {s:ByteArray} {j:Int}
theorem xE9 (k:ParH s j [] []):zFn (cwC (LpT 0 0)) s (zCu [] []):=by
 obtain⟨n,hn⟩:=k.f
 refine zCw ((xD9 s _).mpr ⟨n,hn,j,k.jo,rfl,k.c,k.lo,k.hi,zEd k.sa k.a,k.a,k.w0,k.w1,zEd k.sb k.b,k.b,?_⟩)
 repeat'(first|rfl|decide|refine xGy ?_ ?_)
theorem xFa {b0:Int}(k:ParH s j [] [b0]):zFn (cwC (LpT 0 1)) s (zCu [] [b0]):=by
 obtain⟨n,hn⟩:=k.f
 refine zCw ((xEa s _).mpr ⟨n,hn,j,k.jo,rfl,k.c,k.lo,k.hi,zEd k.sa k.a,k.a,k.w0,k.w1,zA3 (by simp) k.b,b0,k.b,?_⟩)
 repeat'(first|rfl|decide|refine xGy ?_ ?_)
theorem xFb {b0 b1:Int}(k:ParH s j [] [b0,b1]):zFn (cwC (LpT 0 2)) s (zCu [] [b0,b1]):=by
 obtain⟨n,hn⟩:=k.f
 refine zCw ((xEb s _).mpr ⟨n,hn,j,k.jo,rfl,k.c,k.lo,k.hi,zEd k.sa k.a,k.a,k.w0,k.w1,zA3 (by simp) k.b,b0,b1,k.b,?_⟩)
 repeat'(first|rfl|decide|refine xGy ?_ ?_)
theorem xFc {b0 b1 b2:Int}(k:ParH s j [] [b0,b1,b2]):zFn (cwC (LpT 0 3)) s (zCu [] [b0,b1,b2]):=by
 obtain⟨n,hn⟩:=k.f
 refine zCw ((xEc s _).mpr ⟨n,hn,j,k.jo,rfl,k.c,k.lo,k.hi,zEd k.sa k.a,k.a,k.w0,k.w1,zA3 (by simp) k.b,b0,b1,b2,k.b,?_⟩)
 repeat'(first|rfl|decide|refine xGy ?_ ?_)
theorem xFd {b0 b1 b2 b3:Int}(k:ParH s j [] [b0,b1,b2,b3]):zFn (cwC (LpT 0 4)) s (zCu [] [b0,b1,b2,b3]):=by
 obtain⟨n,hn⟩:=k.f
 refine zCw ((xEd s _).mpr ⟨n,hn,j,k.jo,rfl,k.c,k.lo,k.hi,zEd k.sa k.a,k.a,k.w0,k.w1,zA3 (by simp) k.b,b0,b1,b2,b3,k.b,?_⟩)
 repeat'(first|rfl|decide|refine xGy ?_ ?_)
theorem xFe {b0 b1 b2 b3 b4:Int}(k:ParH s j [] [b0,b1,b2,b3,b4]):zFn (cwC (LpT 0 5)) s (zCu [] [b0,b1,b2,b3,b4]):=by
 obtain⟨n,hn⟩:=k.f
 refine zCw ((xEe s _).mpr ⟨n,hn,j,k.jo,rfl,k.c,k.lo,k.hi,zEd k.sa k.a,k.a,k.w0,k.w1,zA3 (by simp) k.b,b0,b1,b2,b3,b4,k.b,?_⟩)
 repeat'(first|rfl|decide|refine xGy ?_ ?_)
theorem xFf {b0 b1 b2 b3 b4 b5:Int}(k:ParH s j [] [b0,b1,b2,b3,b4,b5]):zFn (cwC (LpT 0 6)) s (zCu [] [b0,b1,b2,b3,b4,b5]):=by
 obtain⟨n,hn⟩:=k.f
 refine zCw ((xEf s _).mpr ⟨n,hn,j,k.jo,rfl,k.c,k.lo,k.hi,zEd k.sa k.a,k.a,k.w0,k.w1,zA3 (by simp) k.b,b0,b1,b2,b3,b4,b5,k.b,?_⟩)
 repeat'(first|rfl|decide|refine xGy ?_ ?_)
theorem xFg {b0 b1 b2 b3 b4 b5 b6:Int}(k:ParH s j [] [b0,b1,b2,b3,b4,b5,b6]):zFn (cwC (LpT 0 7)) s (zCu [] [b0,b1,b2,b3,b4,b5,b6]):=by
 obtain⟨n,hn⟩:=k.f
 refine zCw ((xEg s _).mpr ⟨n,hn,j,k.jo,rfl,k.c,k.lo,k.hi,zEd k.sa k.a,k.a,k.w0,k.w1,zA3 (by simp) k.b,b0,b1,b2,b3,b4,b5,b6,k.b,?_⟩)
 repeat'(first|rfl|decide|refine xGy ?_ ?_)
theorem xFh {a0:Int}(k:ParH s j [a0] []):zFn (cwC (LpT 1 0)) s (zCu [a0] []):=by
 obtain⟨n,hn⟩:=k.f
 refine zCw ((xEh s _).mpr ⟨n,hn,j,k.jo,rfl,k.c,k.lo,k.hi,zA3 (by simp) k.a,a0,k.a,k.w0,k.w1,zEd k.sb k.b,k.b,?_⟩)
 repeat'(first|rfl|decide|refine xGy ?_ ?_)
theorem xFi {a0 b0:Int}(k:ParH s j [a0] [b0]):zFn (cwC (LpT 1 1)) s (zCu [a0] [b0]):=by
 obtain⟨n,hn⟩:=k.f
 refine zCw ((xEi s _).mpr ⟨n,hn,j,k.jo,rfl,k.c,k.lo,k.hi,zA3 (by simp) k.a,a0,k.a,k.w0,k.w1,zA3 (by simp) k.b,b0,k.b,?_⟩)
 repeat'(first|rfl|decide|refine xGy ?_ ?_)
theorem xFj {a0 b0 b1:Int}(k:ParH s j [a0] [b0,b1]):zFn (cwC (LpT 1 2)) s (zCu [a0] [b0,b1]):=by
 obtain⟨n,hn⟩:=k.f
 refine zCw ((xEj s _).mpr ⟨n,hn,j,k.jo,rfl,k.c,k.lo,k.hi,zA3 (by simp) k.a,a0,k.a,k.w0,k.w1,zA3 (by simp) k.b,b0,b1,k.b,?_⟩)
 repeat'(first|rfl|decide|refine xGy ?_ ?_)
theorem xFk {a0 b0 b1 b2:Int}(k:ParH s j [a0] [b0,b1,b2]):zFn (cwC (LpT 1 3)) s (zCu [a0] [b0,b1,b2]):=by
 obtain⟨n,hn⟩:=k.f
 refine zCw ((xEk s _).mpr ⟨n,hn,j,k.jo,rfl,k.c,k.lo,k.hi,zA3 (by simp) k.a,a0,k.a,k.w0,k.w1,zA3 (by simp) k.b,b0,b1,b2,k.b,?_⟩)
 repeat'(first|rfl|decide|refine xGy ?_ ?_)
theorem xFl {a0 b0 b1 b2 b3:Int}(k:ParH s j [a0] [b0,b1,b2,b3]):zFn (cwC (LpT 1 4)) s (zCu [a0] [b0,b1,b2,b3]):=by
 obtain⟨n,hn⟩:=k.f
 refine zCw ((xEl s _).mpr ⟨n,hn,j,k.jo,rfl,k.c,k.lo,k.hi,zA3 (by simp) k.a,a0,k.a,k.w0,k.w1,zA3 (by simp) k.b,b0,b1,b2,b3,k.b,?_⟩)
 repeat'(first|rfl|decide|refine xGy ?_ ?_)
theorem xFm {a0 b0 b1 b2 b3 b4:Int}(k:ParH s j [a0] [b0,b1,b2,b3,b4]):zFn (cwC (LpT 1 5)) s (zCu [a0] [b0,b1,b2,b3,b4]):=by
 obtain⟨n,hn⟩:=k.f
 refine zCw ((xEm s _).mpr ⟨n,hn,j,k.jo,rfl,k.c,k.lo,k.hi,zA3 (by simp) k.a,a0,k.a,k.w0,k.w1,zA3 (by simp) k.b,b0,b1,b2,b3,b4,k.b,?_⟩)
 repeat'(first|rfl|decide|refine xGy ?_ ?_)
theorem xFn {a0 b0 b1 b2 b3 b4 b5:Int}(k:ParH s j [a0] [b0,b1,b2,b3,b4,b5]):zFn (cwC (LpT 1 6)) s (zCu [a0] [b0,b1,b2,b3,b4,b5]):=by
 obtain⟨n,hn⟩:=k.f
 refine zCw ((xEn s _).mpr ⟨n,hn,j,k.jo,rfl,k.c,k.lo,k.hi,zA3 (by simp) k.a,a0,k.a,k.w0,k.w1,zA3 (by simp) k.b,b0,b1,b2,b3,b4,b5,k.b,?_⟩)
 repeat'(first|rfl|decide|refine xGy ?_ ?_)
theorem xFo {a0 a1:Int}(k:ParH s j [a0,a1] []):zFn (cwC (LpT 2 0)) s (zCu [a0,a1] []):=by
 obtain⟨n,hn⟩:=k.f
 refine zCw ((xEo s _).mpr ⟨n,hn,j,k.jo,rfl,k.c,k.lo,k.hi,zA3 (by simp) k.a,a0,a1,k.a,k.w0,k.w1,zEd k.sb k.b,k.b,?_⟩)
 repeat'(first|rfl|decide|refine xGy ?_ ?_)
theorem xFp {a0 a1 b0:Int}(k:ParH s j [a0,a1] [b0]):zFn (cwC (LpT 2 1)) s (zCu [a0,a1] [b0]):=by
 obtain⟨n,hn⟩:=k.f
 refine zCw ((xEp s _).mpr ⟨n,hn,j,k.jo,rfl,k.c,k.lo,k.hi,zA3 (by simp) k.a,a0,a1,k.a,k.w0,k.w1,zA3 (by simp) k.b,b0,k.b,?_⟩)
 repeat'(first|rfl|decide|refine xGy ?_ ?_)
theorem xFq {a0 a1 b0 b1:Int}(k:ParH s j [a0,a1] [b0,b1]):zFn (cwC (LpT 2 2)) s (zCu [a0,a1] [b0,b1]):=by
 obtain⟨n,hn⟩:=k.f
 refine zCw ((xEq s _).mpr ⟨n,hn,j,k.jo,rfl,k.c,k.lo,k.hi,zA3 (by simp) k.a,a0,a1,k.a,k.w0,k.w1,zA3 (by simp) k.b,b0,b1,k.b,?_⟩)
 repeat'(first|rfl|decide|refine xGy ?_ ?_)
theorem xFr {a0 a1 b0 b1 b2:Int}(k:ParH s j [a0,a1] [b0,b1,b2]):zFn (cwC (LpT 2 3)) s (zCu [a0,a1] [b0,b1,b2]):=by
 obtain⟨n,hn⟩:=k.f
 refine zCw ((xEr s _).mpr ⟨n,hn,j,k.jo,rfl,k.c,k.lo,k.hi,zA3 (by simp) k.a,a0,a1,k.a,k.w0,k.w1,zA3 (by simp) k.b,b0,b1,b2,k.b,?_⟩)
 repeat'(first|rfl|decide|refine xGy ?_ ?_)
theorem xFs {a0 a1 b0 b1 b2 b3:Int}(k:ParH s j [a0,a1] [b0,b1,b2,b3]):zFn (cwC (LpT 2 4)) s (zCu [a0,a1] [b0,b1,b2,b3]):=by
 obtain⟨n,hn⟩:=k.f
 refine zCw ((xEs s _).mpr ⟨n,hn,j,k.jo,rfl,k.c,k.lo,k.hi,zA3 (by simp) k.a,a0,a1,k.a,k.w0,k.w1,zA3 (by simp) k.b,b0,b1,b2,b3,k.b,?_⟩)
 repeat'(first|rfl|decide|refine xGy ?_ ?_)
theorem xFt {a0 a1 b0 b1 b2 b3 b4:Int}(k:ParH s j [a0,a1] [b0,b1,b2,b3,b4]):zFn (cwC (LpT 2 5)) s (zCu [a0,a1] [b0,b1,b2,b3,b4]):=by
 obtain⟨n,hn⟩:=k.f
 refine zCw ((xEt s _).mpr ⟨n,hn,j,k.jo,rfl,k.c,k.lo,k.hi,zA3 (by simp) k.a,a0,a1,k.a,k.w0,k.w1,zA3 (by simp) k.b,b0,b1,b2,b3,b4,k.b,?_⟩)
 repeat'(first|rfl|decide|refine xGy ?_ ?_)
theorem xFu {a0 a1 a2:Int}(k:ParH s j [a0,a1,a2] []):zFn (cwC (LpT 3 0)) s (zCu [a0,a1,a2] []):=by
 obtain⟨n,hn⟩:=k.f
 refine zCw ((xEu s _).mpr ⟨n,hn,j,k.jo,rfl,k.c,k.lo,k.hi,zA3 (by simp) k.a,a0,a1,a2,k.a,k.w0,k.w1,zEd k.sb k.b,k.b,?_⟩)
 repeat'(first|rfl|decide|refine xGy ?_ ?_)
theorem xFv {a0 a1 a2 b0:Int}(k:ParH s j [a0,a1,a2] [b0]):zFn (cwC (LpT 3 1)) s (zCu [a0,a1,a2] [b0]):=by
 obtain⟨n,hn⟩:=k.f
 refine zCw ((xEv s _).mpr ⟨n,hn,j,k.jo,rfl,k.c,k.lo,k.hi,zA3 (by simp) k.a,a0,a1,a2,k.a,k.w0,k.w1,zA3 (by simp) k.b,b0,k.b,?_⟩)
 repeat'(first|rfl|decide|refine xGy ?_ ?_)
theorem xFw {a0 a1 a2 b0 b1:Int}(k:ParH s j [a0,a1,a2] [b0,b1]):zFn (cwC (LpT 3 2)) s (zCu [a0,a1,a2] [b0,b1]):=by
 obtain⟨n,hn⟩:=k.f
 refine zCw ((xEw s _).mpr ⟨n,hn,j,k.jo,rfl,k.c,k.lo,k.hi,zA3 (by simp) k.a,a0,a1,a2,k.a,k.w0,k.w1,zA3 (by simp) k.b,b0,b1,k.b,?_⟩)
 repeat'(first|rfl|decide|refine xGy ?_ ?_)
theorem xFx {a0 a1 a2 b0 b1 b2:Int}(k:ParH s j [a0,a1,a2] [b0,b1,b2]):zFn (cwC (LpT 3 3)) s (zCu [a0,a1,a2] [b0,b1,b2]):=by
 obtain⟨n,hn⟩:=k.f
 refine zCw ((xEx s _).mpr ⟨n,hn,j,k.jo,rfl,k.c,k.lo,k.hi,zA3 (by simp) k.a,a0,a1,a2,k.a,k.w0,k.w1,zA3 (by simp) k.b,b0,b1,b2,k.b,?_⟩)
 repeat'(first|rfl|decide|refine xGy ?_ ?_)
theorem xFy {a0 a1 a2 b0 b1 b2 b3:Int}(k:ParH s j [a0,a1,a2] [b0,b1,b2,b3]):zFn (cwC (LpT 3 4)) s (zCu [a0,a1,a2] [b0,b1,b2,b3]):=by
 obtain⟨n,hn⟩:=k.f
 refine zCw ((xEy s _).mpr ⟨n,hn,j,k.jo,rfl,k.c,k.lo,k.hi,zA3 (by simp) k.a,a0,a1,a2,k.a,k.w0,k.w1,zA3 (by simp) k.b,b0,b1,b2,b3,k.b,?_⟩)
 repeat'(first|rfl|decide|refine xGy ?_ ?_)
theorem xFz {a0 a1 a2 a3:Int}(k:ParH s j [a0,a1,a2,a3] []):zFn (cwC (LpT 4 0)) s (zCu [a0,a1,a2,a3] []):=by
 obtain⟨n,hn⟩:=k.f
 refine zCw ((xEz s _).mpr ⟨n,hn,j,k.jo,rfl,k.c,k.lo,k.hi,zA3 (by simp) k.a,a0,a1,a2,a3,k.a,k.w0,k.w1,zEd k.sb k.b,k.b,?_⟩)
 repeat'(first|rfl|decide|refine xGy ?_ ?_)
theorem xF0 {a0 a1 a2 a3 b0:Int}(k:ParH s j [a0,a1,a2,a3] [b0]):zFn (cwC (LpT 4 1)) s (zCu [a0,a1,a2,a3] [b0]):=by
 obtain⟨n,hn⟩:=k.f
 refine zCw ((xE0 s _).mpr ⟨n,hn,j,k.jo,rfl,k.c,k.lo,k.hi,zA3 (by simp) k.a,a0,a1,a2,a3,k.a,k.w0,k.w1,zA3 (by simp) k.b,b0,k.b,?_⟩)
 repeat'(first|rfl|decide|refine xGy ?_ ?_)
theorem xF1 {a0 a1 a2 a3 b0 b1:Int}(k:ParH s j [a0,a1,a2,a3] [b0,b1]):zFn (cwC (LpT 4 2)) s (zCu [a0,a1,a2,a3] [b0,b1]):=by
 obtain⟨n,hn⟩:=k.f
 refine zCw ((xE1 s _).mpr ⟨n,hn,j,k.jo,rfl,k.c,k.lo,k.hi,zA3 (by simp) k.a,a0,a1,a2,a3,k.a,k.w0,k.w1,zA3 (by simp) k.b,b0,b1,k.b,?_⟩)
 repeat'(first|rfl|decide|refine xGy ?_ ?_)
theorem xF2 {a0 a1 a2 a3 b0 b1 b2:Int}(k:ParH s j [a0,a1,a2,a3] [b0,b1,b2]):zFn (cwC (LpT 4 3)) s (zCu [a0,a1,a2,a3] [b0,b1,b2]):=by
 obtain⟨n,hn⟩:=k.f
 refine zCw ((xE2 s _).mpr ⟨n,hn,j,k.jo,rfl,k.c,k.lo,k.hi,zA3 (by simp) k.a,a0,a1,a2,a3,k.a,k.w0,k.w1,zA3 (by simp) k.b,b0,b1,b2,k.b,?_⟩)
 repeat'(first|rfl|decide|refine xGy ?_ ?_)
theorem xF3 {a0 a1 a2 a3 a4:Int}(k:ParH s j [a0,a1,a2,a3,a4] []):zFn (cwC (LpT 5 0)) s (zCu [a0,a1,a2,a3,a4] []):=by
 obtain⟨n,hn⟩:=k.f
 refine zCw ((xE3 s _).mpr ⟨n,hn,j,k.jo,rfl,k.c,k.lo,k.hi,zA3 (by simp) k.a,a0,a1,a2,a3,a4,k.a,k.w0,k.w1,zEd k.sb k.b,k.b,?_⟩)
 repeat'(first|rfl|decide|refine xGy ?_ ?_)
theorem xF4 {a0 a1 a2 a3 a4 b0:Int}(k:ParH s j [a0,a1,a2,a3,a4] [b0]):zFn (cwC (LpT 5 1)) s (zCu [a0,a1,a2,a3,a4] [b0]):=by
 obtain⟨n,hn⟩:=k.f
 refine zCw ((xE4 s _).mpr ⟨n,hn,j,k.jo,rfl,k.c,k.lo,k.hi,zA3 (by simp) k.a,a0,a1,a2,a3,a4,k.a,k.w0,k.w1,zA3 (by simp) k.b,b0,k.b,?_⟩)
 repeat'(first|rfl|decide|refine xGy ?_ ?_)
theorem xF5 {a0 a1 a2 a3 a4 b0 b1:Int}(k:ParH s j [a0,a1,a2,a3,a4] [b0,b1]):zFn (cwC (LpT 5 2)) s (zCu [a0,a1,a2,a3,a4] [b0,b1]):=by
 obtain⟨n,hn⟩:=k.f
 refine zCw ((xE5 s _).mpr ⟨n,hn,j,k.jo,rfl,k.c,k.lo,k.hi,zA3 (by simp) k.a,a0,a1,a2,a3,a4,k.a,k.w0,k.w1,zA3 (by simp) k.b,b0,b1,k.b,?_⟩)
 repeat'(first|rfl|decide|refine xGy ?_ ?_)
theorem xF6 {a0 a1 a2 a3 a4 a5:Int}(k:ParH s j [a0,a1,a2,a3,a4,a5] []):zFn (cwC (LpT 6 0)) s (zCu [a0,a1,a2,a3,a4,a5] []):=by
 obtain⟨n,hn⟩:=k.f
 refine zCw ((xE6 s _).mpr ⟨n,hn,j,k.jo,rfl,k.c,k.lo,k.hi,zA3 (by simp) k.a,a0,a1,a2,a3,a4,a5,k.a,k.w0,k.w1,zEd k.sb k.b,k.b,?_⟩)
 repeat'(first|rfl|decide|refine xGy ?_ ?_)
theorem xF7 {a0 a1 a2 a3 a4 a5 b0:Int}(k:ParH s j [a0,a1,a2,a3,a4,a5] [b0]):zFn (cwC (LpT 6 1)) s (zCu [a0,a1,a2,a3,a4,a5] [b0]):=by
 obtain⟨n,hn⟩:=k.f
 refine zCw ((xE7 s _).mpr ⟨n,hn,j,k.jo,rfl,k.c,k.lo,k.hi,zA3 (by simp) k.a,a0,a1,a2,a3,a4,a5,k.a,k.w0,k.w1,zA3 (by simp) k.b,b0,k.b,?_⟩)
 repeat'(first|rfl|decide|refine xGy ?_ ?_)
theorem xF8 {a0 a1 a2 a3 a4 a5 a6:Int}(k:ParH s j [a0,a1,a2,a3,a4,a5,a6] []):zFn (cwC (LpT 7 0)) s (zCu [a0,a1,a2,a3,a4,a5,a6] []):=by
 obtain⟨n,hn⟩:=k.f
 refine zCw ((xE8 s _).mpr ⟨n,hn,j,k.jo,rfl,k.c,k.lo,k.hi,zA3 (by simp) k.a,a0,a1,a2,a3,a4,a5,a6,k.a,k.w0,k.w1,zEd k.sb k.b,k.b,?_⟩)
 repeat'(first|rfl|decide|refine xGy ?_ ?_)
end Go.Proofs.YtfnacgojmdbjmaaGreatDoor
namespace Go.Proofs.YtfnacgojmdbjmaaGreatDoor
open Go.Det Go.RowKit Go.Proofs.ZW
theorem yPp {b2 b3:Bool}{p q:Nat}{Q0:Prop}(hQ:Q0)(hp:b2=true→p≤1002)(hq:b3=true→q≤1002)(H:b2=false∨b3=false∨8≤p+q):
  zAd (!b2) Q0 (zAd (!b3) Q0 (zAd (zAf (7 < IntKind.wrap .i64 ((p:Int)+(q:Int)))) Q0 False)):=by
 refine bifW_n (fun h2=>bifW_n (fun h3=>?_) fun _=>hQ) fun _=>hQ
 have:=hp h2
 have:=hq h3
 rw[wrap_i64 ⟨by omega,by omega⟩]
 refine bifW_c (fun _=>hQ) fun h5=>?_
 rcases H with H|H|H
 ·rw[H] at h2;cases h2
 ·rw[H] at h3;cases h3
 ·omega
theorem zV0 {x:ByteArray}{l:Bool}{r:List Int×Bool}(hx:x.data.toList=[])(h:zB3 (x,l)=some r):r=([],true):=by
 obtain⟨⟨t⟩⟩:=x
 have:t=[]:=hx
 subst this
 exact yPo h
theorem yJz {x:ByteArray}{l:Bool}{r:List Int×Bool}(hs:x.size≤200)(h:zB3 (x,l)=some r)(hr:r.2=true):r.1.length≤1002:=by
 obtain⟨q,r',e1,e2,e3⟩:=zPt hs l (k:=7000) (by omega)
 have e2':zB3 (x,l)=some r':=e2
 rw[h] at e2'
 cases e2'
 have h2:q.2=true:=e3.1.symm.trans hr
 have:=e3.2 h2
 rw[← this] at e1
 exact(zGq (r:=r.1) (b:=r.2) e1).1
theorem yPq {x:ByteArray}(hs:x.size≤200){b:List Int×Bool}(hb:zB3 (x,true)=some b){p:Nat}{a2:Bool}{Q0:Prop}(hQ:Q0)(hp:a2=true→p≤1002)(H:a2=false∨b.2=false∨8≤p+b.1.length):
  ∃ x3:List Int×Bool,((zB3 (x,true)=some x3)∧(((x.data.toList=[])∧zAd (!a2) Q0 (zAd (!x3.2) Q0 (zAd (zAf (7 < IntKind.wrap .i64 ((p:Int)+((0:Nat):Int)))) Q0 False)))∨
   (((x.data.toList≠[])∧((x3.1=[])∧zAd (!a2) Q0 (zAd (!x3.2) Q0 (zAd (zAf (7 < IntKind.wrap .i64 ((p:Int)+((0:Nat):Int)))) Q0 False))))∨
   ((x.data.toList≠[])∧((x3.1≠[])∧zAd (!a2) Q0 (zAd (!x3.2) Q0 (zAd (zAf (7 < IntKind.wrap .i64 ((p:Int)+((x3.1.length:Nat):Int)))) Q0 False))))))):=by
 refine⟨b,hb,?_⟩
 by_cases h1:x.data.toList=[]
 ·have e1:=zV0 h1 hb
  subst e1
  exact .inl ⟨h1,yPp (q:=0) hQ hp (fun _=>by omega) H⟩
 ·by_cases h3:b.1=[]
  ·exact .inr (.inl ⟨h1,h3,yPp (q:=0) hQ hp (fun _=>by omega) (by rw[h3] at H;exact H)⟩)
  ·exact .inr (.inr ⟨h1,h3,yPp hQ hp (fun h=>yJz hs hb h) H⟩)
theorem yTg {s:ByteArray}{j n:Int}{a b:List Int×Bool}(hn:zJn s=some (n,false))(hj:zJo s=some j)(lo:0≤j)(hi:j≤(s.size:Int))(w0:0≤IntKind.wrap IntKind.i64 (j+2))(w1:IntKind.wrap IntKind.i64 (j+2)≤(s.size:Int))
  (ha:zB3 (ya s j,false)=some a) (hb:zB3 (yb s j,true)=some b) (sa:(ya s j).size≤200) (sb:(yb s j).size≤200) (H:a.2=false∨b.2=false∨8≤a.1.length+b.1.length):zFn (cwC LpB) s (0,0,0,false):=by
 refine zAs (zAp _) (zNv _ _ _ _ _) (n:=0) (by kernel_rfl) ((xD7 s _).mpr ⟨n,hn,j,hj,rfl,zCm.2 (by omega),lo,hi,a,ha,?_⟩)
 by_cases h0:(ya s j).data.toList=[]
 ·have e0:=zV0 h0 ha
  subst e0
  exact .inl ⟨h0,w0,w1,yPq sb hb (p:=0) rfl (fun _=>by omega) H⟩
 ·by_cases h2:a.1=[]
  ·exact .inr (.inl ⟨h0,h2,w0,w1,yPq sb hb (p:=0) rfl (fun _=>by omega) (by rw[h2] at H;exact H)⟩)
  ·exact .inr (.inr ⟨h0,h2,w0,w1,yPq sb hb rfl (fun h=>yJz sa ha h) H⟩)
theorem yPr {b2:Bool}{p:Nat}{Q0:Prop}(hQ:Q0)(H:b2=false∨p≠8):zAd (!b2) Q0 (zAd (zAf ((p:Int)≠8)) Q0 False):=by
 refine bifW_n (fun h2=>bifW_c (fun _=>hQ) fun h5=>?_) fun _=>hQ
 rcases H with H|H
 ·rw[H] at h2;cases h2
 ·omega
theorem yPs {s:ByteArray}{j n:Int}{a:List Int×Bool}(hn:zJn s=some (n,false))(hj:zJo s=some j)(lo:j < 0)(ha:zB3 (s,true)=some a)(H:a.2=false∨a.1.length≠8):zFn (cwC LpB) s (0,0,0,false):=by
 refine zAs (zAp _) (zNv _ _ _ _ _) (n:=0) (by kernel_rfl) ((xD8 s _).mpr ⟨n,hn,j,hj,rfl,zBy.2 lo,a,ha,?_⟩)
 by_cases h0:s.data.toList=[]
 ·have e0:=zV0 h0 ha
  subst e0
  exact .inl ⟨h0,yPr (p:=0) rfl (.inr (by decide))⟩
 ·by_cases h2:a.1=[]
  ·exact .inr (.inl ⟨h0,h2,yPr (p:=0) rfl (.inr (by decide))⟩)
  ·exact .inr (.inr ⟨h0,h2,yPr rfl H⟩)
theorem yW0 {s:ByteArray}{j n:Int}{a0 a1 a2 a3 a4 a5 a6 a7:Int}(hn:zJn s=some (n,false))(hj:zJo s=some j)(lo:j < 0)(ha:zB3 (s,true)=some ([a0,a1,a2,a3,a4,a5,a6,a7],true)):
  zFn (cwC (LpT 0 8)) s (6,(zFm [a0,a1,a2,a3,a4,a5,a6,a7]).1,(zFm [a0,a1,a2,a3,a4,a5,a6,a7]).2,true):=by
 refine zAs (zAp _) (zNv _ _ _ _ _) (n:=5) (by kernel_rfl) ((vjw s _).mpr ⟨n,hn,j,hj,rfl,zBy.2 lo,zA3 (by simp) ha,a0,a1,a2,a3,a4,a5,a6,a7,ha,?_⟩)
 repeat'(first|rfl|decide|refine xGy ?_ ?_)
theorem yW1 {s:ByteArray}{n:Int}(hn:zJn s=some (n,true)):zFn (cwC LpA) s (4,0,n,true):=
 zAs (zAp _) (zNv _ _ _ _ _) (n:=0) (by kernel_rfl) ((vjA s _).mpr ⟨n,hn,rfl⟩)
theorem yPt {s:ByteArray}{j:Int}{la lb:List Int}(k:ParH s j la lb)(hl:la.length+lb.length≤7):∃ cw,CwOk (zDc Lp0) cw∧zFn cw s (zCu la lb):=by
 obtain hh|hh|hh|hh|hh|hh|hh|hh:la.length=0∨la.length=1∨la.length=2∨la.length=3∨la.length=4∨la.length=5∨la.length=6∨la.length=7:=by omega
 ·obtain rfl:=ex0 hh
  obtain ht|ht|ht|ht|ht|ht|ht|ht:lb.length=0∨lb.length=1∨lb.length=2∨lb.length=3∨lb.length=4∨lb.length=5∨lb.length=6∨lb.length=7:=by simp only[xG4,xHa] at hl;omega
  ·obtain rfl:=ex0 ht
   exact⟨_,zAq (LpT 0 0),xE9 k⟩
  ·obtain⟨b0,rfl⟩:=ex1 ht
   exact⟨_,zAq (LpT 0 1),xFa k⟩
  ·obtain⟨b0,b1,rfl⟩:=ex2 ht
   exact⟨_,zAq (LpT 0 2),xFb k⟩
  ·obtain⟨b0,b1,b2,rfl⟩:=ex3 ht
   exact⟨_,zAq (LpT 0 3),xFc k⟩
  ·obtain⟨b0,b1,b2,b3,rfl⟩:=ex4 ht
   exact⟨_,zAq (LpT 0 4),xFd k⟩
  ·obtain⟨b0,b1,b2,b3,b4,rfl⟩:=ex5 ht
   exact⟨_,zAq (LpT 0 5),xFe k⟩
  ·obtain⟨b0,b1,b2,b3,b4,b5,rfl⟩:=ex6 ht
   exact⟨_,zAq (LpT 0 6),xFf k⟩
  ·obtain⟨b0,b1,b2,b3,b4,b5,b6,rfl⟩:=ex7 ht
   exact⟨_,zAq (LpT 0 7),xFg k⟩
 ·obtain⟨a0,rfl⟩:=ex1 hh
  obtain ht|ht|ht|ht|ht|ht|ht:lb.length=0∨lb.length=1∨lb.length=2∨lb.length=3∨lb.length=4∨lb.length=5∨lb.length=6:=by simp only[xG4,xHa] at hl;omega
  ·obtain rfl:=ex0 ht
   exact⟨_,zAq (LpT 1 0),xFh k⟩
  ·obtain⟨b0,rfl⟩:=ex1 ht
   exact⟨_,zAq (LpT 1 1),xFi k⟩
  ·obtain⟨b0,b1,rfl⟩:=ex2 ht
   exact⟨_,zAq (LpT 1 2),xFj k⟩
  ·obtain⟨b0,b1,b2,rfl⟩:=ex3 ht
   exact⟨_,zAq (LpT 1 3),xFk k⟩
  ·obtain⟨b0,b1,b2,b3,rfl⟩:=ex4 ht
   exact⟨_,zAq (LpT 1 4),xFl k⟩
  ·obtain⟨b0,b1,b2,b3,b4,rfl⟩:=ex5 ht
   exact⟨_,zAq (LpT 1 5),xFm k⟩
  ·obtain⟨b0,b1,b2,b3,b4,b5,rfl⟩:=ex6 ht
   exact⟨_,zAq (LpT 1 6),xFn k⟩
 ·obtain⟨a0,a1,rfl⟩:=ex2 hh
  obtain ht|ht|ht|ht|ht|ht:lb.length=0∨lb.length=1∨lb.length=2∨lb.length=3∨lb.length=4∨lb.length=5:=by simp only[xG4,xHa] at hl;omega
  ·obtain rfl:=ex0 ht
   exact⟨_,zAq (LpT 2 0),xFo k⟩
  ·obtain⟨b0,rfl⟩:=ex1 ht
   exact⟨_,zAq (LpT 2 1),xFp k⟩
  ·obtain⟨b0,b1,rfl⟩:=ex2 ht
   exact⟨_,zAq (LpT 2 2),xFq k⟩
  ·obtain⟨b0,b1,b2,rfl⟩:=ex3 ht
   exact⟨_,zAq (LpT 2 3),xFr k⟩
  ·obtain⟨b0,b1,b2,b3,rfl⟩:=ex4 ht
   exact⟨_,zAq (LpT 2 4),xFs k⟩
  ·obtain⟨b0,b1,b2,b3,b4,rfl⟩:=ex5 ht
   exact⟨_,zAq (LpT 2 5),xFt k⟩
 ·obtain⟨a0,a1,a2,rfl⟩:=ex3 hh
  obtain ht|ht|ht|ht|ht:lb.length=0∨lb.length=1∨lb.length=2∨lb.length=3∨lb.length=4:=by simp only[xG4,xHa] at hl;omega
  ·obtain rfl:=ex0 ht
   exact⟨_,zAq (LpT 3 0),xFu k⟩
  ·obtain⟨b0,rfl⟩:=ex1 ht
   exact⟨_,zAq (LpT 3 1),xFv k⟩
  ·obtain⟨b0,b1,rfl⟩:=ex2 ht
   exact⟨_,zAq (LpT 3 2),xFw k⟩
  ·obtain⟨b0,b1,b2,rfl⟩:=ex3 ht
   exact⟨_,zAq (LpT 3 3),xFx k⟩
  ·obtain⟨b0,b1,b2,b3,rfl⟩:=ex4 ht
   exact⟨_,zAq (LpT 3 4),xFy k⟩
 ·obtain⟨a0,a1,a2,a3,rfl⟩:=ex4 hh
  obtain ht|ht|ht|ht:lb.length=0∨lb.length=1∨lb.length=2∨lb.length=3:=by simp only[xG4,xHa] at hl;omega
  ·obtain rfl:=ex0 ht
   exact⟨_,zAq (LpT 4 0),xFz k⟩
  ·obtain⟨b0,rfl⟩:=ex1 ht
   exact⟨_,zAq (LpT 4 1),xF0 k⟩
  ·obtain⟨b0,b1,rfl⟩:=ex2 ht
   exact⟨_,zAq (LpT 4 2),xF1 k⟩
  ·obtain⟨b0,b1,b2,rfl⟩:=ex3 ht
   exact⟨_,zAq (LpT 4 3),xF2 k⟩
 ·obtain⟨a0,a1,a2,a3,a4,rfl⟩:=ex5 hh
  obtain ht|ht|ht:lb.length=0∨lb.length=1∨lb.length=2:=by simp only[xG4,xHa] at hl;omega
  ·obtain rfl:=ex0 ht
   exact⟨_,zAq (LpT 5 0),xF3 k⟩
  ·obtain⟨b0,rfl⟩:=ex1 ht
   exact⟨_,zAq (LpT 5 1),xF4 k⟩
  ·obtain⟨b0,b1,rfl⟩:=ex2 ht
   exact⟨_,zAq (LpT 5 2),xF5 k⟩
 ·obtain⟨a0,a1,a2,a3,a4,a5,rfl⟩:=ex6 hh
  obtain ht|ht:lb.length=0∨lb.length=1:=by simp only[xG4,xHa] at hl;omega
  ·obtain rfl:=ex0 ht
   exact⟨_,zAq (LpT 6 0),xF6 k⟩
  ·obtain⟨b0,rfl⟩:=ex1 ht
   exact⟨_,zAq (LpT 6 1),xF7 k⟩
 ·obtain⟨a0,a1,a2,a3,a4,a5,a6,rfl⟩:=ex7 hh
  have ht:lb.length=0:=by simp only[xG4,xHa] at hl;omega
  obtain rfl:=ex0 ht
  exact⟨_,zAq (LpT 7 0),xF8 k⟩
theorem xF9 (s:ByteArray)(y:Int×Int×Int×Bool)(hx:zNu s=some y):∃ cw,CwOk (zDc Lp0) cw∧zFn cw s y:=by
 unfold zNu at hx
 split at hx
 case isFalse=>cases hx
 rename_i hs
 unfold yIb at hx
 obtain⟨⟨n,o⟩,e4,hx⟩:=xGs.1 hx
 have e4:zJn s=some (n,o):=e4
 cases o with
 |true=>
  rw[xGq rfl] at hx
  cases hx
  exact⟨_,zAq LpA,yW1 e4⟩
 |false=>
  rw[xGr (fun q=>by cases q)] at hx
  obtain⟨j,ej,hx⟩:=xGs.1 hx
  have hj:zJo s=some j:=ej
  have hjn:j=jn s.data.toList 0:=by
   have:=zXo (s:=s) (by omega) (k:=7000) (by omega)
   rw[ej] at this
   exact xHc this
  by_cases hlo:j < 0
  ·rw[xGq hlo] at hx
   obtain⟨g,eg,hx⟩:=xGs.1 hx
   have hg:zB3 (s,true)=some g:=eg
   split at hx
   ·rename_i h8
    cases hx
    obtain⟨gl,gb⟩:=g
    obtain⟨h8a,h8b⟩:=h8
    have h8a:gb=true:=h8a
    have h8b:gl.length=8:=h8b
    subst h8a
    obtain⟨a0,a1,a2,a3,a4,a5,a6,a7,rfl⟩:=ex8 h8b
    exact⟨_,zAq (LpT 0 8),yW0 e4 hj hlo hg⟩
   ·rename_i h8
    cases hx
    refine⟨_,zAq LpB,yPs e4 hj hlo hg ?_⟩
    by_cases h9:g.2=true
    ·exact .inr fun q=>h8 ⟨h9,q⟩
    ·exact .inl (Bool.eq_false_iff.2 h9)
  ·rw[xGr hlo] at hx
   obtain⟨a,ea,hx⟩:=xGs.1 hx
   obtain⟨b,eb,hx⟩:=xGs.1 hx
   have hl:s.data.toList.length=s.size:=rfl
   have hle:j+2≤(s.size:Int):=by
    rcases zJm s.data.toList 0 with⟨e1,e2⟩|⟨x,z,e1,e2,e3⟩
    ·omega
    ·rw[hjn,e2,← hl,e1]
     simp
     omega
   have hw:IntKind.wrap IntKind.i64 (j+2)=j+2:=wrap_i64 ⟨by omega,by omega⟩
   have ha:zB3 (ya s j,false)=some a:=ea
   have hb:zB3 (yb s j,true)=some b:=by unfold yb;rw[hw];exact eb
   have sa:(ya s j).size≤200:=by unfold ya;rw[xI5];omega
   have sb:(yb s j).size≤200:=by unfold yb;rw[xI5];omega
   split at hx
   ·rename_i h8
    cases hx
    obtain⟨al,ab⟩:=a
    obtain⟨bl,bb⟩:=b
    obtain⟨h8a,h8b,h8c⟩:=h8
    have h8a:ab=true:=h8a
    have h8b:bb=true:=h8b
    subst h8a
    subst h8b
    exact yPt (j:=j) ⟨⟨n,e4⟩,hj,by omega,by omega,by rw[hw];omega,by rw[hw];omega,ha,hb,sa,sb⟩ h8c
   ·rename_i h8
    cases hx
    refine⟨_,zAq LpB,yTg e4 hj (by omega) (by omega) (by rw[hw];omega) (by rw[hw];omega) ha hb sa sb ?_⟩
    by_cases h9:a.2=true
    ·by_cases h10:b.2=true
     ·exact .inr (.inr (by have:¬ a.1.length+b.1.length≤7:=fun q=>h8 ⟨h9,h10,q⟩;omega))
     ·exact .inr (.inl (Bool.eq_false_iff.2 h10))
    ·exact .inl (Bool.eq_false_iff.2 h9)
theorem xGa {W:World}(hW:GoodW W):zAk Tryz.prog W 6 63 con63.own:=by
 refine zNm (l:=Lp0) (Laying.empty hW.size) hW.size (by decide) zAl (OwnsAll.cons (xD4 hW) (OwnsAll.cons (xD5 hW) (OwnsAll.cons (xD6 hW) (zAb W 6)))) Tryz.func63 (fn:=Tryz.f63) (c:=zAa Tryz.f63) (by kernel_rfl) (by kernel_rfl) fun args v hv=>?_
 split at hv
 case h_2=>cases hv
 rename_i a ha
 split at hv
 case h_2=>cases hv
 rename_i b hd
 cases hv
 obtain rfl:=zGn ha
 exact⟨rfl,rfl,by kernel_rfl,xF9 a b hd⟩
end Go.Proofs.YtfnacgojmdbjmaaGreatDoor
namespace Go.Proofs.YtfnacgojmdbjmaaGreatDoor
open Go.Det Go.RowKit PRD Go.Proofs.ZW
theorem w15 (x:ByteArray)(y:Int×Int×Int×Int×Bool)(hx:YB0.f x=some y):zAo Tryz.prog (cwC L15) (zAa Tryz.f15) (zAg [.string x] 8) (zAh [] 64) (zA2 Tryz.prog Tryz.f15 fun v' _=>v'=yPh y):=by
 refine zAs (zAp _) (zNv 1000 false [18,26] [] []) (n:=0) (by kernel_rfl) ((xD3 x _).mpr ?_)
 unfold YB0.f at hx
 obtain⟨k,e1,hx⟩:=xGs.1 hx
 refine⟨k,e1,bifW_c (fun hc=>?_) (fun hc=>?_)⟩
 ·rw[xGq hc] at hx;cases hx;rfl
 ·rw[xGr hc] at hx
  split at hx
  case isFalse=>cases hx
  rename_i h1
  obtain⟨a,e2,hx⟩:=xGs.1 hx
  split at hx
  case isFalse=>cases hx
  rename_i h2
  obtain⟨n,e3,hx⟩:=xGs.1 hx
  rw[← zBn] at h2 e3
  refine⟨h1.1,h1.2,a,e2,h2.1,h2.2,n,e3,bifW_n (fun hc=>?_) (fun hc=>?_)⟩
  ·rw[xGq hc] at hx
   refine bifW_n (fun hc=>?_) (fun hc=>?_)
   ·rw[xGq hc] at hx
    obtain⟨o,e4,hx⟩:=xGs.1 hx
    rw[← zBn] at e4
    refine⟨o,e4,bifW_n (fun hc=>?_) (fun hc=>?_)⟩
    ·rw[xGq hc,← zBn] at hx;cases hx;rfl
    ·rw[xGr hc] at hx;cases hx;rfl
   ·rw[xGr hc] at hx;cases hx;rfl
  ·rw[xGr hc] at hx;cases hx;rfl
end Go.Proofs.YtfnacgojmdbjmaaGreatDoor
namespace Go.Proofs.YtfnacgojmdbjmaaGreatDoor
open Go.Det Go.RowKit Go.Proofs.ZW PPPT PPH
theorem yEr:∀ n:Fin 256,Yh.f 6 (n.val:Int)=some (zD1 n.val):=by decide +kernel
theorem yIe {n:Nat}(h:n < 256):Yh.f 6 (n:Int)=zNj (n:Int):=by
 rw[yD6 h]
 exact yEr ⟨n,h⟩
theorem yPu (x:Int):(strOfNums [x]).size=1:=rfl
theorem yIf:∀ n:Fin 16,strOfNums [bt (⟨#[48,49,50,51,52,53,54,55,56,57,97,98,99,100,101,102]⟩:ByteArray) (n.val:Int)]=mkB [Txt.dg n.val]:=by decide +kernel
theorem yEs {n:Nat}(h:n < 16)(s:List UInt8):strOfNums [bt (⟨#[48,49,50,51,52,53,54,55,56,57,97,98,99,100,101,102]⟩:ByteArray) (n:Int)]++mkB s=mkB (Txt.dg n::s):=by
 rw[yIf ⟨n,h⟩]
 refine zTu ?_
 simp[mkB]
theorem zDp (s:List UInt8):(mkB s).size=s.length:=by
 show(List.toArray s).size=_
 simp
theorem zRl (s:List UInt8):(mkB s).toList=s:=by
 rw[ByteArray.toList_eq]
 simp[mkB]
theorem zJp {n k:Nat}(hn:n < 65536){s:List UInt8}(hs:s.length≤100)(h:0 < n∨s=[]):Yt.l0 (k+1) (n:Int) (mkB s)=Yt.l0 k ((n / 16:Nat):Int) (mkB (Txt.dg (n % 16)::s)):=by
 have e1:Go.bits .and .u64 (n:Int) 15=((n % 16:Nat):Int):=zIj (by omega) 4 (by decide)
 have e2:(n:Int) / 16=((n / 16:Nat):Int):=by omega
 have e3:(strOfNums [bt (⟨#[48,49,50,51,52,53,54,55,56,57,97,98,99,100,101,102]⟩:ByteArray) ((n % 16:Nat):Int)]).size+(mkB s).size≤9223372036854775807:=by
  rw[zDp,yPu]
  omega
 rw[Yt.l0,e1,e2,zRl]
 split
 ·rw[xGq (by omega),xGq (by omega),xGp,xGq e3,yEs (by omega)]
 ·rw[xGq (h.resolve_left (by omega)),xGq (by omega),xGq (by omega),xGp,xGq e3,yEs (by omega)]
theorem zLm {k:Nat}{s:List UInt8}(h:s≠[]):Yt.l0 (k+1) ((0:Nat):Int) (mkB s)=some (mkB s):=by
 unfold Yt.l0
 rw[xGr (by omega),zRl,xGr h]
theorem zXq {n:Nat}(h:n < 65536){k:Nat}(hk:5≤k):Yt.f k (n:Int)=some ⟨⟨Txt.hexT n⟩⟩:=by
 obtain⟨k,rfl⟩:∃ j,k=j+5:=⟨k - 5,by omega⟩
 unfold Yt.f
 show Yt.l0 (k+5) (n:Int) (mkB [])=_
 rw[zJp h (by simp) (Or.inr rfl)]
 unfold Txt.hexT
 by_cases h1:n < 16
 ·rw[xGq h1,show n / 16=0 by omega,zLm (by simp),show n % 16=n by omega]
  rfl
 ·rw[xGr h1,zJp (by omega) (by simp) (Or.inl (by omega))]
  by_cases h2:n < 256
  ·rw[xGq h2,show n / 16 / 16=0 by omega,zLm (by simp),show n / 16 % 16=n / 16 by omega]
   rfl
  ·rw[xGr h2,zJp (by omega) (by simp) (Or.inl (by omega))]
   by_cases h3:n < 4096
   ·rw[xGq h3,show n / 16 / 16 / 16=0 by omega,zLm (by simp),show n / 16 / 16 % 16=n / 256 by omega]
    rfl
   ·rw[xGr h3,zJp (by omega) (by simp) (Or.inl (by omega)),show n / 16 / 16 / 16 / 16=0 by omega,zLm (by simp),show n / 16 / 16 / 16 % 16=n / 4096 by omega,show n / 16 / 16 % 16=n / 256 % 16 by omega]
    rfl
theorem zTy (a b:Int):∀ i:Nat,i < 8→Yy.f a b (i:Int)=some ((zDi a++zDi b).getD i 0):=by
 have e:∀ (x:Int) (m:Nat),m≤64→Go.bits .and .u64 (shr .u64 x (m:Int)) 65535=andI .u64 (shrI .u64 x (m:Int)) 65535:=by
  intro x m hm
  have h:shr .u64 x (m:Int)=shrI .u64 x (m:Int):=by
   unfold shrI
   rw[Int.fdiv_eq_ediv_of_nonneg _ (by exact Int.pow_nonneg (by decide))]
   rfl
  rw[h]
  rfl
 have w48:IntKind.u64.wrap (wrap64 (48 - wrap64 (16 * ((0:Nat):Int))))=((48:Nat):Int):=by decide +kernel
 have w32:IntKind.u64.wrap (wrap64 (48 - wrap64 (16 * ((1:Nat):Int))))=((32:Nat):Int):=by decide +kernel
 have w16:IntKind.u64.wrap (wrap64 (48 - wrap64 (16 * ((2:Nat):Int))))=((16:Nat):Int):=by decide +kernel
 have w00:IntKind.u64.wrap (wrap64 (48 - wrap64 (16 * ((3:Nat):Int))))=((0:Nat):Int):=by decide +kernel
 have v48:IntKind.u64.wrap (wrap64 (48 - wrap64 (16 * wrap64 (((4:Nat):Int) - 4))))=((48:Nat):Int):=by decide +kernel
 have v32:IntKind.u64.wrap (wrap64 (48 - wrap64 (16 * wrap64 (((5:Nat):Int) - 4))))=((32:Nat):Int):=by decide +kernel
 have v16:IntKind.u64.wrap (wrap64 (48 - wrap64 (16 * wrap64 (((6:Nat):Int) - 4))))=((16:Nat):Int):=by decide +kernel
 have v00:IntKind.u64.wrap (wrap64 (48 - wrap64 (16 * wrap64 (((7:Nat):Int) - 4))))=((0:Nat):Int):=by decide +kernel
 intro i hi
 unfold Yy.f
 have hc:i=0∨i=1∨i=2∨i=3∨i=4∨i=5∨i=6∨i=7:=by omega
 rcases hc with rfl|rfl|rfl|rfl|rfl|rfl|rfl|rfl
 ·rw[xGq (by decide),w48,xGq (by decide),e _ 48 (by decide)];rfl
 ·rw[xGq (by decide),w32,xGq (by decide),e _ 32 (by decide)];rfl
 ·rw[xGq (by decide),w16,xGq (by decide),e _ 16 (by decide)];rfl
 ·rw[xGq (by decide),w00,xGq (by decide),e _ 0 (by decide)];rfl
 ·rw[xGr (by decide),v48,xGq (by decide),e _ 48 (by decide)];rfl
 ·rw[xGr (by decide),v32,xGq (by decide),e _ 32 (by decide)];rfl
 ·rw[xGr (by decide),v16,xGq (by decide),e _ 16 (by decide)];rfl
 ·rw[xGr (by decide),v00,xGq (by decide),e _ 0 (by decide)];rfl
def ZR (f t:Nat)(at_:Int)(long:Nat):Prop:=(f=0∧t=0∧at_=-1∧long=1)∨(f+2≤t∧t≤8∧at_=(f:Int)∧long=t - f)
theorem yEt {a b:Int}{l:List Int}{i K:Nat}(hi:i < 8)
  (out:∀ (k k' f t:Nat) (at_:Int) (long:Nat),K≤k→K≤k'→ZR f t at_ long→∃ (f' t':Nat) (at':Int) (long':Nat),Yn.l0 k l (f:Int) (t:Int) 8 ((i+1:Nat):Int)=some ((f':Int),(t':Int))∧Yl.l0 k' at_ (long:Int) ((i+1:Nat):Int) a b=some (at',(long':Int))∧ZR f' t' at' long')
  {j k k' f t:Nat} {at_:Int} {long:Nat} (hij:i≤j) (hj:j≤8) (hk:K≤k) (hk':K≤k') (z:ZR f t at_ long):
  ∃ (f' t':Nat) (at':Int) (long':Nat),
   (if wrap64 ((j:Int) - (i:Int)) > wrap64 ((t:Int) - (f:Int)) then(if wrap64 ((j:Int) - (i:Int)) > 1 then Yn.l0 k l (i:Int) (j:Int) 8 (wrap64 ((i:Int)+1)) else Yn.l0 k l (f:Int) (t:Int) 8 (wrap64 ((i:Int)+1))) else Yn.l0 k l (f:Int) (t:Int) 8 (wrap64 ((i:Int)+1)))=some ((f':Int),(t':Int))∧
   (if wrap64 ((j:Int) - (i:Int)) > (long:Int) then Yl.l0 k' (i:Int) (wrap64 ((j:Int) - (i:Int))) (wrap64 ((i:Int)+1)) a b else Yl.l0 k' at_ (long:Int) (wrap64 ((i:Int)+1)) a b)=some (at',(long':Int))∧ZR f' t' at' long':=by
 have hft:f≤t∧t≤8:=by rcases z with⟨h1,h2,_,_⟩|⟨h1,h2,_,_⟩<;>omega
 rw[zKe (n:=(j:Int) - i) (by omega) (by omega),zKe (n:=(t:Int) - f) (by omega) (by omega),zKe (n:=(i:Int)+1) (by omega) (by omega),show((i:Int)+1)=((i+1:Nat):Int) by omega]
 by_cases h:2≤j - i∧t - f < j - i
 ·rw[xGq (by omega),xGq (by omega),xGq (by rcases z with⟨_,_,_,h4⟩|⟨_,_,_,h4⟩<;>omega),show((j:Int) - i)=((j - i:Nat):Int) by omega]
  exact out k k' i j (i:Int) (j - i) hk hk' (Or.inr ⟨by omega,hj,rfl,rfl⟩)
 ·have hr:¬ ((j:Int) - i > (long:Int)):=by rcases z with⟨h1,h2,_,h4⟩|⟨h1,_,_,h4⟩<;>omega
  rw[xGr hr]
  obtain⟨f',t',at',long',a1,a2,a3⟩:=out k k' f t at_ long hk hk' z
  refine⟨f',t',at',long',?_,a2,a3⟩
  split
  ·rw[xGr (by omega)];exact a1
  ·exact a1
theorem yW2 {a b:Int}{i K:Nat}(hi:i < 8)
  (out:∀ (k k' f t:Nat) (at_:Int) (long:Nat),K≤k→K≤k'→ZR f t at_ long→∃ (f' t':Nat) (at':Int) (long':Nat),Yn.l0 k (zDi a++zDi b) (f:Int) (t:Int) 8 ((i+1:Nat):Int)=some ((f':Int),(t':Int))∧Yl.l0 k' at_ (long:Int) ((i+1:Nat):Int) a b=some (at',(long':Int))∧ZR f' t' at' long'):
  ∀ (e j k k' f t:Nat) (at_:Int) (long:Nat),j+e=8→i≤j→K+e+1≤k→K+e+1≤k'→ZR f t at_ long→∃ (f' t':Nat) (at':Int) (long':Nat),
   Yn.l1 k (zDi a++zDi b) (f:Int) (t:Int) (i:Int) (j:Int) 8 (i:Int)=some ((f':Int),(t':Int))∧Yl.l1 k' at_ (long:Int) (i:Int) (j:Int) a b=some (at',(long':Int))∧ZR f' t' at' long':=by
 have hl:(zDi a++zDi b).length=8:=rfl
 intro e
 induction e with
 |zero=>
  intro j k k' f t at_ long hj hij hk hk' z
  obtain⟨k,rfl⟩:∃ m,k=m+1:=⟨k - 1,by omega⟩
  obtain⟨k',rfl⟩:∃ m,k'=m+1:=⟨k' - 1,by omega⟩
  have n1:¬ ((j:Int) < ((8:Nat):Int)):=by omega
  have n2:¬ ((j:Int) < 8):=by omega
  unfold Yn.l1 Yl.l1
  rw[hl,xGr n1,xGr n2]
  exact yEt hi out hij (by omega) (by omega) (by omega) z
 |succ e ih=>
  intro j k k' f t at_ long hj hij hk hk' z
  obtain⟨k,rfl⟩:∃ m,k=m+1:=⟨k - 1,by omega⟩
  obtain⟨k',rfl⟩:∃ m,k'=m+1:=⟨k' - 1,by omega⟩
  obtain⟨g,hg⟩:∃ g,g=(zDi a++zDi b).getD j 0:=⟨_,rfl⟩
  have e1:rd (zDi a++zDi b) (j:Int)=g:=by
   unfold rd
   rw[xG7,hg]
  have e2:Yy.f a b (j:Int)=some g:=by rw[hg];exact zTy a b j (by omega)
  have c1:(j:Int) < ((8:Nat):Int):=by omega
  have c2:(j:Int) < 8:=by omega
  have c3:(0:Int)≤(j:Int):=by omega
  unfold Yn.l1 Yl.l1
  rw[hl,xGq c1,xGq c3,xGq c2,e1,e2,xGp]
  by_cases h0:g=0
  ·rw[xGq h0,xGq h0,zKe (n:=(j:Int)+1) (by omega) (by omega),show((j:Int)+1)=((j+1:Nat):Int) by omega]
   exact ih (j+1) k k' f t at_ long (by omega) (by omega) (by omega) (by omega) z
  ·rw[xGr h0,xGr h0]
   exact yEt hi out hij (by omega) (by omega) (by omega) z
theorem yTh {a b:Int}:∀ (d i k k' f t:Nat) (at_:Int) (long:Nat),i+d=8→12 * d+2≤k→12 * d+2≤k'→ZR f t at_ long→∃ (f' t':Nat) (at':Int) (long':Nat),
   Yn.l0 k (zDi a++zDi b) (f:Int) (t:Int) 8 (i:Int)=some ((f':Int),(t':Int))∧Yl.l0 k' at_ (long:Int) (i:Int) a b=some (at',(long':Int))∧ZR f' t' at' long':=by
 intro d
 induction d with
 |zero=>
  intro i k k' f t at_ long hi hk hk' z
  obtain⟨k,rfl⟩:∃ m,k=m+1:=⟨k - 1,by omega⟩
  obtain⟨k',rfl⟩:∃ m,k'=m+1:=⟨k' - 1,by omega⟩
  unfold Yn.l0 Yl.l0
  rw[xGr (by omega),xGr (by omega)]
  exact⟨f,t,at_,long,rfl,rfl,z⟩
 |succ d ih=>
  intro i k k' f t at_ long hi hk hk' z
  obtain⟨k,rfl⟩:∃ m,k=m+1:=⟨k - 1,by omega⟩
  obtain⟨k',rfl⟩:∃ m,k'=m+1:=⟨k' - 1,by omega⟩
  have c:(i:Int) < 8:=by omega
  unfold Yn.l0 Yl.l0
  rw[xGq c,xGq c]
  exact yW2 (K:=12 * d+2) (by omega) (fun k k' f t at_ long hk hk' z=>ih (i+1) k k' f t at_ long (by omega) hk hk' z) (d+1) i k k' f t at_ long (by omega) (xGv _) (by omega) (by omega) z
theorem yIg (a b:Int){k:Nat}(hk:98≤k):∃ (f t:Nat) (at_:Int) (long:Nat),zGu (zDi a++zDi b) ()=some ((f:Int),(t:Int))∧Yl.f k a b=some (at_,(long:Int))∧ZR f t at_ long:=by
 unfold zGu Yn.f Yl.f
 rw[xGq (by show 8≤8;decide),show(((zDi a++zDi b).length:Nat):Int)=8 from rfl]
 exact yTh 8 0 300 k 0 0 (-1) 1 (by decide) (by decide) (by omega) (Or.inl ⟨rfl,rfl,rfl,rfl⟩)
def zPv (s:List UInt8):List UInt8:=if s=[]∨s.getLast?=some 58 then[] else[58]
theorem zNw (s t:List UInt8):mkB s++mkB t=mkB (s++t):=by
 refine zTu ?_
 simp[mkB]
theorem zTz (n:Nat)(h:n < 65536)(s:List UInt8):zPv (s++Txt.hexT n)=[58]:=by
 unfold zPv
 have hne:=Txt.hexT_ne n
 have hno:(58:UInt8)∉Txt.hexT n:=Txt.hexT_sgn h (by decide)
 refine xGr (fun q=>?_)
 rcases q with q|q
 ·exact hne (List.append_eq_nil_iff.1 q).2
 ·cases e:(Txt.hexT n).getLast? with
  |none=>exact hne (List.getLast?_eq_none_iff.1 e)
  |some x=>
   rw[List.getLast?_append,e] at q
   have hx:x=58:=by simpa using q
   rw[hx] at e
   exact hno (List.mem_of_getLast? e)
theorem yJ0 {s:List UInt8}(h:s≠[])(hl:s.length≤200):(bt (mkB s) (((s.length - 1:Nat)):Int) != 58)=decide (zPv s=[58]):=by
 have hlt:s.length - 1 < s.length:=by cases s with|nil=>exact absurd rfl h|cons a t=>simp
 have hx:=xGz hlt
 have hb:=zJk (s:=mkB s) (i:=s.length - 1) (x:=s[s.length - 1]) (by show(List.toArray s).toList[s.length - 1]?=_;simp)
 have hg:s.getLast?=some s[s.length - 1]:=by rw[List.getLast?_eq_getElem?];exact hx
 rw[hb]
 unfold zPv
 rw[hg]
 by_cases q:s[s.length - 1]=58
 ·rw[q,xGq (Or.inr rfl)];rfl
 ·rw[xGr (fun p=>by rcases p with p|p;exact h p;exact q (xHc p))]
  rw[show decide (([58]:List UInt8)=[58])=true from rfl]
  exact bne_iff_ne.2 (fun p=>q ((u58 _).1 p))
theorem zT0 {V a b at_ long:Int}{ns:List Nat}(hg:∀ i:Nat,i < 8→Yy.f a b (i:Int)=some ((ns.getD i 0:Nat):Int))(hn:∀ n∈ns,n < 65536)(hl8:ns.length=8):
  ∀ (d i k:Nat) (s:List UInt8),i+d=8→(∀ j:Nat,i≤j→j < 8→(j:Int)≠at_)→2 * d+10≤k→s.length+6 * d≤100→
  Yb.l0 k at_ long (mkB s) (i:Int) V a b=some (mkB (s++(if d=0 then[] else zPv s++Lib.join ((ns.drop i).map Txt.hexT) [58]))):=by
 intro d
 induction d with
 |zero=>
  intro i k s hi ha hk hs
  obtain⟨k,rfl⟩:∃ m,k=m+1:=⟨k - 1,by omega⟩
  rw[Yb.l0,xGr (by omega),xGq rfl,xI3]
 |succ d ih=>
  intro i k s hi ha hk hs
  obtain⟨k,rfl⟩:∃ m,k=m+2:=⟨k - 2,by omega⟩
  have hlt:i < ns.length:=by omega
  have hgd:ns.getD i 0=ns[i]:=by rw[xGw,xGz hlt];rfl
  have hni:=hn _ (xH3 hlt)
  have hd:ns.drop i=ns[i]::ns.drop (i+1):=xHk hlt
  have eg:=hg i (by omega)
  rw[hgd] at eg
  have eh:∀ m,5≤m→Yt.f m ((ns[i]:Nat):Int)=some (mkB (Txt.hexT ns[i])):=fun m hm=>zXq hni hm
  have hlen:=(Txt.hexT_len ns[i]).2
  have next:∀ s':List UInt8,s'.length≤s.length+1→Yb.l0 k at_ long (mkB (s'++Txt.hexT ns[i])) ((i+1:Nat):Int) V a b=some (mkB (s'++Lib.join ((ns.drop i).map Txt.hexT) [58])):=by
   intro s' hs'
   rw[ih (i+1) k (s'++Txt.hexT ns[i]) (by omega) (fun j h1 h2=>ha j (by omega) h2) (by omega) (by rw[xG8];omega),zTz _ hni,hd]
   congr 2
   cases e:ns.drop (i+1) with
   |nil=>
    have hd0:d=0:=by
     have:=congrArg List.length e
     rw[xHt,xHa] at this
     omega
    rw[xGq hd0,xHx,xJa]
    simp[Lib.join]
   |cons m r=>
    have hd0:d≠0:=by
     have:=congrArg List.length e
     rw[xHt,xG4] at this
     omega
    simp only[xGr hd0,xHx]
    rw[Txt.join_more]
    simp
  have ej:∀ c:Bool,c=decide (zPv s=[58])→Yb.j1 (k+1) at_ long (mkB s) (i:Int) c V a b=some (mkB (s++(zPv s++Lib.join ((ns.drop i).map Txt.hexT) [58]))):=by
   intro c hc
   have hcol:(⟨#[58]⟩:ByteArray)=mkB [58]:=rfl
   rw[Yb.j1]
   simp only[eg,eh k (by omega),xGp]
   rw[zKe (by omega) (by omega),show((i:Int)+1)=((i+1:Nat):Int) by omega,hcol,zNw,zNw,zNw]
   by_cases hsep:zPv s=[58]
   ·rw[hc,xGx hsep,xGq rfl,xGq (by rw[zDp];omega),xGq (by rw[zDp,zDp,xG8,xHv];omega),hsep,next (s++[58]) (by rw[xG8,xHv];omega)]
    rw[xIa]
   ·have hs0:zPv s=[]:=by
     unfold zPv at hsep ⊢
     split
     ·rfl
     ·rename_i q
      rw[xGr q] at hsep
      exact absurd rfl hsep
    rw[hc,xG1 hsep,xGr (by decide),xGq (by rw[zDp,zDp];omega),hs0,next s (by omega),xH4]
  rw[Yb.l0,xGq (by omega),xGr (ha i (xGv _) (by omega)),zRl,zDp,xGr (show ¬ d+1=0 by omega)]
  by_cases h0:s=[]
  ·rw[xGq h0]
   refine ej false ?_
   rw[h0];rfl
  ·have h1:1≤s.length:=by cases s with|nil=>exact absurd rfl h0|cons x t=>simp
   rw[xGr h0,zKe (by omega) (by omega),show((s.length:Int) - 1)=((s.length - 1:Nat):Int) by omega,xGq (by omega),xGq (by omega)]
   exact ej _ (yJ0 h0 (by omega))
theorem yEu {V a b at_ long:Int}{n i k:Nat}{s:List UInt8}(eg:Yy.f a b (i:Int)=some (n:Int))(hni:n < 65536)(hi:i < 8)(ha:(i:Int)≠at_)(hk:5≤k)(hs:s.length≤100){R:List UInt8→List UInt8}
  (next:∀ s':List UInt8,s'.length≤s.length+1→Yb.l0 k at_ long (mkB (s'++Txt.hexT n)) ((i+1:Nat):Int) V a b=some (mkB (R s'))):
  Yb.l0 (k+2) at_ long (mkB s) (i:Int) V a b=some (mkB (R (s++zPv s))):=by
 have eh:Yt.f k (n:Int)=some (mkB (Txt.hexT n)):=zXq hni hk
 have hlen:=(Txt.hexT_len n).2
 have ej:∀ c:Bool,c=decide (zPv s=[58])→Yb.j1 (k+1) at_ long (mkB s) (i:Int) c V a b=some (mkB (R (s++zPv s))):=by
  intro c hc
  have hcol:(⟨#[58]⟩:ByteArray)=mkB [58]:=rfl
  rw[Yb.j1]
  simp only[eg,eh,xGp]
  rw[zKe (by omega) (by omega),show((i:Int)+1)=((i+1:Nat):Int) by omega,hcol,zNw,zNw,zNw]
  by_cases hsep:zPv s=[58]
  ·rw[hc,xGx hsep,xGq rfl,xGq (by rw[zDp];omega),xGq (by rw[zDp,zDp,xG8,xHv];omega),hsep,next (s++[58]) (by rw[xG8,xHv];omega)]
  ·have hs0:zPv s=[]:=by
    unfold zPv at hsep ⊢
    split
    ·rfl
    ·rename_i q
     rw[xGr q] at hsep
     exact absurd rfl hsep
   rw[hc,xG1 hsep,xGr (by decide),xGq (by rw[zDp,zDp];omega),hs0,next s (by omega),xI3]
 rw[Yb.l0,xGq (by omega),xGr ha,zRl,zDp]
 by_cases h0:s=[]
 ·rw[xGq h0]
  refine ej false ?_
  rw[h0];rfl
 ·have h1:1≤s.length:=by cases s with|nil=>exact absurd rfl h0|cons x t=>simp
  rw[xGr h0,zKe (by omega) (by omega),show((s.length:Int) - 1)=((s.length - 1:Nat):Int) by omega,xGq (by omega),xGq (by omega)]
  exact ej _ (yJ0 h0 (by omega))
theorem yPv (s:List UInt8):zPv (s++[58,58])=[]:=by
 unfold zPv
 refine xGq (Or.inr ?_)
 rw[List.getLast?_append]
 rfl
theorem yEv {V a b:Int}{ns:List Nat}(hg:∀ i:Nat,i < 8→Yy.f a b (i:Int)=some ((ns.getD i 0:Nat):Int))(hn:∀ n∈ns,n < 65536)(hl8:ns.length=8){f t:Nat}(hft:f+2≤t)(ht:t≤8):
  ∀ (d i k:Nat) (s:List UInt8),i+d=f→2 * d+40≤k→s.length+6 * d≤40→
  Yb.l0 k (f:Int) ((t - f:Nat):Int) (mkB s) (i:Int) V a b=some (mkB (s++((if d=0 then[] else zPv s++Lib.join (((ns.take f).drop i).map Txt.hexT) [58])++([58,58]++Lib.join ((ns.drop t).map Txt.hexT) [58])))):=by
 intro d
 induction d with
 |zero=>
  intro i k s hi hk hs
  obtain⟨k,rfl⟩:∃ m,k=m+1:=⟨k - 1,by omega⟩
  have hif:i=f:=by omega
  subst hif
  have hcol:(⟨#[58,58]⟩:ByteArray)=mkB [58,58]:=rfl
  rw[Yb.l0,xGq (by omega),xGq rfl,xGq (by rw[zDp];omega),hcol,zNw,zKe (n:=(i:Int)+((t - i:Nat):Int)) (by omega) (by omega),zKe (n:=(i:Int)+((t - i:Nat):Int) - 1) (by omega) (by omega),zKe (by omega) (by omega),
   show((i:Int)+((t - i:Nat):Int) - 1+1)=(t:Int) by omega,zT0 hg hn hl8 (8 - t) t k (s++[58,58]) (by omega) (fun j h1 _=>by omega) (by omega) (by rw[xG8];simp;omega),yPv,xGq rfl]
  congr 2
  by_cases h8:t=8
  ·rw[xGq (by omega),show ns.drop t=[] from xHj (by omega)]
   simp[Lib.join]
  ·rw[xGr (by omega)]
   simp
 |succ d ih=>
  intro i k s hi hk hs
  obtain⟨k,rfl⟩:∃ m,k=m+2:=⟨k - 2,by omega⟩
  have hlt:i < ns.length:=by omega
  have hgd:ns.getD i 0=ns[i]:=by rw[xGw,xGz hlt];rfl
  have hni:=hn _ (xH3 hlt)
  have hlt2:i < (ns.take f).length:=by rw[xHn];omega
  have hd:(ns.take f).drop i=ns[i]::(ns.take f).drop (i+1):=by
   rw[xHk hlt2,List.getElem_take]
  have eg:=hg i (by omega)
  rw[hgd] at eg
  have hlen:=(Txt.hexT_len ns[i]).2
  refine(yEu eg hni (by omega) (by omega) (by omega) (by omega) (R:=fun s'=>s'++(Lib.join (((ns.take f).drop i).map Txt.hexT) [58]++([58,58]++Lib.join ((ns.drop t).map Txt.hexT) [58]))) fun s' hs'=>?_).trans ?_
  ·rw[ih (i+1) k (s'++Txt.hexT ns[i]) (by omega) (by omega) (by rw[xG8];omega),zTz _ hni,hd]
   congr 2
   cases e:(ns.take f).drop (i+1) with
   |nil=>
    have hd0:d=0:=by
     have:=congrArg List.length e
     rw[xHt,xHn,xHa] at this
     omega
    rw[xGq hd0,xHx,xJa]
    simp[Lib.join]
   |cons m r=>
    have hd0:d≠0:=by
     have:=congrArg List.length e
     rw[xHt,xHn,xG4] at this
     omega
    simp only[xGr hd0,xHx]
    rw[Txt.join_more]
    simp
  ·rw[xGr (show ¬ d+1=0 by omega)]
   simp
end Go.Proofs.YtfnacgojmdbjmaaGreatDoor
namespace Go.Proofs.YtfnacgojmdbjmaaGreatDoor
open Go.Det Go.RowKit Go.Proofs.ZW PPPT PPH PRD
theorem yEw {h l:Nat}(hh:h < 18446744073709551616)(hl:l < 18446744073709551616){k:Nat}(hk:300≤k):∃ s,prF 6 (h:Int) (l:Int)=some s∧PPPT.Yb.f k 6 (h:Int) (l:Int)=some s:=by
 obtain⟨ns,hns⟩:∃ ns,ns=[h / 281474976710656 % 65536,h / 4294967296 % 65536,h / 65536 % 65536,h % 65536,l / 281474976710656 % 65536,l / 4294967296 % 65536,l / 65536 % 65536,l % 65536]:=⟨_,rfl⟩
 have G:G8 ns:=by
  subst hns
  refine⟨rfl,fun n hn=>?_⟩
  simp only[xG6,xHh,or_false] at hn
  rcases hn with rfl|rfl|rfl|rfl|rfl|rfl|rfl|rfl<;>omega
 have hg:grp (h:Int) (l:Int)=zDn ns:=by
  unfold grp zDn
  rw[zRh hh,zRh hl,hns]
  simp only[xHx,xJa,xIs,xH4]
 have hpr:∀ s,((zGu (zDn ns) ()).bind fun ij=>pr6 (zDn ns) ij)=some s→prF 6 (h:Int) (l:Int)=some s:=by
  intro s hs
  unfold prF okF
  rw[xGq rfl,xGp,xGq rfl,xGr (by decide),hg]
  exact hs
 have hgr:∀ i:Nat,i < 8→Yy.f (h:Int) (l:Int) (i:Int)=some ((ns.getD i 0:Nat):Int):=by
  intro i hi
  rw[zTy _ _ i hi,show zDi (h:Int)++zDi (l:Int)=zDn ns from hg]
  unfold zDn
  rw[xGw,xIe,xGw,xGz (by rw[G.len];exact hi)]
  rfl
 obtain⟨f,t,hz,hm,hP⟩:=zXg (l:=zDn ns) (by rw[zJi,G.len])
 obtain⟨f',t',at_,long,z1,z2,z3⟩:=yIg (h:Int) (l:Int) (k:=k) (by omega)
 rw[show zDi (h:Int)++zDi (l:Int)=zDn ns from hg,hz] at z1
 have hf:f'=f:=by have:=congrArg Prod.fst (xHc z1);simp only at this;omega
 have ht':t'=t:=by have:=congrArg Prod.snd (xHc z1);simp only at this;omega
 subst hf
 subst ht'
 have eok:PPPT.Ym.f 6 (h:Int) (l:Int)=some true:=by
  unfold PPPT.Ym.f PRD.Ym.f
  rw[xGq rfl]
 have hsep:zPv []=[]:=xGq (Or.inl rfl)
 have emp:(⟨#[]⟩:ByteArray)=mkB []:=rfl
 unfold PPPT.Yb.f
 rw[eok,xGp,xGq rfl,xGr (by decide),z2,xGp,emp]
 rcases z3 with⟨rfl,rfl,rfl,rfl⟩|⟨hft,ht,rfl,rfl⟩
 ·have htx:=zKd G.lt (by rw[G.len];omega)
  have hlp:=zT0 (V:=6) (at_:=-1) (long:=((1:Nat):Int)) hgr G.lt G.len 8 0 k [] (by decide) (fun j _ _=>by omega) (by omega) (by decide)
  rw[xGr (by decide),hsep,xIm,xH4,xH4,show((0:Nat):Int)=0 from rfl] at hlp
  refine⟨_,hpr _ ?_,hlp⟩
  rw[hz,xGp]
  unfold pr6
  rw[xGq (show((((0:Nat):Int),((0:Nat):Int)):Int×Int)=(0,0) from rfl)]
  exact htx
 ·have lf:(ns.take f').length≤8:=by rw[xHn,G.len];omega
  have lt:(ns.drop t').length≤8:=by rw[xHt,G.len];omega
  have gf:∀ n∈ns.take f',n < 65536:=fun n hn=>G.lt n (List.mem_of_mem_take hn)
  have gt:∀ n∈ns.drop t',n < 65536:=fun n hn=>G.lt n (List.mem_of_mem_drop hn)
  have l1:=zB4 lf
  have l2:=zB4 lt
  have t1:=zKd gf lf
  have t2:=zKd gt lt
  have hlp:=yEv (V:=6) hgr G.lt G.len hft ht f' 0 k [] (by omega) (by omega) (by simp;omega)
  rw[hsep,xIm,xH4,xH4,show((0:Nat):Int)=0 from rfl] at hlp
  refine⟨_,hpr _ ?_,hlp⟩
  rw[hz,xGp]
  unfold pr6
  rw[xGr (by intro e;have:=congrArg Prod.snd e;simp only at this;omega),xGq hm]
  simp only[xG7]
  have e1:(zDn ns).take f'=(ns.take f').map fun(n:Nat)=>(n:Int):=(List.map_take ..).symm
  have e2:(zDn ns).drop t'=(ns.drop t').map fun(n:Nat)=>(n:Int):=(List.map_drop ..).symm
  rw[e1,e2,t1,xGp,t2,xGp,xGq (by rw[zFl,zFl];omega),yJv]
  refine congrArg some (zTu ?_)
  by_cases h0:f'=0
  ·subst h0
   simp[mkB,Lib.join]
  ·rw[xGr h0]
   simp[mkB]
theorem zJq:∀ n:Fin 256,(zD1 n.val).size≤3:=by decide +kernel
theorem zRm {n k:Nat}(h:n < 256)(hk:6≤k):Yh.f k (n:Int)=some (zD1 n):=
 zPr (f:=fun k=>Yh.f k (n:Int)) (fun k=>Yh.mono (n:Int) k) (by rw[← yD6 h];exact yIe h) k hk
theorem yEx {q:Nat}(hq:q < 4294967296){k:Nat}(hk:6≤k):∃ s,prF 4 0 (q:Int)=some ⟨⟨s⟩⟩∧PPPT.Yb.f k 4 0 (q:Int)=some ⟨⟨s⟩⟩:=by
 have hp:prF 4 0 (q:Int)=some ⟨⟨zZs (q / 16777216 % 256) (q / 65536 % 256) (q / 256 % 256) (q % 256)⟩⟩:=by
  have b0:=zHh (q:=q) (by omega) 24 (by omega)
  have b1:=zHh (q:=q) (by omega) 16 (by omega)
  have b2:=zHh (q:=q) (by omega) 8 (by omega)
  have b3:=zHh (q:=q) (by omega) 0 (by omega)
  have e0:q / 2 ^ 24 % 256=q / 16777216 % 256:=rfl
  have e1:q / 2 ^ 16 % 256=q / 65536 % 256:=rfl
  have e2:q / 2 ^ 8 % 256=q / 256 % 256:=rfl
  have e3:q / 2 ^ 0 % 256=q % 256:=by rw[Nat.pow_zero,Nat.div_one]
  rw[e0] at b0
  rw[e1] at b1
  rw[e2] at b2
  rw[e3] at b3
  have hj:=zTt (q / 16777216 % 256) (q / 65536 % 256) (q / 256 % 256) (q % 256)
  unfold prF okF
  rw[xGr (by decide),xGq rfl,xGq rfl,xGp,xGq (by rw[xIj];omega),xGq rfl]
  unfold pr4
  have b0':zNj (andI .u64 (shrI .u64 (q:Int) 24) 255)=_:=b0
  have b1':zNj (andI .u64 (shrI .u64 (q:Int) 16) 255)=_:=b1
  have b2':zNj (andI .u64 (shrI .u64 (q:Int) 8) 255)=_:=b2
  have b3':zNj (andI .u64 (shrI .u64 (q:Int) 0) 255)=_:=b3
  rw[b0',xGp,b1',xGp,b2',xGp,b3',xGp,hj]
 refine⟨_,hp,?_⟩
 have d0:((q:Int) / 16777216)=((q / 16777216 % 256:Nat):Int):=by omega
 have low:∀ x:Nat,x < 18446744073709551616→Go.bits .and .u64 (x:Int) 255=((x % 256:Nat):Int):=fun x hx=>zIj (k:=x) hx 8 (by decide)
 have d1:Go.bits .and .u64 ((q:Int) / 65536) 255=((q / 65536 % 256:Nat):Int):=by rw[show((q:Int) / 65536)=((q / 65536:Nat):Int) by omega];exact low _ (by omega)
 have d2:Go.bits .and .u64 ((q:Int) / 256) 255=((q / 256 % 256:Nat):Int):=by rw[show((q:Int) / 256)=((q / 256:Nat):Int) by omega];exact low _ (by omega)
 have d3:Go.bits .and .u64 (q:Int) 255=((q % 256:Nat):Int):=low _ (by omega)
 have s0:=zJq ⟨q / 16777216 % 256,by omega⟩
 have s1:=zJq ⟨q / 65536 % 256,by omega⟩
 have s2:=zJq ⟨q / 256 % 256,by omega⟩
 have s3:=zJq ⟨q % 256,by omega⟩
 have t0:=zRm (n:=q / 16777216 % 256) (by omega) hk
 have t1:=zRm (n:=q / 65536 % 256) (by omega) hk
 have t2:=zRm (n:=q / 256 % 256) (by omega) hk
 have t3:=zRm (n:=q % 256) (by omega) hk
 have eok:PPPT.Ym.f 4 0 (q:Int)=some true:=by
  unfold PPPT.Ym.f PRD.Ym.f
  rw[xGr (by decide),xGq rfl,xGq rfl,xGx (by omega)]
 simp only at s0 s1 s2 s3
 unfold PPPT.Yb.f
 rw[eok,xGp,xGq rfl,xGq rfl,d0,d1,d2,d3,t0,t1,t2,t3]
 simp only[xGp]
 have one:(⟨#[46]⟩:ByteArray).size=1:=rfl
 rw[xGq (by omega),xGq (by simp only[xHi];omega),xGq (by simp only[xHi];omega),xGq (by simp only[xHi];omega),
  xGq (by simp only[xHi];omega),xGq (by simp only[xHi];omega)]
 refine congrArg some (zTu ?_)
 simp[zZs,Lib.join,zD1]
theorem zLn {V:Int}{B q:Nat}(hk:Kd' V B)(hq:q < 2 ^ B){k:Nat}(h3:300≤k):∃ s,PT s∧prF V (H q) (L q)=some ⟨⟨s⟩⟩∧PPPT.Yb.f k V (H q) (L q)=some ⟨⟨s⟩⟩:=by
 have hM:M64=18446744073709551616:=rfl
 rcases hk with⟨rfl,rfl⟩|⟨rfl,rfl⟩
 ·have hq':q < 4294967296:=hq
  have e1:H q=0:=by unfold H;rw[hM];omega
  have e2:L q=(q:Int):=by unfold L;rw[hM];omega
  rw[e1,e2]
  obtain⟨s,hs,p1,_⟩:=yWi hq'
  obtain⟨t,p2,p3⟩:=yEx hq' (k:=k) (by omega)
  rw[p1] at p2
  cases p2
  exact⟨s,hs,p1,p3⟩
 ·have h1:q / M64 < 18446744073709551616:=by rw[hM];omega
  have h2:q % M64 < 18446744073709551616:=by rw[hM];omega
  obtain⟨s,hs,p1,_⟩:=yWj h1 h2
  obtain⟨t,p2,p3⟩:=yEw h1 h2 h3
  rw[p1] at p2
  cases p2
  exact⟨s,hs,p1,p3⟩
end Go.Proofs.YtfnacgojmdbjmaaGreatDoor
namespace Go.Proofs.YtfnacgojmdbjmaaGreatDoor
open Go.Det Go.RowKit Go.Proofs.ZW PPPT
open PRD (w64 Kd' H L)
theorem yPw (m:Int)(c:Nat)(hc:c≤255):∃ b:Nat,b≤c∧Go.bits .and .i64 m (c:Int)=(b:Int):=by
 have hb:(BitVec.ofInt 64 m &&& BitVec.ofInt 64 (c:Int)).toNat≤c:=by
  rw[BitVec.toNat_and]
  have:(BitVec.ofInt 64 (c:Int)).toNat=c:=by
   rw[BitVec.toNat_ofInt];omega
  rw[this]
  exact Nat.and_le_right
 refine⟨(BitVec.ofInt 64 m &&& BitVec.ofInt 64 (c:Int)).toNat,hb,?_⟩
 have hw:=wrap_i64 (x:=((BitVec.ofInt 64 m &&& BitVec.ofInt 64 (c:Int)).toNat:Int)) ⟨by omega,by omega⟩
 exact hw
theorem zRn (a b:Nat):Int.tmod (a:Int) (b:Int)=((a % b:Nat):Int):=rfl
theorem yPx {xs:List ByteArray}(h:∀ p∈xs,p.size≤8)(i:Int):(zCl ByteArray.empty xs i).size≤8:=by
 unfold zCl
 rw[xGw]
 cases e:xs[i.toNat]? with
 |none=>exact xIc _
 |some p=>exact h p (xI2 e)
theorem yEy {v:Int}{l:List Int}{xs:List ByteArray}(h16:xs.length=16)(h8:∀ p∈xs,p.size≤8){i k:Nat}(hil:i < l.length)(hi:i < 100){s:ByteArray}(hs:s.size≤300){B:Nat}
  (next:∀ t:ByteArray,t.size≤s.size+8→∃ r,Yf.l0 k v l t xs ((i+1:Nat):Int)=some r∧r.size≤B) (n:Nat) (hn:n≤s.size):
  ∃ r,Yf.j2 (k+1) v l s xs (i:Int) (n:Int)=some r∧r.size≤B:=by
 obtain⟨b,hb,eb⟩:=yPw (rd l (i:Int)) 255 (by decide)
 obtain⟨c,hc,ec⟩:=yPw ((rd l (i:Int)) / 65536) 1 (by decide)
 have eb':Go.bits .and .i64 (rd l (i:Int)) 255=(b:Int):=eb
 have ec':Go.bits .and .i64 ((rd l (i:Int)) / 65536) 1=(c:Int):=ec
 obtain⟨m,hm⟩:∃ m:Nat,m=s.size - n:=⟨_,rfl⟩
 have hd:c % (m+1)≤m:=by have:=Nat.mod_lt c (show 0 < m+1 by omega);omega
 unfold Yf.j2
 rw[eb',ec',h16,w64 (n:=(s.size:Int) - n) (by omega) (by omega),show((s.size:Int) - n)=(m:Int) by omega,w64 (n:=(m:Int)+1) (by omega) (by omega),show((m:Int)+1)=((m+1:Nat):Int) by omega,
  zRn,zRn,w64 (n:=(n:Int)+((c % (m+1):Nat):Int)) (by omega) (by omega),w64 (n:=(i:Int)+1) (by omega) (by omega),show((i:Int)+1)=((i+1:Nat):Int) by omega]
 have hr:=yPx h8 ((b % 16:Nat):Int)
 have e1:(s.extract 0 ((n:Int).toNat)).size≤n:=by rw[xI5];omega
 have e2:(s.extract ((n:Int)+((c % (m+1):Nat):Int)).toNat s.size).size≤s.size - n:=by rw[xI5];omega
 rw[xGq (by omega),xGq (by omega),xGq (by omega),xGq (by omega),xGr (by omega),xGq (by omega),xGq (by omega),xGq (by omega),xGr (by omega),xGq (by omega),xGq (by omega),xGq (by rw[xHi];omega)]
 exact next _ (by rw[xHi,xHi];omega)
theorem yW3 {v:Int}{l:List Int}{xs:List ByteArray}(h16:xs.length=16)(h8:∀ p∈xs,p.size≤8):∀ (d i k:Nat) (s:ByteArray),i+d=12→3 * d+5≤k→s.size+8 * d≤196→
  ∃ r,Yf.l0 k v l s xs (i:Int)=some r∧r.size≤s.size+8 * d:=by
 intro d
 induction d with
 |zero=>
  intro i k s hi hk hs
  obtain⟨k,rfl⟩:∃ m,k=m+2:=⟨k - 2,by omega⟩
  unfold Yf.l0
  rw[xG1 (by omega)]
  split
  ·unfold Yf.j1
   rw[xGr (by decide)]
   exact⟨_,rfl,by omega⟩
  ·unfold Yf.j1
   rw[xGr (by decide)]
   exact⟨_,rfl,by omega⟩
 |succ d ih=>
  intro i k s hi hk hs
  obtain⟨k,rfl⟩:∃ m,k=m+3:=⟨k - 3,by omega⟩
  unfold Yf.l0
  split
  ·rename_i hlt
   have hil:i < l.length:=by omega
   have next:∀ t:ByteArray,t.size≤s.size+8→∃ r,Yf.l0 k v l t xs ((i+1:Nat):Int)=some r∧r.size≤s.size+8 * (d+1):=by
    intro t ht
    obtain⟨r,hr,hl⟩:=ih (i+1) k t (by omega) (by omega) (by omega)
    exact⟨r,hr,by omega⟩
   unfold Yf.j1
   rw[xGx (by omega),xGq rfl,xGq (by omega),xGq (by omega),w64 (n:=(s.size:Int)+1) (by omega) (by omega),xGr (by omega)]
   split
   ·exact yEy h16 h8 hil (by omega) (by omega) next s.size (xGv _)
   ·obtain⟨b,hb,eb⟩:=yPw ((rd l (i:Int)) / 256) 255 (by decide)
    have eb':Go.bits .and .i64 ((rd l (i:Int)) / 256) 255=(b:Int):=eb
    rw[eb',show((s.size:Int)+1)=((s.size+1:Nat):Int) by omega,zRn]
    exact yEy h16 h8 hil (by omega) (by omega) next (b % (s.size+1)) (by have:=Nat.mod_lt b (show 0 < s.size+1 by omega);omega)
  ·unfold Yf.j1
   rw[xGr (by decide)]
   exact⟨_,rfl,by omega⟩
theorem yIh {v a b:Int}{l:List Int}(ha:0≤a)(ha2:a < 18446744073709551616)(hb:0≤b)(hb2:b < 18446744073709551616):∃ r,Yf.f 300 v a b l=some r∧r.size≤196:=by
 obtain⟨V,B,q,h,hq,e⟩:=PRD.YE0 (k:=300) (by decide) v a b ha ha2 hb hb2
 have e':PPPT.Ye.f v a b=some (V,H q,L q):=e
 obtain⟨s,hs,_,hp⟩:=zLn h hq (k:=300) (xGv _)
 have hl:=hs.len
 have hz:(⟨⟨s⟩⟩:ByteArray).size=s.length:=by show(List.toArray s).size=_;rw[xIv]
 unfold Yf.f
 rw[e',xGp,hp,xGp]
 refine Exists.elim (yW3 (v:=v) (l:=l) (xs:=_) (by rfl) (by decide) 12 0 300 ⟨⟨s⟩⟩ (by decide) (by decide) (by omega)) fun r hr=>⟨r,hr.1,by omega⟩
end Go.Proofs.YtfnacgojmdbjmaaGreatDoor
namespace Go.Det
variable {P:Program}
def zZw (n:Nat)(cs:List Value):Option ByteArray:=match zEm n cs with
 |some r=>(match zIp r with|some bs=>some ⟨bs.toArray⟩|none=>none)
 |none=>none
def yW4 (P:Program):OpX:=fun o l s K=>match o.op with
 |.convert src dst x=>(match Nat.beq src dst with
  |false=>(match typ P src with
   |some (.slice e)=>(match typ P dst with
    |some .string=>(match typ P e with
     |some (.int .u8)=>(match evalO l x with
      |.slice (some ⟨60,0,none⟩) n _=>(match s.h.get 60 with
       |some (.cells cs _ _)=>∃ t:ByteArray,zZw n cs=some t∧K (.string t) (s.read 60)
       |_=>False)
      |_=>False)
     |_=>False)
    |_=>False)
   |_=>False)
  |true=>False)
 |_=>False
theorem yPy {cw:Cw}{o:Oper}{l:zAv}{s:St}{K:KV}(h:yW4 P o l s K):opW P cw o l s K:=by
 unfold yW4 at h
 split at h
 case h_2=>exact h.elim
 rename_i src dst x ho
 split at h
 case h_2=>exact h.elim
 rename_i hne
 split at h
 case h_2=>exact h.elim
 rename_i e h1
 split at h
 case h_2=>exact h.elim
 rename_i h2
 split at h
 case h_2=>exact h.elim
 rename_i h3
 split at h
 case h_2=>exact h.elim
 rename_i n c h4
 split at h
 case h_2=>exact h.elim
 rename_i cs el ro h5
 obtain⟨t,ht,hk⟩:=h
 unfold zZw at ht
 split at ht
 case h_2=>cases ht
 rename_i r hr
 split at ht
 case h_2=>cases ht
 rename_i bs hbs
 cases ht
 unfold opW
 rw[ho]
 show zZ0 (opD P zU7 o l s) K
 have e:opD P zU7 o l s=zCf P s src dst (evalO l x):=by
  unfold opD
  rw[ho]
  rfl
 rw[e,h4]
 unfold zCf
 simp only[hne]
 unfold zEp
 rw[h1,h2]
 simp only[h3,h5]
 have e0:zFo 0 cs=cs:=rfl
 rw[e0]
 simp only[hr,hbs]
 exact hk
def oxR (P:Program)(c:Nat)(ds:List Nat)(n:Nat):Option OpX:=match Nat.beq c n with
 |true=>some (yW4 P)
 |false=>oxE ds n
theorem yJ1 {cw:Cw}(c:Nat)(ds:List Nat):zVb P cw (oxR P c ds):=by
 intro n X h
 unfold oxR at h
 split at h
 ·cases h;exact fun o l s K=>yPy
 ·exact zEc ds n X h
end Go.Det
namespace Go.Proofs.YtfnacgojmdbjmaaGreatDoor
open Go.Det Go.RowKit PRD Go.Proofs.ZW
def yYs:List Value→Option Unit
 |[]=>some ()
 |_=>none
def dI:Value→Option Int
 |.int .i64 n=>some n
 |_=>none
theorem yTi {v:Value}{b:Int}(h:dI v=some b):v=.int .i64 b:=by
 unfold dI at h
 split at h
 ·cases h;rfl
 ·cases h
def tOf (lv:Value)(cs:List Value):Option (List Int):=match lv with
 |.slice none 0 0=>some []
 |.float .f64 1=>some []
 |.slice (some ⟨61,0,none⟩) n c=>(match Nat.ble n c with
  |true=>(match zEm n cs with|some r=>yFx dI r|none=>none)
  |false=>none)
 |_=>none
def txG (v a b:Int)(lv:Value)(cs:List Value):Option ByteArray:=match tOf lv cs with
 |some t=>if t.length≤9223372036854775807 then PPPT.Yf.f 300 v a b t else none
 |none=>none
def yIi:List Value→Option (Int×Int×Int×Value)
 |[.int .i64 v,.int .u64 a,.int .u64 b,lv]=>some (v,a,b,lv)
 |_=>none
theorem yEz {args:List Value}{x:Int×Int×Int×Value}(h:yIi args=some x):args=[.int .i64 x.1,.int .u64 x.2.1,.int .u64 x.2.2.1,x.2.2.2]:=by
 unfold yIi at h
 split at h
 case h_2=>cases h
 cases h;rfl
def zV1 (args:List Value)(s:St):Option (Value×St):=match yIi args with
 |some x=>(match s.h.get 61 with
  |some (.cells cs _ _)=>(match txG x.1 x.2.1 x.2.2.1 x.2.2.2 cs with
   |some r=>some (.string r,s.read 61)
   |none=>none)
  |_=>none)
 |none=>none
def con12:Con where
 own:=zV1
 w:=fun args s K=>match yIi args with
  |some x=>(match s.h.get 61 with
   |some (.cells cs _ _)=>∃ r,txG x.1 x.2.1 x.2.2.1 x.2.2.2 cs=some r∧K (.string r) (s.read 61)
   |_=>False)
  |none=>False
 ok:=by
  intro args s K h
  unfold zV1
  split at h
  case h_2=>exact h.elim
  rename_i x h1
  split at h
  case h_2=>exact h.elim
  rename_i cs e ro h2
  obtain⟨r,hr,hk⟩:=h
  refine⟨.string r,s.read 61,by simp only[h1,h2,hr],hk,fun K' k=>?_⟩
  try simp only[h1,h2]
  exact⟨r,hr,k⟩
 mono:=by
  intro args s K K' k h
  split at h
  case h_2=>exact h.elim
  rename_i x h1
  split at h
  case h_2=>exact h.elim
  rename_i cs e ro h2
  obtain⟨r,hr,hk⟩:=h
  try simp only[h1,h2]
  exact⟨r,hr,k _ _ hk⟩
theorem yIj (args:List Value):Tr (zV1 args):=by
 intro s v s' h
 unfold zV1 at h
 split at h
 case h_2=>cases h
 rename_i x h1
 split at h
 case h_2=>cases h
 rename_i cs e ro hg
 split at h
 case h_2=>cases h
 rename_i r hr
 cases h
 refine⟨G1.read hg,fun u _ hbe hag _=>⟨u.read 61,?_,PW.read hbe 61⟩⟩
 have e1:u.h.get 61=some (.cells cs e ro):=(hag 61 zBx).trans hg
 unfold zV1
 simp only[h1,e1,hr]
theorem yW5 {w:World}{A:Option Addr}{l:List Int}(hl:l.length≤9223372036854775807)(h:yC5 (Value.int .i64) w A l):Kd.C (Kd.int .i64) w A l.length l:=by
 refine⟨rfl,hl,fun h0=>?_⟩
 rcases h with rfl|⟨b,o,rfl,h⟩
 ·simp at h0
 refine⟨_,rfl,fun j p hj=>⟨[.int .i64 p],rfl,rfl,fun i u hu=>?_⟩⟩
 match i,hu with
 |0,hu=>
  cases hu
  have:=h j p hj
  unfold Addr.add
  split
  ·rename_i q
   have:j=0:=by simpa [Kd.int,Kd.scalar] using q
   subst this;simpa using ‹w.cell? _=_›
  ·simpa [Kd.int,Kd.scalar] using this
 |i+1,hu=>simp at hu
theorem xGb {W:World}(hW:GoodW W):zAk Tryz.prog W 6 12 con12.own:=by
 refine⟨yIj,fun W1 k1 args s v s' ed φ w args' H _ hA _ _=>?_⟩
 change zV1 args s=some (v,s') at ed
 unfold zV1 at ed
 split at ed
 case h_2=>cases ed
 rename_i x h1
 split at ed
 case h_2=>cases ed
 rename_i cs e ro hg
 split at ed
 case h_2=>cases ed
 rename_i r hr
 cases ed
 obtain rfl:=yEz h1
 obtain⟨vv,a,b,lv⟩:=x
 unfold txG at hr
 split at hr
 case h_2=>cases hr
 rename_i t ht
 simp only at ht hr
 split at hr
 case isFalse=>cases hr
 rename_i hlen
 have kw:Later W w:=k1.trans H.later
 have hG:GoodW w:=hW.later kw.size kw.old
 obtain⟨A,c',rfl,hc,hrow⟩:∃ A c',args'=[.int .i64 vv,.int .u64 a,.int .u64 b,.slice A t.length c']∧t.length≤c'∧yC5 (Value.int .i64) w A t:=by
  obtain⟨hl,hA⟩:=hA
  match args',hl with
  |[u0,u1,u2,u3],_=>
   have e0:u0=.int .i64 vv:=by have:=hA 0;cases this;rfl
   have e1:u1=.int .u64 a:=by have:=hA 1;cases this;rfl
   have e2:u2=.int .u64 b:=by have:=hA 2;cases this;rfl
   have hv:VR φ lv u3:=hA 3
   subst e0 e1 e2
   unfold tOf at ht
   split at ht
   ·cases ht
    cases hv with
    |snil _ _ _=>exact⟨none,0,rfl,xIc _,.inl rfl⟩
   ·cases ht
    cases hv with
    |emp a c _=>exact⟨a,c,rfl,xIc _,.inl rfl⟩
   ·rename_i n c _
    split at ht
    case h_2=>cases ht
    rename_i hle
    split at ht
    case h_2=>cases ht
    rename_i rr hrr
    have hle:=xHg hle
    have hx:=zQ6 (e:=Value.int .i64) (fun v b h=>yTi h) ht
    obtain⟨q1,q2⟩:=zCd hrr
    have hn:n=t.length:=by
     have:rr.length=t.length:=by rw[hx,xHm]
     rw[← this,q1,xHn];omega
    obtain⟨b2,sh,sz,cc,rfl,hφ,hcc⟩:∃ b2 sh sz cc,u3=.slice (some ⟨b2,sh+0,none⟩) n cc∧φ 61=some (b2,sh,sz)∧n≤cc:=by
     cases hv with
     |slice _ _ b2 sh sz _ _ hφ hlt=>exact⟨b2,sh,sz,c,rfl,hφ,hle⟩
     |sliceU _ _ b2 sh sz _ cc _ hφ _ _ hle2=>exact⟨b2,sh,sz,cc,rfl,hφ,by omega⟩
    subst hn
    refine⟨_,cc,rfl,hcc,.inr ⟨b2,sh+0,rfl,fun j y hj=>?_⟩⟩
    obtain⟨b3,sh2,sz2,c2,fz,q⟩:=H.cells _ _ _ _ hg
    have:=q.at_
    rw[hφ] at this;cases this
    have hjl:j < t.length:=(xHu.1 hj).1
    have hcs:cs.getD j und=.int .i64 y:=by
     have h7:rr[j]?=some (.int .i64 y):=by rw[hx,xIe,hj];rfl
     rw[q1,xIh,xGq hjl] at h7
     rw[xGw,h7];rfl
    have hlt:j < cs.length:=by omega
    have hv:=q.cell j hlt
    rw[hcs] at hv
    have hv:=zI6 (v:=.int .i64 y) rfl hv (by intro h;cases h)
    unfold World.cell?
    rw[q.blk]
    simp only[Option.isSome_none,xHz,if_false]
    have hfit:=q.fit
    have hsz:=q.size
    rw[xHb,xIf (by omega)] at hv
    rw[show sh+0+j=sh+j by omega,xIf (by omega)]
    simpa using hv
   ·cases ht
 rw[zBg (fn:=Tryz.f12) (c:=zAa Tryz.f12) Tryz.func12 (by kernel_rfl) (by kernel_rfl)]
 refine(PPPT.Yf.calls 300 vv a b A c' t r w (yW5 hlen hrow) hc hG hr).mono ?_
 rintro z W' ⟨rfl,hB⟩
 exact⟨_,φ,rfl,Ext.refl _ _ _,VR.string _,H.keep ⟨hB.os,hB.output,hB.size,hB.block⟩ hB.tape⟩
def zRo (rc:List Value)(te:TypeId)(lc:List Value)(tf:TypeId):Heap:=zPi [(60,rc,te,true),(61,lc,tf,true)]
abbrev P4:Type:=Int×Int×Int×Int
end Go.Proofs.YtfnacgojmdbjmaaGreatDoor
namespace Go.Det
variable {P:Program}
theorem zNx {α:Type}{enc:α→List Value}{n:Nat}(hn:∀ x,(enc x).length=n):∀ r:List α,(r.flatMap enc).length=r.length * n
 |[]=>by simp
 |x::t=>by rw[List.flatMap_cons,xG8,hn,zNx hn t,xG4,Nat.succ_mul,Nat.add_comm]
def yW6 {α:Type}(P:Program)(enc:α→List Value)(sz:Nat):OpX:=fun o l s K=>match o.op with
 |.call c=>(match c.callee with
  |.builtin .append=>(match c.argTypes.toList with
   |sT::rest=>(match typ P sT with
    |some (.slice el)=>(match P.info? el with
     |some ei=>(match zF2 P rest with
      |some false=>(match zCx P el with
       |some _=>(match Nat.beq ei.size sz&&Nat.ble (1001 * ei.bytes) 1099511627776 with
        |true=>(match zEs l c.args.toList with
         |[.slice (some ⟨id,0,none⟩) n cc,.slice (some ⟨id2,0,none⟩) 1 _]=>(match s.h.get id2 with
          |some (.cells ws _ _)=>(match s.h.get id with
           |some (.cells cs e ro)=>∃ r:List α,cs=r.flatMap enc∧(n=r.length∧(r.length≤1000∧(cc=zBa+sz∧(e=2 * el∧(ro=false∧∃ y:α,ws=enc y∧
             K (.slice (some ⟨s.next,0,none⟩) (n+1) (zBa+sz)) (((s.read id2).write id .dead).new (.cells ((r++[y]).flatMap enc) (2 * el) false)))))))
           |_=>False)
          |_=>False)
         |_=>False)
        |false=>False)
       |none=>False)
      |_=>False)
     |none=>False)
    |_=>False)
   |[]=>False)
  |_=>False)
 |_=>False
theorem yPz {cw:Cw}{α:Type}{enc:α→List Value}{sz:Nat}(hn:∀ x,(enc x).length=sz)(h0:0 < sz)(h1:∀ x,zV9 (enc x)=true){o:Oper}{l:zAv}{s:St}{K:KV}(h:yW6 P enc sz o l s K):opW P cw o l s K:=by
 unfold yW6 at h
 split at h
 case h_2=>exact h.elim
 rename_i c ho
 split at h
 case h_2=>exact h.elim
 rename_i hc
 split at h
 case h_2=>exact h.elim
 rename_i sT rest hty
 split at h
 case h_2=>exact h.elim
 rename_i el ht
 split at h
 case h_2=>exact h.elim
 rename_i ei hei
 split at h
 case h_2=>exact h.elim
 rename_i hz
 split at h
 case h_2=>exact h.elim
 rename_i z hzo
 split at h
 case h_2=>exact h.elim
 rename_i hb
 split at h
 case h_2=>exact h.elim
 rename_i id n cc id2 c2 hargs
 split at h
 case h_2=>exact h.elim
 rename_i ws e2 ro2 hg2
 split at h
 case h_2=>exact h.elim
 rename_i cs e ro hg
 obtain⟨r,rfl,rfl,hr,rfl,rfl,rfl,y,rfl,hk⟩:=h
 simp only[xG0] at hb
 have hsz:ei.size=sz:=xG3 hb.1
 have hby:=xHg hb.2
 have hl:=zNx hn r
 unfold opW
 rw[ho]
 try simp only[hc]
 show zZ0 (zG2 P s c.argTypes (zEs l c.args.toList)) K
 have e0:zFo 0 (enc y)=enc y:=rfl
 have t1:zEm (1 * sz) (enc y)=some (enc y):=by
  rw[zDy (by rw[hn];omega),xIu (by rw[hn];omega)]
 have src:zBr s sz 1 (.slice (some ⟨id2,0,none⟩) 1 c2)=some (enc y,s.read id2):=by
  have b0:Nat.beq (1 * sz) 0=false:=by
   cases q:Nat.beq (1 * sz) 0 with
   |false=>rfl
   |true=>have:=xG3 q;omega
  show(if Nat.beq (1 * sz) 0 then some ([],s) else match s.h.get id2 with|some (.cells cs _ _)=>(match zEm (1 * sz) (zFo 0 cs) with|some r=>some (r,s.read id2)|none=>none)|_=>none)=_
  rw[b0,hg2]
  simp only[e0,t1]
  rfl
 have hg':(s.read id2).h.get id=some (.cells (r.flatMap enc) (2 * el) false):=hg
 have e00:zFo 0 (r.flatMap enc)=r.flatMap enc:=rfl
 have t2:zEm (r.length * sz) (r.flatMap enc)=some (r.flatMap enc):=by
  rw[zDy (by rw[hl];exact xGv _),xIu (by rw[hl];exact xGv _)]
 have b1:Nat.ble zBa (zBa+sz)=true:=xH0 (by omega)
 have b2:Nat.beq (zBa+sz) (zBa+sz)=true:=Nat.beq_refl _
 have b3:Nat.beq (2 * el) (2 * el)=true:=Nat.beq_refl _
 have b4:Nat.ble (0+(r.length+1) * sz) (r.flatMap enc).length=false:=by
  cases q:Nat.ble (0+(r.length+1) * sz) (r.flatMap enc).length with
  |false=>rfl
  |true=>
   have:=xHg q
   rw[hl,Nat.succ_mul] at this
   omega
 have to_:zN9 (s.read id2) el sz (some ⟨id,0,none⟩) r.length (zBa+sz) 1 (enc y)=some (zJu (s.read id2) id el sz (r.length+1) (r.flatMap enc) (enc y)):=by
  unfold zN9
  simp only[hg',b1,b2,b3,b4,e00,t2,Bool.not_false,Bool.and_self,if_true,xHz,if_false]
 have b5:Nat.beq 1 0=false:=rfl
 have b6:Nat.ble 1 sz=true:=xH0 h0
 have b7:Nat.ble ((r.length+1) * ei.bytes) 1099511627776=true:=xH0 (xHf (xIn _ (by omega)) hby)
 have b8:Nat.ble (r.length+1) 1099511627776=true:=xH0 (by omega)
 have go:zOa P (s.read id2) el sz ei.bytes (some ⟨id,0,none⟩) r.length (zBa+sz) 1 (enc y)=some (zJu (s.read id2) id el sz (r.length+1) (r.flatMap enc) (enc y)):=by
  unfold zOa
  simp only[b5,b6,b7,b8,h1,hzo,to_,Bool.and_self,if_true,xHz,if_false]
 have len:yF3 (.slice (some ⟨id2,0,none⟩) 1 c2)=some 1:=rfl
 unfold zG2
 simp only[hty,hargs,ht,hei,hz]
 unfold zGs
 rw[hsz]
 simp only[len,src,go]
 have e9:r.flatMap enc++enc y=(r++[y]).flatMap enc:=by rw[List.flatMap_append,List.flatMap_cons,List.flatMap_nil,xI3]
 show K _ _
 unfold zJu
 rw[e9]
 exact hk
theorem yIk (ρ:Nat→Option Nat){sl:zK4}{b:zZf}{N:Nat}{l:zAv}{s:St}(h64:64≤N)(hs:∀ x∈sl,Wk ρ x.2 (zD7 l x.1))
  (hb:∀ x∈b,64≤x.1∧x.1 < N∧∃ o cs0,ρ x.1=some o∧s.h.get o=some (.cells cs0 x.2.2.1 x.2.2.2)∧x.2.1.length=cs0.length∧∀ i,Wk ρ (x.2.1.getD i und) (cs0.getD i und))
  (hinj:∀ i j o,ρ i=some o→ρ j=some o→i=j) (hge:∀ i o,ρ i=some o→64≤o) (hN:∀ i,N≤i→ρ i=none):zDf l s (zBo sl) (zDr b N):=by
 refine zTb ρ (fun t=>?_) (fun id cs e ro q g=>?_) (fun id cs e ro q g=>?_) hinj hge (fun id es g=>?_) (fun id q=>⟨hN id q,?_⟩) h64 (xGv _)
 ·rcases zM8 sl t with e|⟨x,hx,rfl,e⟩
  ·rw[e];exact Wk.und _ _
  ·rw[e];exact hs x hx
 ·obtain⟨x,hx,rfl,e⟩:=zCn b id _ g
  have:=(hb x hx).1;omega
 ·obtain⟨x,hx,rfl,e⟩:=zCn b id _ g
  cases e
  obtain⟨_,_,o,cs0,h1,h2,h3,h4⟩:=hb x hx
  exact⟨o,cs0,h1,h2,h3,h4⟩
 ·obtain⟨x,hx,rfl,e⟩:=zCn b id _ g
  cases e
 ·cases hc:(zDr b N).h.get id with
  |none=>rfl
  |some B=>
   obtain⟨x,hx,rfl,e⟩:=zCn b id _ hc
   have:=(hb x hx).2.1
   simp only[zDr] at q
   omega
end Go.Det
end

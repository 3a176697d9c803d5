/- Texts of a proof, joined: words of the print (those that are named here) and printed functions. -/
import Derived.Test.YtfnacgojmdbjmaaGreatDoorQkm7
import Derived.Test.YtfnacgojmdbjmaaGreatDoorQkm2
import Derived.Test.YtfnacgojmdbjmaaGreatDoorQkm4
import Derived.Lib.TrailingZeros
import Derived.Test.YtfnacgojmdbjmaaGreatDoorQkm8
set_option linter.unusedSimpArgs false
set_option linter.unusedVariables false
set_option maxRecDepth 100000
noncomputable section
namespace Go.Proofs.YtfnacgojmdbjmaaGreatDoor.PRD
open Go.RowKit Go.Proofs.ZW Go.Proofs.ZL Go.Proofs.ZM
attribute [local go_sem] zGj zGk zIh zIi zEx zEy zGl zGm
open Go.Det (inQ M64 zB1 qn zJc zJb zFf)
def Yv.l0:Nat→Int→Int→Int→Int→Int→Int→Int→Int→Option (Int×Int×Int×Int)
 |0,_,_,_,_,_,_,_,_=>none
 |k+1,x5,x6,x107000,x107001,x107002,x108000,x108001,x108002=>if x6 < x5 then((YV.f x107000 x107001 x107002 x6).bind fun t112=>(if t112=true then((YT.f x107000 x107001 x107002 x6).bind fun bt113=>((Yx.f x108000 x108001 x108002 bt113.1 bt113.2.1 bt113.2.2).bind fun t116=>(if t116=true then(Yv.l0 k x5 (wrap64 (x6+1)) x107000 x107001 x107002 x108000 x108001 x108002) else(some (x107000,x107001,x107002,x6))))) else(Yv.l0 k x5 (wrap64 (x6+1)) x107000 x107001 x107002 x108000 x108001 x108002))) else(some (x107000,x107001,x107002,x5))
def Yv.f (k:Nat)(a0_0:Int)(a0_1:Int)(a0_2:Int)(a1_0:Int)(a1_1:Int)(a1_2:Int):Option (Int×Int×Int×Int):=(YO.f a0_0).bind fun t109=>((Yv0.f a0_1 a0_2).bind fun t110=>(Yv.l0 k t109 (wrap64 (t109 - (mn t110 t109))) a0_0 a0_1 a0_2 a1_0 a1_1 a1_2))
theorem Yv.mono_l:∀ k,(∀ y0 y1 y2 y3 y4 y5 y6 y7,LeO (Yv.l0 k y0 y1 y2 y3 y4 y5 y6 y7) (Yv.l0 (k+1) y0 y1 y2 y3 y4 y5 y6 y7))
 |0=>fun _ _ _ _ _ _ _ _ r h=>by simp[Yv.l0] at h
 |k+1=>by
  have ih0:=Yv.mono_l k
  ·intro y0 y1 y2 y3 y4 y5 y6 y7
   unfold Yv.l0
   repeat' first
   |(with_reducible exact ih0 _ _ _ _ _ _ _ _)
   |(with_reducible exact LeO.refl _)
   |(with_reducible exact LeO.none _)
   |(with_reducible refine LeO.ite ?_ ?_)
   |(with_reducible refine LeO.bind ?_ (fun _=>?_))
   |exact ih0 _ _ _ _ _ _ _ _
   |exact LeO.none _
   |refine LeO.ite ?_ ?_
   |refine LeO.bind ?_ (fun _=>?_)
theorem Yv.mono:∀ a0 a1 a2 a3 a4 a5 k,LeO (Yv.f k a0 a1 a2 a3 a4 a5) (Yv.f (k+1) a0 a1 a2 a3 a4 a5):=by
 intro a0 a1 a2 a3 a4 a5 k
 have ih0:=Yv.mono_l k
 unfold Yv.f
 repeat' first
   |(with_reducible exact ih0 _ _ _ _ _ _ _ _)
   |(with_reducible exact LeO.refl _)
   |(with_reducible exact LeO.none _)
   |(with_reducible refine LeO.ite ?_ ?_)
   |(with_reducible refine LeO.bind ?_ (fun _=>?_))
   |exact ih0 _ _ _ _ _ _ _ _
   |exact LeO.none _
   |refine LeO.ite ?_ ?_
   |refine LeO.bind ?_ (fun _=>?_)
end Go.Proofs.YtfnacgojmdbjmaaGreatDoor.PRD
namespace Go.Proofs.YtfnacgojmdbjmaaGreatDoor
open Go.Det Go.RowKit PRD Go.Proofs.ZW
def L77:List (Nat×Con):=[(69,con69),(97,con97),(22,con22),(24,con24),(75,con75)]
structure WdV where
 a0:Int
 a1:Int
 a2:Int
 b0:Int
 b1:Int
 b2:Int
 m:Int
 n:Int
def yOo (v:WdV):zK4:=[(2,.pointer (some ⟨64,0,none⟩)),(3,.pointer (some ⟨65,0,none⟩)),(4,.pointer (some ⟨66,0,none⟩)),(5,.int .i64 v.m),(6,.int .i64 v.n)]
def yYg (v:WdV):List Value:=[.int .i64 v.a0,.int .u64 v.a1,.int .u64 v.a2]
def yYh (v:WdV):List Value:=[.int .i64 v.b0,.int .u64 v.b1,.int .u64 v.b2]
def yUf:List Value:=[.int .i64 0,.int .u64 0,.int .u64 0,.int .i64 0]
def yQ6 (v:WdV):zZf:=[(64,yYg v,57,false),(65,yYh v,57,false),(66,yUf,61,false)]
def zRf (v:WdV)(l:zAv)(s:St):Prop:=zI9 l (yOo v)∧zPj s 64 (yYg v) 57 false∧zPj s 65 (yYh v) 57 false∧zPj s 66 yUf 61 false
theorem zKq {v:WdV}{l:zAv}{s:St}(h:zRf v l s):zDf l s (zBo (yOo v)) (zDr (yQ6 v) 67):=by
 obtain⟨h1,h2,h3,h4⟩:=h
 refine zEv (by decide) (fun x hx=>?_) (fun x hx=>?_) h1 ⟨zBu h2,zBu h3,zBu h4,trivial⟩
 ·simp only[yOo,xG6,xHh,or_false] at hx
  rcases hx with rfl|rfl|rfl|rfl|rfl<;>rfl
 ·simp only[yQ6,xG6,xHh,or_false] at hx
  rcases hx with rfl|rfl|rfl
  ·exact⟨show(64:Nat)≤64∧64 < 67 by decide,rfl⟩
  ·exact⟨show(64:Nat)≤65∧65 < 67 by decide,rfl⟩
  ·exact⟨show(64:Nat)≤66∧66 < 67 by decide,rfl⟩
def zTr:Code:=match zBb (zAa Tryz.f77) with|a::_=>a|[]=>.skip
def oxN (_:Nat):Option OpX:=none
theorem zF0 {cw:Cw}:zVb Tryz.prog cw oxN:=fun _ _ h=>by cases h
def lxM (_:Nat):Option LpX:=none
theorem zFg {cw:Cw}(l:List Code):zZe Tryz.prog cw lxM l:=fun _ _ _ h=>by cases h
def yDw (v v1:WdV):Prop:=zB8 Tryz.prog (cwC L77) oxN lxM zTr (zBo (yOo v)) (zDr (yQ6 v) 67) (zCi (fun l s=>zRf v1 l s) (fun _ _ _=>False))
def yYi:LpX:=fun l s K=>∃ v:WdV,zRf v l s∧∃ v':WdV,Star yDw v v'∧zB8 Tryz.prog (cwC L77) oxN lxM zTr (zBo (yOo v')) (zDr (yQ6 v') 67) (zCi (fun _ _=>False) K)
def yWb (n:Nat):Option LpX:=match Nat.beq n 3 with|true=>some yYi|false=>none
theorem yOp:zZe Tryz.prog (cwC L77) yWb (zBb (zAa Tryz.f77)):=by
 have e:zBb (zAa Tryz.f77)=[zTr]:=by kernel_rfl
 rw[e]
 intro a ha X hX l s K h
 obtain rfl:=xHs.1 ha
 have e2:yWb (zJt zTr)=some yYi:=by kernel_rfl
 rw[e2] at hX
 cases hX
 obtain⟨v,hv,v',hs,he⟩:=h
 have hm:=zAp L77
 refine zEu hm (fun v=>zBo (yOo v)) (fun v=>zDr (yQ6 v) 67) (fun v v1 hstep=>?_) hs (zKq hv) (zAr hm zF0 _ (zFg _) he)
 exact zA1 hm _ (zBq (fun l s q=>zKq q) fun _ _ _ q=>q) (zAr hm zF0 _ (zFg _) hstep)
theorem ySq (v v1:WdV)(Kp:Prop):zB8 Tryz.prog (cwC L77) oxN lxM zTr (zBo (yOo v)) (zDr (yQ6 v) 67) (zCi (fun l s=>zRf v1 l s) (fun _ _ _=>Kp))=(zAd (zAf (WdV.n v < WdV.m v)) ((∃ x0:Bool,((YV.f (WdV.a0 v) (WdV.a1 v) (WdV.a2 v) (WdV.n v)=Option.some x0)∧zAd (x0) ((∃ x1:Int×Int×Int,((YT.f (WdV.a0 v) (WdV.a1 v) (WdV.a2 v) (WdV.n v)=Option.some x1)∧(∃ x2:Bool,((Yx.f (WdV.b0 v) (WdV.b1 v) (WdV.b2 v) (Prod.fst x1) (Prod.fst (Prod.snd x1)) (Prod.snd (Prod.snd x1))=Option.some x2)∧zAd (!x2) (Kp) ((((Value.pointer (Option.some { block:=64,off:=0 })=Value.pointer (Option.some { block:=64,off:=0 }))∧((Value.pointer (Option.some { block:=65,off:=0 })=Value.pointer (Option.some { block:=65,off:=0 }))∧((Value.pointer (Option.some { block:=66,off:=0 })=Value.pointer (Option.some { block:=66,off:=0 }))∧((Value.int IntKind.i64 (WdV.m v)=Value.int IntKind.i64 (WdV.m v1))∧((Value.int IntKind.i64 (IntKind.wrap IntKind.i64 (WdV.n v+1))=Value.int IntKind.i64 (WdV.n v1))∧True)))))∧((((Value.int IntKind.i64 (WdV.a0 v)=Value.int IntKind.i64 (WdV.a0 v1))∧((Value.int IntKind.u64 (WdV.a1 v)=Value.int IntKind.u64 (WdV.a1 v1))∧((Value.int IntKind.u64 (WdV.a2 v)=Value.int IntKind.u64 (WdV.a2 v1))∧True)))∧((57=57)∧(Bool.false=Bool.false)))∧((((Value.int IntKind.i64 (WdV.b0 v)=Value.int IntKind.i64 (WdV.b0 v1))∧((Value.int IntKind.u64 (WdV.b1 v)=Value.int IntKind.u64 (WdV.b1 v1))∧((Value.int IntKind.u64 (WdV.b2 v)=Value.int IntKind.u64 (WdV.b2 v1))∧True)))∧((57=57)∧(Bool.false=Bool.false)))∧(((Value.int IntKind.i64 0=Value.int IntKind.i64 0)∧((Value.int IntKind.u64 0=Value.int IntKind.u64 0)∧((Value.int IntKind.u64 0=Value.int IntKind.u64 0)∧((Value.int IntKind.i64 0=Value.int IntKind.i64 0)∧True))))∧((61=61)∧(Bool.false=Bool.false)))))))))))) ((((Value.pointer (Option.some { block:=64,off:=0 })=Value.pointer (Option.some { block:=64,off:=0 }))∧((Value.pointer (Option.some { block:=65,off:=0 })=Value.pointer (Option.some { block:=65,off:=0 }))∧((Value.pointer (Option.some { block:=66,off:=0 })=Value.pointer (Option.some { block:=66,off:=0 }))∧((Value.int IntKind.i64 (WdV.m v)=Value.int IntKind.i64 (WdV.m v1))∧((Value.int IntKind.i64 (IntKind.wrap IntKind.i64 (WdV.n v+1))=Value.int IntKind.i64 (WdV.n v1))∧True)))))∧((((Value.int IntKind.i64 (WdV.a0 v)=Value.int IntKind.i64 (WdV.a0 v1))∧((Value.int IntKind.u64 (WdV.a1 v)=Value.int IntKind.u64 (WdV.a1 v1))∧((Value.int IntKind.u64 (WdV.a2 v)=Value.int IntKind.u64 (WdV.a2 v1))∧True)))∧((57=57)∧(Bool.false=Bool.false)))∧((((Value.int IntKind.i64 (WdV.b0 v)=Value.int IntKind.i64 (WdV.b0 v1))∧((Value.int IntKind.u64 (WdV.b1 v)=Value.int IntKind.u64 (WdV.b1 v1))∧((Value.int IntKind.u64 (WdV.b2 v)=Value.int IntKind.u64 (WdV.b2 v1))∧True)))∧((57=57)∧(Bool.false=Bool.false)))∧(((Value.int IntKind.i64 0=Value.int IntKind.i64 0)∧((Value.int IntKind.u64 0=Value.int IntKind.u64 0)∧((Value.int IntKind.u64 0=Value.int IntKind.u64 0)∧((Value.int IntKind.i64 0=Value.int IntKind.i64 0)∧True))))∧((61=61)∧(Bool.false=Bool.false)))))))))) (Kp)):=by kernel_rfl
theorem xDt (a0 a1 a2 b0 b1 b2:Int)(Q:Value→Prop):zB8 Tryz.prog (cwC L77) oxN yWb (zAa Tryz.f77) (zAg [.agg #[.int .i64 a0,.int .u64 a1,.int .u64 a2],.agg #[.int .i64 b0,.int .u64 b1,.int .u64 b2]] 8) (zAh [] 64) (zA2 Tryz.prog Tryz.f77 fun v _=>Q v)=((∃ x0:Int,((YO.f a0=Option.some x0)∧(∃ x1:Int,((Yv0.f a1 a2=Option.some x1)∧(∃ x2:WdV,((((Value.pointer (Option.some { block:=64,off:=0 })=Value.pointer (Option.some { block:=64,off:=0 }))∧((Value.pointer (Option.some { block:=65,off:=0 })=Value.pointer (Option.some { block:=65,off:=0 }))∧((Value.pointer (Option.some { block:=66,off:=0 })=Value.pointer (Option.some { block:=66,off:=0 }))∧((Value.int IntKind.i64 x0=Value.int IntKind.i64 (WdV.m x2))∧((Value.int IntKind.i64 (IntKind.wrap IntKind.i64 (x0 - if x0 < x1 then x0 else x1))=Value.int IntKind.i64 (WdV.n x2))∧True)))))∧((((Value.int IntKind.i64 a0=Value.int IntKind.i64 (WdV.a0 x2))∧((Value.int IntKind.u64 a1=Value.int IntKind.u64 (WdV.a1 x2))∧((Value.int IntKind.u64 a2=Value.int IntKind.u64 (WdV.a2 x2))∧True)))∧((2 * 28+1=57)∧(Bool.false=Bool.false)))∧((((Value.int IntKind.i64 b0=Value.int IntKind.i64 (WdV.b0 x2))∧((Value.int IntKind.u64 b1=Value.int IntKind.u64 (WdV.b1 x2))∧((Value.int IntKind.u64 b2=Value.int IntKind.u64 (WdV.b2 x2))∧True)))∧((2 * 28+1=57)∧(Bool.false=Bool.false)))∧(((Value.int IntKind.i64 0=Value.int IntKind.i64 0)∧((Value.int IntKind.u64 0=Value.int IntKind.u64 0)∧((Value.int IntKind.u64 0=Value.int IntKind.u64 0)∧((Value.int IntKind.i64 0=Value.int IntKind.i64 0)∧True))))∧((2 * 30+1=61)∧(Bool.false=Bool.false))))))∧(∃ x3:WdV,((Star yDw x2 x3)∧zAd (zAf (WdV.n x3 < WdV.m x3)) ((∃ x4:Bool,((YV.f (WdV.a0 x3) (WdV.a1 x3) (WdV.a2 x3) (WdV.n x3)=Option.some x4)∧zAd (x4) ((∃ x5:Int×Int×Int,((YT.f (WdV.a0 x3) (WdV.a1 x3) (WdV.a2 x3) (WdV.n x3)=Option.some x5)∧(∃ x6:Bool,((Yx.f (WdV.b0 x3) (WdV.b1 x3) (WdV.b2 x3) (Prod.fst x5) (Prod.fst (Prod.snd x5)) (Prod.snd (Prod.snd x5))=Option.some x6)∧zAd (!x6) (Q (Value.agg #[Value.int IntKind.i64 (WdV.a0 x3),Value.int IntKind.u64 (WdV.a1 x3),Value.int IntKind.u64 (WdV.a2 x3),Value.int IntKind.i64 (WdV.n x3)])) (False)))))) (False)))) (Q (Value.agg #[Value.int IntKind.i64 (WdV.a0 x3),Value.int IntKind.u64 (WdV.a1 x3),Value.int IntKind.u64 (WdV.a2 x3),Value.int IntKind.i64 (WdV.m x3)]))))))))))):=by kernel_rfl
theorem wdT {p:Prop}{A B:Prop}(h:p)(k:A):zAd (zAf p) A B:=bifW_c (fun _=>k) (fun q=>absurd h q)
theorem wdF {p:Prop}{A B:Prop}(h:¬ p)(k:B):zAd (zAf p) A B:=bifW_c (fun q=>absurd q h) (fun _=>k)
def yWc (v:WdV)(y:Int×Int×Int×Int):Prop:=
 (v.n < v.m∧YV.f v.a0 v.a1 v.a2 v.n=some true∧∃ z:Int×Int×Int,YT.f v.a0 v.a1 v.a2 v.n=some z∧Yx.f v.b0 v.b1 v.b2 z.1 z.2.1 z.2.2=some false∧y=(v.a0,v.a1,v.a2,v.n))∨(¬ v.n < v.m∧y=(v.a0,v.a1,v.a2,v.m))
def zXc (v:WdV):WdV:=⟨v.a0,v.a1,v.a2,v.b0,v.b1,v.b2,v.m,wrap64 (v.n+1)⟩
theorem yDx:∀ (k:Nat) (v:WdV) (y:Int×Int×Int×Int),Yv.l0 k v.m v.n v.a0 v.a1 v.a2 v.b0 v.b1 v.b2=some y→∃ v',Star yDw v v'∧yWc v' y
 |0,_,_,h=>by simp[Yv.l0] at h
 |k+1,v,y,h=>by
  unfold Yv.l0 at h
  by_cases c:v.n < v.m
  ·rw[xGq c] at h
   obtain⟨b,e1,h⟩:=xGs.1 h
   cases b with
   |false=>
    rw[xGr (by decide)] at h
    obtain⟨v',hs,hf⟩:=yDx k (zXc v) y h
    refine⟨v',.step ((ySq v (zXc v) False).mpr (wdT c ⟨false,e1,?_⟩)) hs,hf⟩
    simp only[zBn]
    show _∧_
    repeat'(first|rfl|exact xHo|refine xGy ?_ ?_)
   |true=>
    rw[xGq rfl] at h
    obtain⟨z,e2,h⟩:=xGs.1 h
    obtain⟨d,e3,h⟩:=xGs.1 h
    cases d with
    |false=>
     rw[xGr (by decide)] at h
     cases h
     exact⟨v,.refl v,Or.inl ⟨c,e1,z,e2,e3,rfl⟩⟩
    |true=>
     rw[xGq rfl] at h
     obtain⟨v',hs,hf⟩:=yDx k (zXc v) y h
     refine⟨v',.step ((ySq v (zXc v) False).mpr (wdT c ⟨true,e1,z,e2,true,e3,?_⟩)) hs,hf⟩
     simp only[zBn]
     show _∧_
     repeat'(first|rfl|exact xHo|refine xGy ?_ ?_)
  ·rw[xGr c] at h
   cases h
   exact⟨v,.refl v,Or.inr ⟨c,rfl⟩⟩
def ySr (y:Int×Int×Int×Int):Value:=.agg #[.int .i64 y.1,.int .u64 y.2.1,.int .u64 y.2.2.1,.int .i64 y.2.2.2]
def F77 (k:Nat)(x:Int×Int×Int×Int×Int×Int):Option (Int×Int×Int×Int):=Yv.f k x.1 x.2.1 x.2.2.1 x.2.2.2.1 x.2.2.2.2.1 x.2.2.2.2.2
def ySs (k:Nat):Con:=Con.opt yHk (F77 k) ySr
theorem w77 (k:Nat)(x:Int×Int×Int×Int×Int×Int)(y:Int×Int×Int×Int)(hx:F77 k x=some y):zAo Tryz.prog (cwC L77) (zAa Tryz.f77) (zAg (yC1 x) 8) (zAh [] 64) (zA2 Tryz.prog Tryz.f77 fun v' _=>v'=ySr y):=by
 obtain⟨a,b,c,d,e,f⟩:=x
 unfold F77 Yv.f at hx
 obtain⟨m,e1,hx⟩:=xGs.1 hx
 obtain⟨n,e2,hx⟩:=xGs.1 hx
 obtain⟨v',hs,hf⟩:=yDx k ⟨a,b,c,d,e,f,m,wrap64 (m - mn n m)⟩ y hx
 refine zAr (zAp L77) zF0 _ yOp ((xDt a b c d e f _).mpr ⟨m,e1,n,e2,⟨a,b,c,d,e,f,m,wrap64 (m - mn n m)⟩,?_,v',hs,?_⟩)
 ·simp only[zBn]
  repeat'(first|rfl|exact xHo|refine xGy ?_ ?_)
 ·rcases hf with⟨q,f1,z,f2,f3,rfl⟩|⟨q,rfl⟩
  ·exact wdT q ⟨true,f1,z,f2,false,f3,rfl⟩
  ·exact wdF q rfl
theorem xDu {W:World}(hW:GoodW W)(k:Nat):zAk Tryz.prog W 6 77 (ySs k).own:=
 zA0 yC1 (Laying.empty hW.size) hW.size (by decide) zAl (OwnsAll.con (yUb hW) (OwnsAll.con (yZ7 hW) (OwnsAll.con (yVq hW) (OwnsAll.con (yYb hW) (OwnsAll.con (yR4 hW) (zAb W 6)))))) Tryz.func77 (fn:=Tryz.f77) (c:=zAa Tryz.f77) (by kernel_rfl) (by kernel_rfl) (fun _ _ h=>zTm h) (fun a=>⟨rfl,(by kernel_rfl)⟩) (fun b=>rfl) (w77 k)
end Go.Proofs.YtfnacgojmdbjmaaGreatDoor
namespace Go.Proofs.YtfnacgojmdbjmaaGreatDoor.PRD
open Go.RowKit Go.Proofs.ZW Go.Proofs.ZL Go.Proofs.ZM
attribute [local go_sem] zGj zGk zIh zIi zEx zEy zGl zGm
open Go.Det (inQ M64 zB1 qn zJc zJb zFf)
def YI.l0:Nat→List (S30)→Int→Int→Int→Int→Int→Int→Int→Int→Int→Option ((List (S30)))
 |0,_,_,_,_,_,_,_,_,_,_=>none
 |k+1,x3,x118000,x118001,x118002,x118003,x118004,x118005,x120000,x120001,x120002=>(Yv.f k x120000 x120001 x120002 x118003 x118004 x118005).bind fun bt120=>(if x3.length < 4398046511104 then((some (x3++[(⟨(⟨bt120.1,(⟨bt120.2.1,bt120.2.2.1⟩:S26)⟩:S28),bt120.2.2.2⟩:S30)]:List (S30))).bind fun y125=>((YT.f bt120.1 bt120.2.1 bt120.2.2.1 bt120.2.2.2).bind fun bt128=>((Yc0.f bt128.1 bt128.2.1 bt128.2.2).bind fun bt131=>(if bt131.2.2.2=true then((Yx.f x118003 x118004 x118005 bt131.1 bt131.2.1 bt131.2.2.1).bind fun t136=>(if t136=true then(some y125) else(YI.l0 k y125 x118000 x118001 x118002 x118003 x118004 x118005 bt131.1 bt131.2.1 bt131.2.2.1))) else(some y125))))) else(none))
def YI.f (k:Nat)(a0_0:Int)(a0_1:Int)(a0_2:Int)(a0_3:Int)(a0_4:Int)(a0_5:Int):Option ((List (S30))):=(YE.f a0_0 a0_1 a0_2 a0_3 a0_4 a0_5).bind fun t118=>(if t118=true then(YI.l0 k ([]:List (S30)) a0_0 a0_1 a0_2 a0_3 a0_4 a0_5 a0_0 a0_1 a0_2) else(some ([]:List (S30))))
end Go.Proofs.YtfnacgojmdbjmaaGreatDoor.PRD
namespace Go.Proofs.YtfnacgojmdbjmaaGreatDoor.PRD
open Go Go.RowKit Go.Proofs.ZW Go.Proofs.ZL Go.Proofs.ZM
open Go.Det (inQ inU M64 zB1 qn zJc zJb zFf zCb zQ2 zVi)
def H (q:Nat):Int:=((q / M64:Nat):Int)
def L (q:Nat):Int:=((q % M64:Nat):Int)
theorem m64:M64=2 ^ 64:=rfl
theorem yUg:zB1=2 ^ 128:=rfl
theorem yJp {a b:Nat}(h1:H a=H b)(h2:L a=L b):a=b:=by
 unfold H at h1;unfold L at h2
 have e1:a / M64=b / M64:=by exact_mod_cast h1
 have e2:a % M64=b % M64:=by exact_mod_cast h2
 rw[← xId a M64,← xId b M64,e1,e2]
theorem yOq (r:Nat):(H r==0&&L r==0)=decide (r=0):=by
 rw[Bool.eq_iff_iff,xG0,beq_iff_eq,beq_iff_eq,xIj]
 constructor
 ·rintro⟨a,b⟩;exact yJp (b:=0) a b
 ·rintro rfl;exact⟨rfl,rfl⟩
theorem yDy {q:Nat}(h:q < zB1):q / M64 < 18446744073709551616:=by
 have:zB1=M64 * M64:=by decide
 rw[this] at h
 exact Nat.div_lt_of_lt_mul h
theorem zUh (q:Nat):q % M64 < 18446744073709551616:=Nat.mod_lt _ (by decide)
theorem zXd {a b:Nat}(ha:a < zB1)(hb:b < zB1):Go.bits .and .u64 (H a) (H b)=H (a &&& b)∧Go.bits .and .u64 (L a) (L b)=L (a &&& b):=by
 unfold H L
 rw[Go.bits_and_u64_nat _ _ (yDy ha) (yDy hb),Go.bits_and_u64_nat _ _ (zUh a) (zUh b),m64,← Nat.and_div_two_pow,← Nat.and_mod_two_pow]
 exact⟨rfl,rfl⟩
theorem yOr {a b:Nat}(ha:a < zB1)(hb:b < zB1):Go.bits .or .u64 (H a) (H b)=H (a ||| b)∧Go.bits .or .u64 (L a) (L b)=L (a ||| b):=by
 unfold H L
 rw[Go.bits_or_u64_nat _ _ (yDy ha) (yDy hb),Go.bits_or_u64_nat _ _ (zUh a) (zUh b),m64,← Nat.or_div_two_pow,← Nat.or_mod_two_pow]
 exact⟨rfl,rfl⟩
theorem xDv {q:Nat}(h:q < zB1):inQ (H q) (L q)=true:=zQ2 h
theorem xDw (q:Nat):qn (H q) (L q)=q:=zVi q
theorem yWd {a b:Nat}(ha:a < zB1)(hb:b < zB1):YY.f (H a) (L a) (H b) (L b)=some (H (a &&& b),L (a &&& b)):=by
 unfold YY.f;rw[(zXd ha hb).1,(zXd ha hb).2]
theorem yOs {a b:Nat}(ha:a < zB1)(hb:b < zB1):Ys.f (H a) (L a) (H b) (L b)=some (H (a &&& b),L (a &&& b)):=by
 unfold Ys.f;rw[(zXd ha hb).1,(zXd ha hb).2]
theorem qOr {a b:Nat}(ha:a < zB1)(hb:b < zB1):Yw0.f (H a) (L a) (H b) (L b)=some (H (a ||| b),L (a ||| b)):=by
 unfold Yw0.f;rw[(yOr ha hb).1,(yOr ha hb).2]
theorem toI {x:Nat}(h:x < 18446744073709551616):((x:Nat):Int) < 18446744073709551616:=by omega
theorem zXe {a:Nat}(ha:a < zB1):Go.bits .xor .u64 18446744073709551615 (H a)=H (zB1 - 1 - a)∧Go.bits .xor .u64 18446744073709551615 (L a)=L (zB1 - 1 - a):=by
 have hM:M64=18446744073709551616:=rfl
 have hM2:zB1=340282366920938463463374607431768211456:=by decide
 have x1:=yDy ha
 have l1:=zUh a
 have i1:Go.Det.inU (H a)=true:=Go.Det.inU_iff.2 ⟨xI6 _,toI x1⟩
 have i2:Go.Det.inU (L a)=true:=Go.Det.inU_iff.2 ⟨xI6 _,toI l1⟩
 have n1:Go.bits .xor .u64 18446744073709551615 (H a)=18446744073709551615 - H a:=Go.Det.notI_u64 i1
 have n2:Go.bits .xor .u64 18446744073709551615 (L a)=18446744073709551615 - L a:=Go.Det.notI_u64 i2
 rw[n1,n2]
 unfold H L
 have h1:=xId a M64
 generalize hx:a / M64=x at *
 generalize hz:a % M64=z at *
 rw[hM] at h1 ⊢
 rw[hM2] at ha ⊢
 constructor<;>omega
theorem yWe {a:Nat}(ha:a < zB1):Yi0.f (H a) (L a)=some (H (zB1 - 1 - a),L (zB1 - 1 - a)):=by
 unfold Yi0.f;rw[(zXe ha).1,(zXe ha).2]
theorem yUh {a:Nat}(ha:a < zB1):YG.f (H a) (L a)=some (H (zB1 - 1 - a),L (zB1 - 1 - a)):=by
 unfold YG.f;rw[(zXe ha).1,(zXe ha).2]
theorem yJq {p:Nat→Bool}{n:Nat}(h:(List.range n).all p=true)(k:Nat)(hk:k < n):p k=true:=List.all_eq_true.1 h k (List.mem_range.2 hk)
theorem yHx:(List.range 129).all (fun n=>decide (Yh0.f (n:Nat)=some (H (zCb n),L (zCb n))∧Yc.f 300 (n:Nat)=some (H (zCb n),L (zCb n))∧zCb n < zB1∧zB1 - 1 - zCb n=2 ^ (128 - n) - 1))=true:=by decide +kernel
theorem zKb {n:Nat}(h:n≤128):Yh0.f (n:Nat)=some (H (zCb n),L (zCb n))∧Yc.f 300 (n:Nat)=some (H (zCb n),L (zCb n))∧zCb n < zB1∧zB1 - 1 - zCb n=2 ^ (128 - n) - 1:=
 xGt (yJq yHx n (by omega))
def Kd' (V:Int)(B:Nat):Prop:=(V=4∧B=32)∨(V=6∧B=128)
theorem Kd'.le {V:Int}{B:Nat}(h:Kd' V B):B≤128:=by rcases h with⟨_,rfl⟩|⟨_,rfl⟩<;>decide
theorem Kd'.bits {V:Int}{B:Nat}(h:Kd' V B):YO.f V=some (B:Int):=by rcases h with⟨rfl,rfl⟩|⟨rfl,rfl⟩<;>rfl
theorem Kd'.rbits {V:Int}{B:Nat}(h:Kd' V B):Yr.f V=some (B:Int):=by rcases h with⟨rfl,rfl⟩|⟨rfl,rfl⟩<;>rfl
theorem Kd'.pow {V:Int}{B:Nat}(h:Kd' V B){q:Nat}(hq:q < 2 ^ B):q < zB1:=by rcases h with⟨rfl,rfl⟩|⟨rfl,rfl⟩<;>(rw[yUg];omega)
theorem w64 {n:Int}(h0:-1000≤n)(h1:n≤1000):wrap64 n=n:=by unfold wrap64;omega
theorem yOt {V:Int}{B n:Nat}(h:Kd' V B)(hn:n≤B):YP.f V (n:Int)=some (H (zCb (128 - B+n)),L (zCb (128 - B+n))):=by
 have hB:=h.le
 unfold YP.f
 rw[h.bits,xGp,w64 (n:=128 - (B:Int)) (by omega) (by omega),w64 (by omega) (by omega),show(128 - (B:Int)+(n:Int))=((128 - B+n:Nat):Int) by omega,(zKb (n:=128 - B+n) (by omega)).1,xGp]
theorem okA {V:Int}{B q:Nat}(h:Kd' V B)(hq:q < 2 ^ B):YK.f V (H q) (L q)=some true:=by
 rcases h with⟨rfl,rfl⟩|⟨rfl,rfl⟩
 ·unfold YK.f
  have h1:q / M64=0:=Nat.div_eq_of_lt (by rw[m64];omega)
  have h2:q % M64=q:=xJc (by rw[m64];omega)
  have e1:H q=0:=by unfold H;rw[h1];rfl
  have e2:L q=(q:Int):=by unfold L;rw[h2]
  rw[xGr (by decide),xGq rfl,e1,xGq rfl,e2]
  rw[xGx (show(q:Int) < 4294967296 by omega)]
 ·rfl
theorem yOu (q j:Nat):q &&& (2 ^ j - 1)=q % 2 ^ j:=xIo q j
theorem pOk {V:Int}{B q n:Nat}(h:Kd' V B)(hq:q < 2 ^ B)(hn:n≤B):YV.f V (H q) (L q) (n:Int)=some (decide (q % 2 ^ (B - n)=0)):=by
 have hB:=h.le
 have hq':=h.pow hq
 obtain⟨_,_,hm,hm2⟩:=zKb (n:=128 - B+n) (by omega)
 have hlt:zB1 - 1 - zCb (128 - B+n) < zB1:=by have:0 < zB1:=(by decide);omega
 have e1:=yWe hm
 have e2:=yWd hq' hlt
 rw[hm2,show 128 - (128 - B+n)=B - n by omega] at e1 e2
 rw[yOu] at e2
 generalize q % 2 ^ (B - n)=r at e2 ⊢
 generalize 2 ^ (B - n) - 1=z at e1 e2
 unfold YV.f
 rw[okA h hq,xGp,xGq rfl,xGr (by omega),h.bits,xGp,xGr (by omega),yOt h hn,xGp,e1,xGp,e2,xGp,yOq]
theorem yJr (q j:Nat)(h:q % 2 ^ j=0):q ||| (2 ^ j - 1)=q+(2 ^ j - 1):=by
 obtain⟨m,rfl⟩:=xIq h
 have:2 ^ j - 1 < 2 ^ j:=by have:=Nat.pow_pos (n:=j) (show 0 < 2 by decide);omega
 rw[← Nat.two_pow_add_eq_or_of_lt this]
theorem yHy (i j:Nat)(h:i≤j):(2 ^ i - 1) &&& (2 ^ j - 1)=2 ^ i - 1:=by
 rw[xIo]
 have h1:=Nat.pow_pos (n:=i) (show 0 < 2 by decide)
 have h2:2 ^ i≤2 ^ j:=xI8 (by decide) h
 exact xJc (by omega)
theorem yOv {V:Int}{B q n:Nat}(h:Kd' V B)(hq:q < 2 ^ B)(hn:n≤B)(ha:q % 2 ^ (B - n)=0):
  YT.f V (H q) (L q) (n:Int)=some (V,H (q+(2 ^ (B - n) - 1)),L (q+(2 ^ (B - n) - 1))):=by
 have hB:=h.le
 have hq':=h.pow hq
 obtain⟨_,_,hm,hm2⟩:=zKb (n:=128 - B+n) (by omega)
 obtain⟨hm3,_,hm4,hm5⟩:=zKb (n:=128 - B) (by omega)
 have hlt:zB1 - 1 - zCb (128 - B+n) < zB1:=by have:0 < zB1:=(by decide);omega
 have hlt2:zB1 - 1 - zCb (128 - B) < zB1:=by have:0 < zB1:=(by decide);omega
 have e1:=yWe hm
 have e2:=yWe hm4
 have e3:=yWd hlt hlt2
 rw[hm2,show 128 - (128 - B+n)=B - n by omega] at e1 e3
 rw[hm5,show 128 - (128 - B)=B by omega] at e2 e3
 rw[yHy _ _ (by omega)] at e3
 have hlt3:2 ^ (B - n) - 1 < zB1:=by rw[hm2,show 128 - (128 - B+n)=B - n by omega] at hlt;exact hlt
 have e4:=qOr hq' hlt3
 rw[yJr _ _ ha] at e4
 have e0:=pOk h hq hn
 rw[xGx ha] at e0
 have w:=w64 (n:=128 - (B:Int)) (by omega) (by omega)
 have hM:Yh0.f (128 - (B:Int))=some (H (zCb (128 - B)),L (zCb (128 - B))):=by
  rw[show(128 - (B:Int))=((128 - B:Nat):Int) by omega];exact hm3
 generalize 2 ^ (B - n) - 1=z at *
 generalize 2 ^ B - 1=y at *
 unfold YT.f
 rw[e0,xGp,xGq rfl,h.bits,xGp,w,hM,xGp,yOt h hn,xGp,e1,xGp,e2,xGp,e3,xGp,e4,xGp]
theorem zKc (V:Int){a b:Nat}:Yx.f V (H a) (L a) V (H b) (L b)=some (decide (a < b)):=by
 have h1:=xId a M64
 have h2:=xId b M64
 have l1:=zUh a
 have l2:=zUh b
 have hM:M64=18446744073709551616:=rfl
 unfold Yx.f Yl0.f H L
 rw[xGr (by omega),xGq rfl]
 generalize a / M64=x at *
 generalize b / M64=y at *
 generalize a % M64=z at *
 generalize b % M64=w at *
 rw[hM] at h1 h2
 by_cases c1:(x:Int) < (y:Int)
 ·rw[xGq c1,xGp,xGx (by omega)]
 ·rw[xGr c1]
  by_cases c2:(x:Int)=(y:Int)
  ·rw[xGq c2,xGp]
   congr 1
   rw[Bool.eq_iff_iff,xIj,xIj]
   omega
  ·rw[xGr c2,xGp,xG1 (by omega)]
theorem zPr {α:Type}{f:Nat→Option α}(h:∀ k,LeO (f k) (f (k+1))){k0:Nat}{r:α}(h0:f k0=some r):∀ k,k0≤k→f k=some r:=by
 intro k hk
 induction hk with
 |refl=>exact h0
 |step _ ih=>exact h _ _ ih
theorem ySt {k n:Nat}(hk:300≤k)(h:n≤128):Yc.f k (n:Nat)=some (H (zCb n),L (zCb n)):=
 zPr (f:=fun k=>Yc.f k (n:Nat)) (fun k=>Yc.mono _ k) (zKb h).2.1 k hk
theorem xDx (k:Nat):YX.f (k+1) 0=some (0,1):=by
 unfold YX.f
 rw[xGr (by decide)]
 rfl
theorem yWf {V:Int}{B q:Nat}(h:Kd' V B)(hq:q < zB1):YK.f V (H q) (L q)=some (decide (q < 2 ^ B)):=by
 rcases h with⟨rfl,rfl⟩|⟨rfl,rfl⟩
 ·have h1:=xId q M64
  have l1:=zUh q
  have hM:M64=18446744073709551616:=rfl
  unfold YK.f H L
  rw[xGr (by decide),xGq rfl]
  generalize q / M64=x at *
  generalize q % M64=z at *
  rw[hM] at h1
  by_cases c:(x:Int)=0
  ·rw[xGq c]
   have e:((z:Int) < 4294967296)↔q < 2 ^ 32:=by omega
   exact congrArg some (decide_eq_decide.2 e)
  ·rw[xGr c,xG1 (by omega)]
 ·unfold YK.f
  rw[xGq rfl,xGx (show q < 2 ^ 128 by rw[← yUg];exact hq)]
theorem yDz {V:Int}{B q:Nat}(h:Kd' V B)(hq:q < 2 ^ B):Yc0.f V (H q) (L q)=if q+1 < 2 ^ B then some (V,H (q+1),L (q+1),true) else some (0,0,0,false):=by
 have hq':=h.pow hq
 have h1:inQ 0 1=true:=by decide
 have h2:qn 0 1=1:=by decide
 unfold Yc0.f Yp0.f
 rw[xDx,xGp,xGq (by rw[xDv hq',h1];rfl),xGp,xDw,h2]
 by_cases c:q+1 < zB1
 ·have ea:zJc q 1=q+1:=by unfold zJc;rw[xGq c]
  rw[xGq (xGx c),okA h hq,xGp,xGq rfl,ea]
  have e:=yWf h c
  unfold H L at e
  rw[e,xGp]
  by_cases c2:q+1 < 2 ^ B
  ·rw[xGq (xGx c2),xGq c2];rfl
  ·rw[xGr (by simpa using c2),xGr c2]
 ·rw[xGr (by simpa using c),xGr (fun q2=>c (h.pow q2))]
theorem yD0 {V:Int}{B q hi:Nat}(h:Kd' V B)(hq:q < 2 ^ B)(hle:q≤hi):∀ (d n k:Nat),n+d=B→d+2≤k→q % 2 ^ d=0→
  ∃ m,n≤m∧m≤B∧q % 2 ^ (B - m)=0∧q+(2 ^ (B - m) - 1)≤hi∧(∀ i,n≤i→i < m→hi < q+(2 ^ (B - i) - 1))∧Yv.l0 k (B:Int) (n:Int) V (H q) (L q) V (H hi) (L hi)=some (V,H q,L q,(m:Int)):=by
 intro d
 induction d with
 |zero=>
  intro n k hn hk _
  obtain⟨k,rfl⟩:∃ m,k=m+1:=⟨k - 1,by omega⟩
  obtain rfl:n=B:=by omega
  refine⟨n,xGv _,xGv _,by rw[Nat.sub_self];simp[Nat.mod_one],by rw[Nat.sub_self];simpa using hle,fun i h1 h2=>by omega,?_⟩
  rw[Yv.l0,xGr (by omega)]
 |succ d ih=>
  intro n k hn hk ha
  obtain⟨k,rfl⟩:∃ m,k=m+2:=⟨k - 2,by omega⟩
  have hB:=h.le
  have hd:B - n=d+1:=by omega
  have e1:=pOk (n:=n) h hq (by omega)
  have e2:=yOv (n:=n) h hq (by omega) (by rw[hd];exact ha)
  rw[hd] at e1 e2
  rw[xGx ha] at e1
  have e3:=zKc V (a:=hi) (b:=q+(2 ^ (d+1) - 1))
  have ha':q % 2 ^ d=0:=by
   have:2 ^ (d+1)=2 ^ d * 2:=Nat.pow_succ _ _
   rw[this] at ha
   exact Nat.mod_eq_zero_of_dvd (Nat.dvd_trans (Nat.dvd_mul_right _ _) (xIq ha))
  by_cases c:hi < q+(2 ^ (d+1) - 1)
  ·obtain⟨m,m1,m2,m3,m4,m5,m6⟩:=ih (n+1) (k+1) (by omega) (by omega) ha'
   refine⟨m,by omega,m2,m3,m4,fun i h1 h2=>?_,?_⟩
   ·by_cases hi':i=n
    ·rw[hi',hd];exact c
    ·exact m5 i (by omega) h2
   ·rw[Yv.l0,xGq (by omega),e1,xGp,xGq rfl,e2,xGp,e3,xGp,xGq (xGx c),w64 (n:=(n:Int)+1) (by omega) (by omega)]
    exact m6
  ·refine⟨n,xGv _,by omega,by rw[hd];exact ha,by rw[hd];omega,fun i h1 h2=>by omega,?_⟩
   rw[Yv.l0,xGq (by omega),e1,xGp,xGq rfl,e2,xGp,e3,xGp,xGr (by simpa using c)]
def lw (q:Nat):Nat:=if q % M64=0 then 64+Lib.ctz 64 (q / M64) else Lib.ctz 64 (q % M64)
theorem zXf {x:Nat}(h:x < 18446744073709551616):Lib.ctz 64 x≤64:=by
 unfold Lib.ctz
 split
 ·exact xGv _
 ·obtain⟨m,_,h2⟩:=Lib.ctzFrom_spec 64 x (by omega) h
  omega
theorem yD1 {x j:Nat}(h:x < 18446744073709551616)(hj:j≤64):j≤Lib.ctz 64 x↔x % 2 ^ j=0:=by
 unfold Lib.ctz
 split
 ·rename_i h0
  rw[h0,Nat.zero_mod]
  exact⟨fun _=>rfl,fun _=>hj⟩
 ·obtain⟨m,h1,h2⟩:=Lib.ctzFrom_spec 64 x (by omega) h
  generalize Lib.ctzFrom 64 x=t at *
  constructor
  ·intro hle
   rw[h1]
   exact Nat.mod_eq_zero_of_dvd (Nat.dvd_trans (Nat.pow_dvd_pow 2 hle) (Nat.dvd_mul_right _ _))
  ·intro hd
   rcases xHr t j with c|c
   ·exfalso
    have d1:2 ^ (t+1) ∣ x:=Nat.dvd_trans (Nat.pow_dvd_pow 2 c) (xIq hd)
    rw[h1,Nat.pow_succ] at d1
    have d2:2 ∣ 2 * m+1:=Nat.dvd_of_mul_dvd_mul_left (Nat.pow_pos (by decide)) d1
    omega
   ·exact c
theorem yJs {q:Nat}(hq:q < zB1):lw q≤128:=by
 have h1:=zXf (yDy hq)
 have h2:=zXf (zUh q)
 unfold lw
 split<;>omega
theorem yD2 {q j:Nat}(hq:q < zB1)(hj:j≤128):j≤lw q↔q % 2 ^ j=0:=by
 have h1:=xId q M64
 unfold lw
 split
 ·rename_i h0
  rw[h0,Nat.add_zero] at h1
  have hH:=yDy hq
  generalize q / M64=x at *
  rw[m64] at h1
  rcases xHr j 65 with c|c
  ·have:2 ^ j ∣ q:=by rw[← h1];exact Nat.dvd_trans (Nat.pow_dvd_pow 2 (by omega)) (Nat.dvd_mul_right _ _)
   exact⟨fun _=>Nat.mod_eq_zero_of_dvd this,fun _=>by omega⟩
  ·obtain⟨i,rfl⟩:∃ i,j=64+i:=⟨j - 64,by omega⟩
   have e:=yD1 (j:=i) hH (by omega)
   rw[← h1,Nat.pow_add,Nat.mul_mod_mul_left]
   rw[Nat.mul_eq_zero]
   constructor
   ·intro hle;exact .inr (e.1 (by omega))
   ·intro hz
    rcases hz with hz|hz
    ·exact absurd hz (by decide)
    ·have:=e.2 hz;omega
 ·rename_i h0
  have hL:=zUh q
  rcases xHr j 65 with c|c
  ·rw[yD1 hL (by omega),m64,Nat.mod_mod_of_dvd _ (Nat.pow_dvd_pow 2 (by omega))]
  ·constructor
   ·intro hle
    have:=zXf hL
    omega
   ·intro hz
    exfalso
    apply h0
    rw[m64]
    exact Nat.mod_eq_zero_of_dvd (Nat.dvd_trans (Nat.pow_dvd_pow 2 (by omega)) (xIq hz))
theorem ySu {q j:Nat}(hq:q < zB1)(h:j≤lw q):q % 2 ^ j=0:=(yD2 hq (xHf h (yJs hq))).1 h
theorem ySv {q j:Nat}(hq:q < zB1)(h:q % 2 ^ j=0)(hj:j≤128):j≤lw q:=(yD2 hq hj).2 h
theorem ySw {q:Nat}(h:q < zB1):Yv0.f (H q) (L q)=some ((lw q:Nat):Int):=by
 have h1:=yDy h
 have l1:=zUh q
 unfold Yv0.f lw bits_TrailingZeros64.f
 have t1:(H q).toNat=q / M64:=by unfold H;exact xG7 _
 have t2:(L q).toNat=q % M64:=by unfold L;exact xG7 _
 have c1:0≤H q∧H q < 18446744073709551616:=⟨xI6 _,toI h1⟩
 have c2:0≤L q∧L q < 18446744073709551616:=⟨xI6 _,toI l1⟩
 rw[xGq c1,xGq c2,t1,t2]
 have hc:=zXf h1
 by_cases c:q % M64=0
 ·have e:L q=0:=by unfold L;rw[c];rfl
  rw[xGq e,xGq c,xGp,w64 (by omega) (by omega)]
  exact congrArg some (by omega)
 ·have e:¬ L q=0:=by unfold L;exact_mod_cast c
  rw[xGr e,xGr c,xGp]
theorem zNn {V:Int}{B q hi:Nat}(h:Kd' V B)(hq:q < 2 ^ B)(hle:q≤hi){k:Nat}(hk:B+2≤k):
  ∃ m,m≤B∧q % 2 ^ (B - m)=0∧q+(2 ^ (B - m) - 1)≤hi∧(∀ i,i < m→q % 2 ^ (B - i)=0→hi < q+(2 ^ (B - i) - 1))∧Yv.f k V (H q) (L q) V (H hi) (L hi)=some (V,H q,L q,(m:Int)):=by
 have hB:=h.le
 have hl:=yJs (h.pow hq)
 have hmin:mn ((lw q:Nat):Int) (B:Int)=((min (lw q) B:Nat):Int):=by unfold mn;split<;>omega
 obtain⟨m,m1,m2,m3,m4,m5,m6⟩:=yD0 h hq hle (min (lw q) B) (B - min (lw q) B) k (by omega) (by omega) (ySu (h.pow hq) (by omega))
 refine⟨m,m2,m3,m4,fun i hi' ha=>?_,?_⟩
 ·have:=ySv (h.pow hq) ha (by omega)
  exact m5 i (by omega) hi'
 ·unfold Yv.f
  rw[h.bits,xGp,ySw (h.pow hq),xGp,hmin,w64 (by omega) (by omega),show(B:Int) - ((min (lw q) B:Nat):Int)=((B - min (lw q) B:Nat):Int) by omega]
  exact m6
def mkP (V:Int)(q n:Nat):S30:=⟨⟨V,⟨H q,L q⟩⟩,(n:Int)⟩
theorem zTs {V:Int}{B q hi:Nat}(h:Kd' V B)(hhi:hi < 2 ^ B)(hle:q≤hi):YE.f V (H q) (L q) V (H hi) (L hi)=some true:=by
 unfold YE.f
 rw[okA h (xH7 hle hhi),xGp,xGq rfl,okA h hhi,xGp,xGq rfl,xGq rfl,zKc,xGp,xG1 (by omega)]
 rfl
theorem yOw:[32,128].all (fun B=>(List.range (B+1)).all (fun j=>decide (zCb (128 - j) &&& (zB1 - 1 - zCb (128 - B))=2 ^ B - 2 ^ j∧(zB1 - 1 - (2 ^ B - 2 ^ j)) &&& (zB1 - 1 - zCb (128 - B))=2 ^ j - 1∧2 ^ B - 2 ^ j < zB1∧zB1 - 1 - (2 ^ B - 2 ^ j) < zB1∧zB1 - 1 - zCb (128 - B) < zB1∧2 ^ j - 1 < zB1)))=true:=by decide +kernel
theorem zIk {V:Int}{B j:Nat}(h:Kd' V B)(hj:j≤B):zCb (128 - j) &&& (zB1 - 1 - zCb (128 - B))=2 ^ B - 2 ^ j∧(zB1 - 1 - (2 ^ B - 2 ^ j)) &&& (zB1 - 1 - zCb (128 - B))=2 ^ j - 1∧2 ^ B - 2 ^ j < zB1∧zB1 - 1 - (2 ^ B - 2 ^ j) < zB1∧zB1 - 1 - zCb (128 - B) < zB1∧2 ^ j - 1 < zB1:=by
 have hB:B∈[32,128]:=by rcases h with⟨_,rfl⟩|⟨_,rfl⟩<;>simp
 exact xGt (yJq (List.all_eq_true.1 yOw B hB) j (by omega))
theorem yHz (a j m:Nat):a &&& (2 ^ j * m)=2 ^ j * ((a / 2 ^ j) &&& m):=by
 apply Nat.eq_of_testBit_eq
 intro i
 rw[Nat.testBit_and,Nat.testBit_two_pow_mul,Nat.testBit_two_pow_mul,Nat.testBit_and]
 by_cases h:i ≥ j
 ·have:(a / 2 ^ j).testBit (i - j)=a.testBit i:=by rw[Nat.testBit_div_two_pow];congr 1;omega
  rw[this]
  simp[h]
 ·simp[h]
theorem zJf (a N j:Nat)(hj:j≤N)(ha:a < 2 ^ N):a &&& (2 ^ N - 2 ^ j)=2 ^ j * (a / 2 ^ j):=by
 have e:2 ^ N - 2 ^ j=2 ^ j * (2 ^ (N - j) - 1):=by
  rw[Nat.mul_sub,← Nat.pow_add,Nat.mul_one];congr 2;omega
 rw[e,yHz,xIo]
 congr 1
 refine xJc (Nat.div_lt_of_lt_mul ?_)
 rw[← Nat.pow_add]
 rwa [show j+(N - j)=N by omega]
theorem yJt {V:Int}{B n k:Nat}(h:Kd' V B)(hn:n≤B)(hk:300≤k):Yc.f k (wrap64 (wrap64 (128 - (B:Int))+(n:Int)))=some (H (zCb (128 - (B - n))),L (zCb (128 - (B - n)))):=by
 have hB:=h.le
 rw[w64 (n:=128 - (B:Int)) (by omega) (by omega),w64 (by omega) (by omega),show(128 - (B:Int)+(n:Int))=((128 - (B - n):Nat):Int) by omega]
 exact ySt hk (by omega)
theorem yD3 {V:Int}{B k:Nat}(h:Kd' V B)(hk:300≤k):Yc.f k (wrap64 (128 - (B:Int)))=some (H (zCb (128 - B)),L (zCb (128 - B))):=by
 have hB:=h.le
 rw[w64 (n:=128 - (B:Int)) (by omega) (by omega),show(128 - (B:Int))=((128 - B:Nat):Int) by omega]
 exact ySt hk (by omega)
theorem mask_lt {n:Nat}(h:n≤128):zCb n < zB1:=(zKb h).2.2.1
theorem yUi {V:Int}{B n:Nat}(h:Kd' V B)(hn:n≤B):YF.f V (n:Int)=some (H (2 ^ B - 2 ^ (B - n)),L (2 ^ B - 2 ^ (B - n))):=by
 have hB:=h.le
 obtain⟨f1,_,_,_,f5,_⟩:=zIk h (j:=B - n) (by omega)
 have e2:=yOs (mask_lt (n:=128 - (B - n)) (by omega)) f5
 rw[f1] at e2
 unfold YF.f
 rw[h.rbits,xGp,yJt h hn (xGv 300),xGp,xGp,yD3 h (xGv 300),xGp,yUh (mask_lt (by omega)),xGp,e2,xGp]
theorem zH5 (V a b:Int):Ym.f V a b=YK.f V a b:=rfl
theorem yJu (a b:Nat):(H a==H b&&L a==L b)=decide (a=b):=by
 rw[Bool.eq_iff_iff,xG0,beq_iff_eq,beq_iff_eq,xIj]
 constructor
 ·rintro⟨x,y⟩;exact yJp x y
 ·rintro rfl;exact⟨rfl,rfl⟩
theorem yYj {V:Int}{B q n:Nat}(h:Kd' V B)(hq:q < 2 ^ B)(hn:n≤B)(ha:q % 2 ^ (B - n)=0):Yi.f V (H q) (L q) (n:Int)=some true:=by
 obtain⟨_,_,f3,_,_,_⟩:=zIk h (j:=B - n) (by omega)
 have e2:=yOs (h.pow hq) f3
 rw[zJf q B (B - n) (by omega) hq,Nat.mul_div_cancel' (xIq ha)] at e2
 have e1:=yUi h hn
 generalize 2 ^ B - 2 ^ (B - n)=c at *
 unfold Yi.f
 rw[zH5,okA h hq,xGp,xGq rfl,xGq (by omega),h.rbits,xGp,xGq (by omega),e1,xGp,e2,xGp,yJu,xGx rfl]
theorem yOx {V:Int}{B q n:Nat}(h:Kd' V B)(hq:q < 2 ^ B)(hn:n≤B)(ha:q % 2 ^ (B - n)=0):
  Yq.f V (H q) (L q) (n:Int)=some (V,H (q+(2 ^ (B - n) - 1)),L (q+(2 ^ (B - n) - 1))):=by
 have hB:=h.le
 obtain⟨_,f2,f3,f4,f5,f6⟩:=zIk h (j:=B - n) (by omega)
 have e1:=yUi h hn
 have e2:=yUh f3
 have e3:=yOs f4 f5
 rw[f2] at e3
 have e4:=yOr (h.pow hq) f6
 rw[yJr _ _ ha] at e4
 have e5:=yUh (mask_lt (n:=128 - B) (by omega))
 have e0:=yYj h hq hn ha
 generalize 2 ^ (B - n) - 1=z at *
 generalize 2 ^ B - 2 ^ (B - n)=c at *
 unfold Yq.f
 rw[e0,xGp,xGq rfl,e1,xGp,e2,xGp,h.rbits,xGp,yD3 h (xGv 300),xGp,e5,xGp,e3,xGp]
 simp only
 rw[e4.1,e4.2]
theorem zJg (x:Int):0≤IntKind.u64.wrap x:=(wrap_within .u64 x).1
theorem YK0 (v:Int):∀ (d k:Nat) (h l:Int),d≤8→d < k→0≤h→h < 18446744073709551616→0≤l→l < 18446744073709551616→
  ∃ h' l',Ye.l0 k v (8 - (d:Int)) h l=some (6,h',l')∧0≤h'∧h' < 18446744073709551616∧0≤l'∧l' < 18446744073709551616:=by
 intro d
 induction d with
 |zero=>
  intro k h l _ hk h1 h2 h3 h4
  obtain⟨k,rfl⟩:∃ m,k=m+1:=⟨k - 1,by omega⟩
  refine⟨h,l,?_,h1,h2,h3,h4⟩
  rw[Ye.l0,xGr (by omega)]
 |succ d ih=>
  intro k h l hd hk h1 h2 h3 h4
  obtain⟨k,rfl⟩:∃ m,k=m+1:=⟨k - 1,by omega⟩
  have hx:((8:Int) - ((d+1:Nat):Int)) < 8:=by omega
  have hw:wrap64 ((8:Int) - ((d+1:Nat):Int)+1)=8 - (d:Int):=by unfold wrap64;omega
  have b0:∀ op (x y:Int),0≤Go.bits op .u64 x y:=fun op x y=>bits_lo_u64 op x y
  have b1:∀ op (x y:Int),Go.bits op .u64 x y < 18446744073709551616:=fun op x y=>by have:=bits_hi_u64 op x y;omega
  rw[Ye.l0,xGq hx,xGq (zJg _)]
  split
  ·split
   ·rw[xGq (zJg _),hw]
    exact ih k _ l (by omega) (by omega) (b0 _ _ _) (b1 _ _ _) h3 h4
   ·rw[xGq (zJg _),hw]
    exact ih k h _ (by omega) (by omega) h1 h2 (b0 _ _ _) (b1 _ _ _)
  ·rw[hw]
   exact ih k h l (by omega) (by omega) h1 h2 h3 h4
theorem yH0 (a:Int)(h0:0≤a)(h1:a < 18446744073709551616):0≤Go.bits .and .u64 a 4294967295∧Go.bits .and .u64 a 4294967295≤4294967295:=by
 obtain⟨A,rfl⟩:=xH8 h0
 rw[show(4294967295:Int)=((4294967295:Nat):Int) from rfl,Go.bits_and_u64_nat A 4294967295 (by omega) (by decide)]
 have:A &&& 4294967295≤4294967295:=Nat.and_le_right
 omega
theorem ySx {h l:Int}(h0:0≤h)(h1:h < 18446744073709551616)(l0:0≤l)(l1:l < 18446744073709551616):∃ q,q < 2 ^ 128∧H q=h∧L q=l:=by
 obtain⟨x,rfl⟩:=xH8 h0
 obtain⟨z,rfl⟩:=xH8 l0
 have hM:M64=18446744073709551616:=rfl
 have d1:(x * 18446744073709551616+z) / 18446744073709551616=x:=by omega
 have d2:(x * 18446744073709551616+z) % 18446744073709551616=z:=by omega
 refine⟨x * 18446744073709551616+z,by omega,?_,?_⟩
 ·unfold H;rw[hM,d1]
 ·unfold L;rw[hM,d2]
theorem YE0 {k:Nat}(hk:9≤k)(v a b:Int)(ha:0≤a)(ha2:a < 18446744073709551616)(hb:0≤b)(hb2:b < 18446744073709551616):∃ V B q,Kd' V B∧q < 2 ^ B∧Ye.f k v a b=some (V,H q,L q):=by
 unfold Ye.f
 split
 ·rw[xGq (zJg _)]
  obtain⟨h0,h1⟩:=yH0 a ha ha2
  have hr:0≤shr .u64 (Go.bits .and .u64 a 4294967295) (IntKind.u64.wrap (wrap64 (Go.bits .and .i64 (v / 2) 3 * 8)))∧shr .u64 (Go.bits .and .u64 a 4294967295) (IntKind.u64.wrap (wrap64 (Go.bits .and .i64 (v / 2) 3 * 8)))≤4294967295:=by
   unfold shr
   have hp:(0:Int) < 2 ^ min (IntKind.u64.wrap (wrap64 (Go.bits .and .i64 (v / 2) 3 * 8))).toNat IntKind.u64.bits:=Int.pow_pos (by decide)
   refine⟨Int.ediv_nonneg h0 (by omega),?_⟩
   have:=Int.ediv_le_self (2 ^ min (IntKind.u64.wrap (wrap64 (Go.bits .and .i64 (v / 2) 3 * 8))).toNat IntKind.u64.bits) h0
   omega
  obtain⟨Q,hQ⟩:=xH8 hr.1
  rw[hQ] at hr ⊢
  have d1:Q / M64=0:=Nat.div_eq_of_lt (by rw[m64];omega)
  have d2:Q % M64=Q:=xJc (by rw[m64];omega)
  refine⟨4,32,Q,.inl ⟨rfl,rfl⟩,by omega,?_⟩
  unfold H L
  rw[d1,d2]
  rfl
 ·obtain⟨h',l',e,q0,q1,q2,q3⟩:=YK0 v 8 k a b (by omega) (by omega) ha ha2 hb hb2
  obtain⟨Q,hQ,e1,e2⟩:=ySx q0 q1 q2 q3
  refine⟨6,128,Q,.inr ⟨rfl,rfl⟩,hQ,?_⟩
  rw[e1,e2]
  exact e
theorem yOy (x:Int){B:Nat}(hB:B≤128):∃ n:Nat,n≤B∧Int.tmod (Go.bits .and .i64 x 255) ((B:Int)+1)=(n:Int):=by
 have h:0≤Go.bits .and .i64 x 255∧Go.bits .and .i64 x 255≤255:=by
  show 0≤IntKind.i64.wrap ((BitVec.ofInt 64 x &&& BitVec.ofInt 64 255).toNat:Int)∧IntKind.i64.wrap ((BitVec.ofInt 64 x &&& BitVec.ofInt 64 255).toNat:Int)≤255
  have h:(BitVec.ofInt 64 x &&& BitVec.ofInt 64 255).toNat≤255:=by
   rw[BitVec.toNat_and]
   exact xHf Nat.and_le_right (by decide)
  rw[IntKind.wrap_i64]
  omega
 rw[Int.tmod_eq_emod_of_nonneg h.1]
 have h1:=Int.emod_nonneg (Go.bits .and .i64 x 255) (show(B:Int)+1≠0 by omega)
 have h2:=Int.emod_lt_of_pos (Go.bits .and .i64 x 255) (show 0 < (B:Int)+1 by omega)
 exact⟨(Go.bits .and .i64 x 255 % ((B:Int)+1)).toNat,by omega,by omega⟩
theorem yWg {v a b n V h l t r M1 M2 K1 K2 N1 N2 c1 c2 x y:Int}(h0:Ye.f 300 v a b=some (V,h,l))(hb:Yr.f V=some t)(hw:wrap64 (t+1)=r)(hr:r≠0){m:Int}(hm0:Int.tmod (Go.bits .and .i64 n 255) r=m)
  (hm:Yc.f 300 (wrap64 (wrap64 (128 - t)+m))=some (M1,M2)) (hk:Yc.f 300 (wrap64 (128 - t))=some (K1,K2)) (hn:YG.f K1 K2=some (N1,N2))
  (ha:Ys.f M1 M2 N1 N2=some (c1,c2)) (hx:Ys.f h l c1 c2=some (x,y)):YZ.f v a b n=some (V,x,y,m):=by
 unfold YZ.f
 rw[h0,xGp]
 simp only[hb,xGp,hw,xGr hr,hm0,hm,hk,hn,ha,hx]
theorem yOz {V:Int}{B m:Nat}(h:Kd' V B):Ys.f (H (zCb (128 - (B - m)))) (L (zCb (128 - (B - m)))) (H (zB1 - 1 - zCb (128 - B))) (L (zB1 - 1 - zCb (128 - B)))=some (H (2 ^ B - 2 ^ (B - m)),L (2 ^ B - 2 ^ (B - m))):=by
 have hB:=h.le
 obtain⟨f1,_,f3,_,f5,_⟩:=zIk h (j:=B - m) (by omega)
 have e2:=yOs (mask_lt (n:=128 - (B - m)) (by omega)) f5
 rw[f1] at e2
 exact e2
theorem yO0 {V:Int}{B q m:Nat}(h:Kd' V B)(hq:q < 2 ^ B):Ys.f (H q) (L q) (H (2 ^ B - 2 ^ (B - m))) (L (2 ^ B - 2 ^ (B - m)))=some (H (2 ^ (B - m) * (q / 2 ^ (B - m))),L (2 ^ (B - m) * (q / 2 ^ (B - m)))):=by
 obtain⟨_,_,f3,_,_,_⟩:=zIk h (j:=B - m) (by omega)
 have e3:=yOs (h.pow hq) f3
 rw[zJf q B (B - m) (by omega) hq] at e3
 exact e3
theorem yWh {V:Int}{B q m:Nat}(h:Kd' V B)(hq:q < 2 ^ B)(hm:m≤B):∃ u u2 u3 y c:Nat,(∀ k,300≤k→Yc.f k (wrap64 (wrap64 (128 - (B:Int))+(m:Int)))=some (H u,L u))∧(∀ k,300≤k→Yc.f k (wrap64 (128 - (B:Int)))=some (H u2,L u2))∧
  YG.f (H u2) (L u2)=some (H u3,L u3)∧Ys.f (H u) (L u) (H u3) (L u3)=some (H y,L y)∧Ys.f (H q) (L q) (H y) (L y)=some (H c,L c)∧c≤q∧c % 2 ^ (B - m)=0:=
 ⟨zCb (128 - (B - m)),zCb (128 - B),zB1 - 1 - zCb (128 - B),2 ^ B - 2 ^ (B - m),2 ^ (B - m) * (q / 2 ^ (B - m)),fun _ hk=>yJt h hm hk,fun _ hk=>yD3 h hk,yUh (mask_lt (by omega)),yOz h,yO0 h hq,Nat.mul_div_le _ _,Nat.mul_mod_right _ _⟩
theorem ySy (v a b n:Int)(ha:0≤a)(ha2:a < 18446744073709551616)(hb:0≤b)(hb2:b < 18446744073709551616):
  ∃ V B q m,Kd' V B∧q < 2 ^ B∧m≤B∧q % 2 ^ (B - m)=0∧YZ.f v a b n=some (V,H q,L q,((m:Nat):Int)):=by
 obtain⟨V,B,q,h,hq,e1⟩:=YE0 (k:=300) (by omega) v a b ha ha2 hb hb2
 have hB:=h.le
 have hne:(B:Int)+1≠0:=by clear e1;omega
 have w1:wrap64 ((B:Int)+1)=(B:Int)+1:=by clear e1;exact w64 (by omega) (by omega)
 obtain⟨m,hm,em⟩:=yOy n hB
 obtain⟨u,u2,u3,y,c,e4,e5,e6,e2,e3,hcut,hmod⟩:=yWh h hq hm
 exact⟨V,B,c,m,h,xH7 hcut hq,hm,hmod,yWg e1 h.rbits w1 hne em (e4 300 (xGv _)) (e5 300 (xGv _)) e6 e2 e3⟩
theorem ySz {q n:Nat}(hq:q < zB1)(hn:n < 4096):YN.f (H q) (L q) 0 (n:Int)=if q+n < zB1 then some (H (q+n),L (q+n),true) else some (0,0,false):=by
 have h1:=xId q M64
 have l1:=zUh q
 have x1:=yDy hq
 have h2:=xId (q+n) M64
 have l2:=zUh (q+n)
 have hM:M64=18446744073709551616:=rfl
 have hM2:zB1=340282366920938463463374607431768211456:=by decide
 unfold YN.f H L
 generalize q / M64=x at *
 generalize q % M64=z at *
 generalize (q+n) / M64=x' at *
 generalize (q+n) % M64=z' at *
 rw[hM] at h1 h2
 rw[hM2]
 simp only[IntKind.wrap_u64]
 by_cases c:z+n < 18446744073709551616
 ·rw[xGr (by omega),xGr (by omega),xGr (by omega),xGq (by omega)]
  simp only[xGu,xG5,and_true]
  omega
 ·rw[xGq (by omega),xGr (by omega)]
  by_cases c2:q+n < 340282366920938463463374607431768211456
  ·rw[xGr (by omega),xGq c2]
   simp only[xGu,xG5,and_true]
   omega
  ·rw[xGq (by omega),xGr c2]
end Go.Proofs.YtfnacgojmdbjmaaGreatDoor.PRD
namespace Go.Proofs.YtfnacgojmdbjmaaGreatDoor
open Go.Det Go.RowKit Go.Proofs.ZW PPH PRD
def ZP (l:List Int)(f t:Nat):Prop:=(f=0∧t=0)∨(f+2≤t∧t≤8∧∀ k,f≤k→k < t→l.getD k 0=0)
def yYk (k:Nat)(l:List Int)(f t i e:Nat):Option (Int×Int):=
 if(wrap64 ((e:Int) - (i:Int))) > (wrap64 ((t:Int) - (f:Int))) then(if(wrap64 ((e:Int) - (i:Int))) > 1 then(Yn.l0 k l (i:Int) (e:Int) 8 (wrap64 ((i:Int)+1))) else(Yn.l0 k l (f:Int) (t:Int) 8 (wrap64 ((i:Int)+1)))) else(Yn.l0 k l (f:Int) (t:Int) 8 (wrap64 ((i:Int)+1)))
theorem yD4 {k:Nat}{l:List Int}{f t i e:Nat}(h:ZP l f t)(hi:i≤e)(he:e≤8)(hi8:i < 8)(hz:∀ k,i≤k→k < e→l.getD k 0=0)
  (ih:∀ f t,ZP l f t→∃ f' t':Nat,ZP l f' t'∧Yn.l0 k l (f:Int) (t:Int) 8 ((i+1:Nat):Int)=some ((f':Int),(t':Int))):
  ∃ f' t':Nat,ZP l f' t'∧yYk k l f t i e=some ((f':Int),(t':Int)):=by
 have ht:t≤8:=by rcases h with⟨_,rfl⟩|h;omega;omega
 have hf:f≤t:=by rcases h with⟨rfl,rfl⟩|h;omega;omega
 have w1:wrap64 ((e:Int) - (i:Int))=((e - i:Nat):Int):=by rw[w64 (by omega) (by omega)];omega
 have w2:wrap64 ((t:Int) - (f:Int))=((t - f:Nat):Int):=by rw[w64 (by omega) (by omega)];omega
 have w3:wrap64 ((i:Int)+1)=((i+1:Nat):Int):=by rw[w64 (by omega) (by omega)];omega
 unfold yYk
 rw[w1,w2,w3]
 split
 ·split
  ·exact ih i e (.inr ⟨by omega,he,hz⟩)
  ·exact ih f t h
 ·exact ih f t h
theorem yS0 {l:List Int}(hl:l.length=8){i:Nat}(hi8:i < 8){K:Nat}(ih:∀ k,K≤k→∀ f t,ZP l f t→∃ f' t':Nat,ZP l f' t'∧Yn.l0 k l (f:Int) (t:Int) 8 ((i+1:Nat):Int)=some ((f':Int),(t':Int))):
  ∀ (m e k f t:Nat),e+m=8→i≤e→(∀ k,i≤k→k < e→l.getD k 0=0)→m+1+K≤k→ZP l f t→∃ f' t':Nat,ZP l f' t'∧Yn.l1 k l (f:Int) (t:Int) (i:Int) (e:Int) 8 (i:Int)=some ((f':Int),(t':Int)):=by
 intro m
 induction m with
 |zero=>
  intro e k f t he hi hz hk h
  obtain⟨k,rfl⟩:∃ j,k=j+1:=⟨k - 1,by omega⟩
  unfold Yn.l1
  rw[xGr (by rw[hl];omega)]
  exact yD4 h hi (by omega) hi8 hz (ih k (by omega))
 |succ m im=>
  intro e k f t he hi hz hk h
  obtain⟨k,rfl⟩:∃ j,k=j+1:=⟨k - 1,by omega⟩
  unfold Yn.l1
  rw[xGq (by rw[hl];omega),xGq (by omega)]
  have w:wrap64 ((e:Int)+1)=((e+1:Nat):Int):=by rw[w64 (by omega) (by omega)];omega
  split
  ·rename_i hr
   rw[w]
   refine im (e+1) k f t (by omega) (by omega) (fun j h1 h2=>?_) (by omega) h
   by_cases hj:j=e
   ·subst hj
    unfold rd at hr
    rwa [xG7] at hr
   ·exact hz j h1 (by omega)
  ·exact yD4 h hi (by omega) hi8 hz (ih k (by omega))
theorem yS1 {l:List Int}(hl:l.length=8):∀ (d i k f t:Nat),i+d=8→12 * d+2≤k→ZP l f t→∃ f' t':Nat,ZP l f' t'∧Yn.l0 k l (f:Int) (t:Int) 8 (i:Int)=some ((f':Int),(t':Int)):=by
 intro d
 induction d with
 |zero=>
  intro i k f t hi hk h
  obtain⟨k,rfl⟩:∃ j,k=j+1:=⟨k - 1,by omega⟩
  unfold Yn.l0
  rw[xGr (by omega)]
  exact⟨f,t,h,rfl⟩
 |succ d ih=>
  intro i k f t hi hk h
  obtain⟨k,rfl⟩:∃ j,k=j+1:=⟨k - 1,by omega⟩
  unfold Yn.l0
  rw[xGq (by omega)]
  exact yS0 hl (i:=i) (by omega) (K:=12 * d+2) (fun k hk f t h=>ih (i+1) k f t (by omega) hk h) (8 - i) i k f t (by omega) (xGv _) (fun j h1 h2=>by omega) (by omega) h
theorem zZr {f t:Nat}(h:(f=0∧t=0)∨(f+2≤t∧t≤8)):((f:Int),(t:Int))∈zPq:=by
 have key:∀ f:Fin 9,∀ t:Fin 9,((f.val=0∧t.val=0)∨(f.val+2≤t.val∧t.val≤8))→((f.val:Int),(t.val:Int))∈zPq:=by decide +kernel
 exact key ⟨f,by omega⟩ ⟨t,by omega⟩ h
theorem zXg {l:List Int}(hl:l.length=8):∃ f t:Nat,zGu l ()=some ((f:Int),(t:Int))∧((f:Int),(t:Int))∈zPq∧ZP l f t:=by
 obtain⟨f,t,h,e⟩:=yS1 hl 8 0 300 0 0 (by omega) (by omega) (.inl ⟨rfl,rfl⟩)
 refine⟨f,t,?_,zZr ?_,h⟩
 ·unfold zGu Yn.f
  rw[xGq (by omega),hl]
  exact e
 ·rcases h with h|h
  ·exact .inl h
  ·exact .inr ⟨h.1,h.2.1⟩
def zRu (n:Nat):ByteArray:=⟨⟨Txt.hexT n⟩⟩
theorem yS2 {n:Nat}(h:n < 65536):Yb0.f (n:Int) 16=some (zRu n):=by
 unfold Yb0.f yC9
 rw[xGq ⟨rfl,by omega,by omega⟩,xG7];rfl
theorem yO1 {ns:List Nat}(hn:∀ n∈ns,n < 65536)(hl:ns.length≤8):∀ (d i k:Nat) (acc:List ByteArray),i+d=ns.length→d+2≤k→acc.length≤i→
  YQ.l0 k acc (ns.map fun(n:Nat)=>(n:Int)) (ns.length:Int) (i:Int)=((YU.f (acc++(ns.drop i).map zRu) ⟨#[58]⟩).bind fun t=>some t):=by
 intro d
 induction d with
 |zero=>
  intro i k acc hi hk ha
  obtain⟨k,rfl⟩:∃ j,k=j+1:=⟨k - 1,by omega⟩
  unfold YQ.l0
  rw[xGr (by omega),xHj (by omega),xJa,xI3]
 |succ d ih=>
  intro i k acc hi hk ha
  obtain⟨k,rfl⟩:∃ j,k=j+1:=⟨k - 1,by omega⟩
  have hlt:i < ns.length:=by omega
  have e1:rd (ns.map fun(n:Nat)=>(n:Int)) (i:Int)=((ns[i]:Nat):Int):=by
   unfold rd
   rw[xG7,xGw,xIe,xGz hlt];rfl
  unfold YQ.l0
  rw[xGq (by omega),xGq (by omega),xGq (by rw[xHm];omega),e1,yS2 (hn _ (xH3 hlt)),xGp,xGq (by omega),w64 (by omega) (by omega)]
  have:=ih (i+1) k (acc++[zRu ns[i]]) (by omega) (by omega) (by rw[xG8,xHv];omega)
  rw[show((i:Int)+1)=((i+1:Nat):Int) by omega,this,xIa]
  conv=>rhs;rw[xHk hlt]
  rfl
theorem zXh:∀ ns:List Nat,Lib.lens (ns.map Txt.hexT)≤4 * ns.length
 |[]=>by simp[Lib.lens]
 |n::t=>by
  have:=zXh t
  have h:=(Txt.hexT_len n).2
  simp only[Lib.lens,xHx,List.sum_cons,xG4] at this ⊢
  omega
theorem zB4 {ns:List Nat}(hl:ns.length≤8):(Lib.join (ns.map Txt.hexT) [58]).length≤40:=by
 cases ns with
 |nil=>simp[Lib.join_nil]
 |cons n t=>
  have:=zXh (n::t)
  rw[xHx,Lib.join_length,← xHx]
  simp only[xG4,xHa,xHm] at this hl ⊢
  omega
theorem yD5 {ns:List Nat}(hl:ns.length≤8):YU.f (ns.map zRu) ⟨#[58]⟩=some ⟨⟨Lib.join (ns.map Txt.hexT) [58]⟩⟩:=by
 have e:zNe (ns.map zRu) ⟨#[58]⟩=⟨⟨Lib.join (ns.map Txt.hexT) [58]⟩⟩:=by
  unfold zNe
  rw[List.map_map]
  rfl
 unfold YU.f
 rw[e,xGq ⟨by rw[zFl];have:=zB4 hl;omega,by rw[xHm];omega⟩]
theorem zKd {ns:List Nat}(hn:∀ n∈ns,n < 65536)(hl:ns.length≤8):zNl (ns.map fun(n:Nat)=>(n:Int)) ()=some ⟨⟨Lib.join (ns.map Txt.hexT) [58]⟩⟩:=by
 unfold zNl YQ.f
 rw[xGq (by rw[xHm];exact hl),xHm]
 have:=yO1 hn hl ns.length 0 300 [] (by omega) (by omega) (xIc _)
 rw[show((0:Nat):Int)=0 from rfl] at this
 rw[this,xH4,xIm,yD5 hl];rfl
theorem yS3:∀ k:Fin 16,yQ5 dig16 (orI .u8 ((Txt.dg k.val).toNat:Int) 32)=some (k.val:Int)∧¬ ((Txt.dg k.val).toNat:Int) < 48:=by decide +kernel
theorem zGr {n k:Nat}(hn:n < 4096)(hk:k < 16)(t:List UInt8):zNk (n:Int) (Txt.dg k::t)=zNk ((n * 16+k:Nat):Int) t:=by
 obtain⟨h1,h2⟩:=yS3 ⟨k,hk⟩
 simp only at h1 h2
 rw[zNk,h1,xGp,xGr (by omega),xGr h2]
 have e1:zE2 .u64 (n:Int) 4=((n * 2 ^ 4:Nat):Int):=yC8 4 (by decide) (by omega)
 rw[e1,Go.Det.wrapU ⟨by omega,by omega⟩,zQ8 4 (by omega) (by omega)]
theorem zJh {k:Nat}(hk:k < 16)(t:List UInt8):zNk 0 (Txt.dg k::t)=zNk (k:Int) t:=by
 have:=zGr (n:=0) (by omega) hk t
 simpa using this
theorem yS4 {n:Nat}(h:n < 65536):Yk0.f (zRu n)=some ((n:Int),true):=by
 unfold Yk0.f zQ9 zRu
 rw[yFy]
 have hl:=Txt.hexT_len n
 rw[xGr (by omega)]
 unfold Txt.hexT
 split
 ·rw[zJh (by omega)];rfl
 ·split
  ·rw[zJh (by omega),zGr (by omega) (by omega),zNk]
   congr 2;omega
  ·split
   ·rw[zJh (by omega),zGr (by omega) (by omega),zGr (by omega) (by omega),zNk]
    congr 2;omega
   ·rw[zJh (by omega),zGr (by omega) (by omega),zGr (by omega) (by omega),zGr (by omega) (by omega),zNk]
    congr 2;omega
theorem yS5 {ns:List Nat}(hn:∀ n∈ns,n < 65536)(hl:ns.length≤8)(last:Bool):∀ (d i k:Nat) (acc:List Int),i+d=ns.length→2 * d+2≤k→acc.length≤i→
  Yg.l0 k last acc (ns.map zRu) (ns.map zRu) (ns.length:Int) (i:Int)=some (acc++(ns.drop i).map (fun(n:Nat)=>(n:Int)),true):=by
 intro d
 induction d with
 |zero=>
  intro i k acc hi hk ha
  obtain⟨k,rfl⟩:∃ j,k=j+1:=⟨k - 1,by omega⟩
  unfold Yg.l0
  rw[xGr (by omega),xHj (by omega),xJa,xI3]
 |succ d ih=>
  intro i k acc hi hk ha
  obtain⟨k,rfl⟩:∃ j,k=j+2:=⟨k - 2,by omega⟩
  have hlt:i < ns.length:=by omega
  have hni:=hn _ (xH3 hlt)
  have e1:zCl ByteArray.empty (ns.map zRu) (i:Int)=zRu ns[i]:=by
   unfold zCl
   rw[xG7,xGw,xIe,xGz hlt];rfl
  have ec:Yw.f (zRu ns[i]) ⟨#[46]⟩=some false:=by
   unfold Yw.f
   have hs:(zRu ns[i]).size < 4294967281:=by
    have:=(Txt.hexT_len ns[i]).2
    unfold zRu
    rw[zFl];omega
   rw[xGq hs]
   exact congrArg some (Txt.contains_no (Txt.hexT_sgn hni (by decide)))
  have ej:∀ x36,x36=false→Yg.j1 (k+1) last acc (ns.map zRu) (zRu ns[i]) (ns.map zRu) (ns.length:Int) (i:Int) x36=some (acc++(ns.drop i).map (fun(n:Nat)=>(n:Int)),true):=by
   rintro _ rfl
   unfold Yg.j1
   rw[xGr (by decide),yS4 hni,xGp,xGq rfl,xGq (by omega),w64 (by omega) (by omega),show((i:Int)+1)=((i+1:Nat):Int) by omega,
    ih (i+1) k (acc++[((ns[i]:Nat):Int)]) (by omega) (by omega) (by rw[xG8,xHv];omega),xIa]
   conv=>rhs;rw[xHk hlt]
   rfl
  unfold Yg.l0
  rw[xGq (by omega),xGq (by omega),xGq (by rw[xHm];omega),e1]
  split
  ·split
   ·rw[ec,xGp];exact ej _ rfl
   ·exact ej _ rfl
  ·exact ej _ rfl
theorem zVt {ns:List Nat}(h:ns≠[]):Lib.join (ns.map Txt.hexT) [58]≠[]:=by
 cases ns with
 |nil=>exact absurd rfl h
 |cons n t=>
  rw[xHx,Lib.join_cons]
  intro e
  exact Txt.hexT_ne n (List.append_eq_nil_iff.1 e).1
theorem zXi {ns:List Nat}(hn:∀ n∈ns,n < 65536)(hl:ns.length≤8)(last:Bool):zBi (⟨⟨Lib.join (ns.map Txt.hexT) [58]⟩⟩,last)=some (ns.map (fun(n:Nat)=>(n:Int)),true):=by
 unfold zBi Yg.f
 cases hns:ns with
 |nil=>
  rw[xGq (by rw[ByteArray.toList_eq];rfl)]
  rfl
 |cons n0 t0=>
  rw[← hns]
  have hne:ns≠[]:=by rw[hns];simp
  rw[xGr (by rw[ByteArray.toList_eq];exact zVt hne)]
  have es:YD.f ⟨⟨Lib.join (ns.map Txt.hexT) [58]⟩⟩ ⟨#[58]⟩=some (ns.map zRu):=by
   unfold YD.f
   rw[xGq ⟨by rw[zFl];have:=zB4 hl;omega,by decide⟩]
   have:=Txt.splitB_join (c:=58) (ns.map Txt.hexT) (by simpa using hne) (fun p hp=>by
    obtain⟨m,hm,rfl⟩:=xJb.1 hp
    exact Txt.hexT_sgn (hn m hm) (by decide))
   rw[List.map_map] at this
   exact congrArg some this
  simp only
  rw[es,xGp,xHm]
  have:=yS5 hn hl last ns.length 0 1000 [] (by omega) (by omega) (xIc _)
  rw[show((0:Nat):Int)=0 from rfl] at this
  rw[this,xH4,xIm]
def zD1 (n:Nat):ByteArray:=⟨⟨Txt.decT n⟩⟩
theorem yD6 {n:Nat}(h:n < 256):zNj (n:Int)=some (zD1 n):=by
 unfold zNj
 rw[xGq ⟨by omega,by omega⟩,xG7];rfl
theorem yO2:∀ n:Fin 256,zRa (zD1 n.val) 255=some ((n.val:Int),true):=by decide +kernel
theorem yS6 {n:Nat}(h:n < 256):Ye0.f (zD1 n) 255=some ((n:Int),true):=yO2 ⟨n,h⟩
theorem zLl (n:Nat):(Txt.decT n).length≤3:=by
 unfold Txt.decT
 split
 ·simp
 ·split<;>simp
theorem zHh {q:Nat}(hq:q < 18446744073709551616)(s:Nat)(hs:s≤64):zNj (andI .u64 (shrI .u64 (q:Int) (s:Int)) 255)=some (zD1 (q / 2 ^ s % 256)):=by
 rw[zVo s hs]
 have h1:q / 2 ^ s≤q:=Nat.div_le_self _ _
 obtain⟨x,hx⟩:∃ x,x=q / 2 ^ s:=⟨_,rfl⟩
 rw[← hx] at h1 ⊢
 have e:andI .u64 (x:Int) 255=((x % 256:Nat):Int):=zIj (by omega) 8 (by decide)
 rw[e,yD6 (by omega)]
def zZs (a b c d:Nat):List UInt8:=Lib.join [Txt.decT a,Txt.decT b,Txt.decT c,Txt.decT d] [46]
theorem zRg (a b c d:Nat):(zZs a b c d).length≤15:=by
 unfold zZs
 have h1:=zLl a
 have h2:=zLl b
 have h3:=zLl c
 have h4:=zLl d
 rw[Lib.join_length]
 simp only[Lib.lens,xHx,xJa,List.sum_cons,List.sum_nil,xG4,xHa]
 omega
theorem zTt (a b c d:Nat):zZo [zD1 a,zD1 b,zD1 c,zD1 d] yV7=some ⟨⟨zZs a b c d⟩⟩:=by
 have e:zNe [zD1 a,zD1 b,zD1 c,zD1 d] yV7=⟨⟨zZs a b c d⟩⟩:=rfl
 unfold zZo
 rw[e,xGq ⟨by rw[zFl];have:=zRg a b c d;omega,by simp only[xG4,xHa];omega⟩]
theorem yO3 {x n:Nat}(hx:x < 16777216)(hn:n < 256):Go.bits .or .u64 (IntKind.u64.wrap ((x:Int) * 256)) (Go.bits .and .u64 (n:Int) 255)=((x * 256+n:Nat):Int):=by
 have e1:Go.bits .and .u64 (n:Int) 255=((n % 256:Nat):Int):=zIj (by omega) 8 (by decide)
 have e2:IntKind.u64.wrap ((x:Int) * 256)=((x * 2 ^ 8:Nat):Int):=by rw[Go.Det.wrapU ⟨by omega,by omega⟩];omega
 rw[e1,e2,xJc hn]
 exact zQ8 (s:=8) (by omega) (by omega)
theorem yO4 {a b c d:Nat}(ha:a < 256)(hb:b < 256)(hc:c < 256)(hd:d < 256):Yp.f 1000 ⟨⟨zZs a b c d⟩⟩=some (((((a * 256+b) * 256+c) * 256+d:Nat):Int),true):=by
 have es:YD.f ⟨⟨zZs a b c d⟩⟩ ⟨#[46]⟩=some [zD1 a,zD1 b,zD1 c,zD1 d]:=by
  unfold YD.f
  rw[xGq ⟨by rw[zFl];have:=zRg a b c d;omega,by decide⟩]
  exact congrArg some (Txt.splitB_join (c:=46) [Txt.decT a,Txt.decT b,Txt.decT c,Txt.decT d] (by simp) (fun p hp=>by
   simp only[xG6,xHh,or_false] at hp
   rcases hp with rfl|rfl|rfl|rfl
   ·exact Txt.decT_sgn ha (by decide)
   ·exact Txt.decT_sgn hb (by decide)
   ·exact Txt.decT_sgn hc (by decide)
   ·exact Txt.decT_sgn hd (by decide)))
 unfold Yp.f
 rw[es,xGp]
 have step:∀ (k i x n:Nat),i < 4→x < 16777216→n < 256→[zD1 a,zD1 b,zD1 c,zD1 d][i]?=some (zD1 n)→
   Yp.l0 (k+1) [zD1 a,zD1 b,zD1 c,zD1 d] (x:Int) [zD1 a,zD1 b,zD1 c,zD1 d] 4 (i:Int)=Yp.l0 k [zD1 a,zD1 b,zD1 c,zD1 d] ((x * 256+n:Nat):Int) [zD1 a,zD1 b,zD1 c,zD1 d] 4 ((i+1:Nat):Int):=by
  intro k i x n hi hx hn hg
  have e1:zCl ByteArray.empty [zD1 a,zD1 b,zD1 c,zD1 d] (i:Int)=zD1 n:=by
   unfold zCl
   rw[xG7,xGw,hg];rfl
  conv=>lhs;unfold Yp.l0
  rw[xGq (by omega),xGq (by omega),xGq (by simp only[xG4,xHa];omega),e1,yS6 hn,xGp,xGq rfl,yO3 hx hn,w64 (by omega) (by omega)]
  rfl
 have h0:=step 999 0 0 a (by omega) (by omega) ha rfl
 have h1:=step 998 1 a b (by omega) (by omega) hb rfl
 have h2:=step 997 2 (a * 256+b) c (by omega) (by omega) hc rfl
 have h3:=step 996 3 ((a * 256+b) * 256+c) d (by omega) (by omega) hd rfl
 have e0:0 * 256+a=a:=by omega
 rw[e0] at h0
 have ee:Yp.l0 996 [zD1 a,zD1 b,zD1 c,zD1 d] ((((a * 256+b) * 256+c) * 256+d:Nat):Int) [zD1 a,zD1 b,zD1 c,zD1 d] 4 ((3+1:Nat):Int)=some (((((a * 256+b) * 256+c) * 256+d:Nat):Int),true):=by
  conv=>lhs;unfold Yp.l0
  rw[xGr (by omega)]
  rfl
 exact h0.trans (h1.trans (h2.trans (h3.trans ee)))
theorem zRh {h:Nat}(hh:h < 18446744073709551616):zDi (h:Int)=[h / 281474976710656 % 65536,h / 4294967296 % 65536,h / 65536 % 65536,h % 65536].map (fun(n:Nat)=>(n:Int)):=by
 have p:∀ (s:Nat),s≤64→andI .u64 (shrI .u64 (h:Int) (s:Int)) 65535=((h / 2 ^ s % 65536:Nat):Int):=by
  intro s hs
  rw[zVo s hs]
  have h1:h / 2 ^ s≤h:=Nat.div_le_self _ _
  obtain⟨x,hx⟩:∃ x,x=h / 2 ^ s:=⟨_,rfl⟩
  rw[← hx] at h1 ⊢
  exact zIj (by omega) 16 (by decide)
 have p0:=p 0 (by omega)
 have p1:=p 16 (by omega)
 have p2:=p 32 (by omega)
 have p3:=p 48 (by omega)
 rw[Nat.pow_zero,Nat.div_one] at p0
 unfold zDi
 simp only[xHx,xJa]
 exact congr (congrArg List.cons p3) (congr (congrArg List.cons p2) (congr (congrArg List.cons p1) (congrArg (List.cons · []) p0)))
theorem yD7 {a b c d:Nat}(ha:a < 65536)(hb:b < 65536)(hc:c < 65536)(hd:d < 65536):zVr (a:Int) (b:Int) (c:Int) (d:Int)=((((a * 65536+b) * 65536+c) * 65536+d:Nat):Int):=by
 have st:∀ {x n:Nat},x < 281474976710656→n < 65536→orI .u64 (zE2 .u64 (x:Int) 16) (n:Int)=((x * 65536+n:Nat):Int):=by
  intro x n hx hn
  have e1:zE2 .u64 (x:Int) 16=((x * 2 ^ 16:Nat):Int):=yC8 16 (by decide) (by omega)
  rw[e1]
  exact zQ8 16 (by omega) (by omega)
 have s0:=st (x:=0) (n:=a) (by omega) ha
 rw[show 0 * 65536+a=a by omega] at s0
 unfold zVr
 rw[show((0:Int))=((0:Nat):Int) from rfl,s0,st (by omega) hb,st (by omega) hc,st (by omega) hd]
theorem yO5 {l:List Int}(hl:l.length=8){f t:Nat}(hft:f+2≤t)(ht:t≤8)(hz:∀ k,f≤k→k < t→l.getD k 0=0):l.take f++List.replicate (8 - ((l.take f).length+(l.drop t).length)) 0++l.drop t=l:=by
 have e:8 - ((l.take f).length+(l.drop t).length)=t - f:=by rw[xHn,xHt];omega
 rw[e]
 have e2:List.replicate (t - f) (0:Int)=(l.drop f).take (t - f):=by
  refine List.ext_getElem (by rw[List.length_replicate,xHn,xHt];omega) fun i h1 h2=>?_
  rw[List.length_replicate] at h1
  have:=hz (f+i) (by omega) (by omega)
  rw[xGw,xGz (by omega)] at this
  rw[List.getElem_replicate,List.getElem_take,List.getElem_drop]
  exact this.symm
 rw[e2,xIa]
 have e3:l.drop t=(l.drop f).drop (t - f):=by rw[List.drop_drop];congr 1;omega
 rw[e3,List.take_append_drop,List.take_append_drop]
structure PT (s:List UInt8):Prop where
 len:s.length≤100
 ne:s≠[]
 sl:(47:UInt8)∉s
 da:(45:UInt8)∉s
theorem zNo (s:List UInt8)(c:UInt8)(h:s.length≤1000):Yw.f ⟨⟨s⟩⟩ ⟨#[c]⟩=some (Lib.contains s [c]):=by
 unfold Yw.f
 rw[xGq (by rw[zFl];omega)]
theorem yWi {q:Nat}(hq:q < 4294967296):∃ s,PT s∧prF 4 0 (q:Int)=some ⟨⟨s⟩⟩∧YH.f ⟨⟨s⟩⟩=some (4,0,(q:Int),true):=by
 have b0:=zHh (q:=q) (by omega) 24 (by omega)
 have b1:=zHh (q:=q) (by omega) 16 (by omega)
 have b2:=zHh (q:=q) (by omega) 8 (by omega)
 have b3:=zHh (q:=q) (by omega) 0 (by omega)
 have e0:q / 2 ^ 24 % 256=q / 16777216 % 256:=rfl
 have e1:q / 2 ^ 16 % 256=q / 65536 % 256:=rfl
 have e2:q / 2 ^ 8 % 256=q / 256 % 256:=rfl
 have e3:q / 2 ^ 0 % 256=q % 256:=by rw[Nat.pow_zero,Nat.div_one]
 rw[e0] at b0
 rw[e1] at b1
 rw[e2] at b2
 rw[e3] at b3
 have hj:=zTt (q / 16777216 % 256) (q / 65536 % 256) (q / 256 % 256) (q % 256)
 have h4:=yO4 (a:=q / 16777216 % 256) (b:=q / 65536 % 256) (c:=q / 256 % 256) (d:=q % 256) (by omega) (by omega) (by omega) (by omega)
 have hl:=zRg (q / 16777216 % 256) (q / 65536 % 256) (q / 256 % 256) (q % 256)
 have hq':((q / 16777216 % 256 * 256+q / 65536 % 256) * 256+q / 256 % 256) * 256+q % 256=q:=by omega
 rw[hq'] at h4
 have hn:∀ c,Txt.sgn c=true→c≠46→c∉zZs (q / 16777216 % 256) (q / 65536 % 256) (q / 256 % 256) (q % 256):=by
  intro c hc hd
  refine Txt.not_mem_join hd _ fun p hp=>?_
  simp only[xG6,xHh,or_false] at hp
  rcases hp with rfl|rfl|rfl|rfl
  ·exact Txt.decT_sgn (by omega) hc
  ·exact Txt.decT_sgn (by omega) hc
  ·exact Txt.decT_sgn (by omega) hc
  ·exact Txt.decT_sgn (by omega) hc
 refine⟨zZs (q / 16777216 % 256) (q / 65536 % 256) (q / 256 % 256) (q % 256),⟨by omega,?_,hn 47 (by decide) (by decide),hn 45 (by decide) (by decide)⟩,?_,?_⟩
 ·unfold zZs
  rw[Lib.join_cons]
  intro e
  exact Txt.decT_ne _ (List.append_eq_nil_iff.1 e).1
 ·unfold prF okF
  rw[xGr (by decide),xGq rfl,xGq rfl,xGp,xGq (by rw[xIj];omega),xGq rfl]
  unfold pr4
  have b0':zNj (andI .u64 (shrI .u64 (q:Int) 24) 255)=_:=b0
  have b1':zNj (andI .u64 (shrI .u64 (q:Int) 16) 255)=_:=b1
  have b2':zNj (andI .u64 (shrI .u64 (q:Int) 8) 255)=_:=b2
  have b3':zNj (andI .u64 (shrI .u64 (q:Int) 0) 255)=_:=b3
  rw[b0',xGp,b1',xGp,b2',xGp,b3',xGp,hj]
 ·unfold YH.f
  have hc:=zNo (zZs (q / 16777216 % 256) (q / 65536 % 256) (q / 256 % 256) (q % 256)) 58 (by omega)
  rw[Txt.contains_no (hn 58 (by decide) (by decide))] at hc
  have hc':Yw.f ⟨⟨zZs (q / 16777216 % 256) (q / 65536 % 256) (q / 256 % 256) (q % 256)⟩⟩ { data:=#[58] }=some false:=hc
  rw[hc',xGp,xGr (by decide),h4,xGp,xGq rfl]
theorem yD8 (s sep:List UInt8)(h:s.length≤1000):zDg ⟨⟨s⟩⟩ ⟨⟨sep⟩⟩=some (⟨⟨(Lib.cut s sep).1⟩⟩,⟨⟨(Lib.cut s sep).2.1⟩⟩,(Lib.cut s sep).2.2):=by
 unfold zDg
 rw[xGq (by rw[zFl];omega)]
 rfl
structure G8 (ns:List Nat):Prop where
 len:ns.length=8
 lt:∀ n∈ns,n < 65536
def zDn (ns:List Nat):List Int:=ns.map fun(n:Nat)=>(n:Int)
theorem zJi (ns:List Nat):(zDn ns).length=ns.length:=xHm ..
theorem yD9 {ns:List Nat}(h:G8 ns):zVs ⟨⟨Lib.join (ns.map Txt.hexT) [58]⟩⟩=some (6,(zFm (zDn ns)).1,(zFm (zDn ns)).2,true):=by
 have hl:=zB4 (ns:=ns) (by rw[h.len];omega)
 have hne:ns≠[]:=by intro e;have:=h.len;rw[e] at this;simp at this
 have htw:Txt.twice 58 (Lib.join (ns.map Txt.hexT) [58])=false:=by
  have:=Txt.twice_join (c:=58) (ns.map Txt.hexT) (fun p hp=>by
   obtain⟨m,hm,rfl⟩:=xJb.1 hp
   exact⟨Txt.hexT_sgn (h.lt m hm) (by decide),Txt.hexT_ne m⟩) []
  rw[xI3] at this
  exact this
 have hc:=yD8 (Lib.join (ns.map Txt.hexT) [58]) [58,58] (by omega)
 rw[Txt.cut_miss htw] at hc
 have hc':zDg ⟨⟨Lib.join (ns.map Txt.hexT) [58]⟩⟩ { data:=#[58,58] }=some (⟨⟨Lib.join (ns.map Txt.hexT) [58]⟩⟩,⟨⟨[]⟩⟩,false):=hc
 have r1:=zXi h.lt (by rw[h.len];omega) true
 have r2:=zXi (ns:=[]) (by simp) (by simp) true
 have r2':zBi (⟨⟨[]⟩⟩,true)=some ([],true):=r2
 unfold zVs
 rw[hc',xGp]
 simp only
 rw[show(!false)=true from rfl,r1,xGp,r2',xGp]
 have hB:zXb ⟨⟨Lib.join (ns.map Txt.hexT) [58]⟩⟩ false (zDn ns,true) ([],true)=false:=by
  unfold zXb
  simp only[Bool.not_true,Bool.false_or,yFy,zJi,h.len,xHa]
  rw[xG1 (zVt hne)];rfl
 have hB':¬ zXb ⟨⟨Lib.join (ns.map Txt.hexT) [58]⟩⟩ false (ns.map fun(n:Nat)=>(n:Int),true) ([],true)=true:=by
  intro e;exact absurd (e.symm.trans hB) (by decide)
 rw[xGr hB']
 simp only[xHm,h.len,xHa,Nat.add_zero,Nat.sub_self,List.replicate_zero,xI3]
 rfl
theorem yO6 {ns:List Nat}(h:G8 ns){f t:Nat}(hft:f+2≤t)(ht:t≤8)(hz:∀ k,f≤k→k < t→(zDn ns).getD k 0=0):
  zVs ⟨⟨Lib.join ((ns.take f).map Txt.hexT) [58]++58::58::Lib.join ((ns.drop t).map Txt.hexT) [58]⟩⟩=some (6,(zFm (zDn ns)).1,(zFm (zDn ns)).2,true):=by
 have lf:(ns.take f).length≤8:=by rw[xHn,h.len];omega
 have lt:(ns.drop t).length≤8:=by rw[xHt,h.len];omega
 have gf:∀ n∈ns.take f,n < 65536:=fun n hn=>h.lt n (List.mem_of_mem_take hn)
 have gt:∀ n∈ns.drop t,n < 65536:=fun n hn=>h.lt n (List.mem_of_mem_drop hn)
 have l1:=zB4 lf
 have l2:=zB4 lt
 have htw:Txt.twice 58 (Lib.join ((ns.take f).map Txt.hexT) [58]++[58])=false:=by
  rw[Txt.twice_join (c:=58) ((ns.take f).map Txt.hexT) (fun p hp=>by
   obtain⟨m,hm,rfl⟩:=xJb.1 hp
   exact⟨Txt.hexT_sgn (gf m hm) (by decide),Txt.hexT_ne m⟩) [58]]
  rfl
 have hc:=yD8 (Lib.join ((ns.take f).map Txt.hexT) [58]++58::58::Lib.join ((ns.drop t).map Txt.hexT) [58]) [58,58] (by simp only[xG8,xG4];omega)
 rw[Txt.cut_hit _ htw] at hc
 have hc':zDg ⟨⟨Lib.join ((ns.take f).map Txt.hexT) [58]++58::58::Lib.join ((ns.drop t).map Txt.hexT) [58]⟩⟩ { data:=#[58,58] }=some (⟨⟨Lib.join ((ns.take f).map Txt.hexT) [58]⟩⟩,⟨⟨Lib.join ((ns.drop t).map Txt.hexT) [58]⟩⟩,true):=hc
 have r1:=zXi gf lf false
 have r2:=zXi gt lt true
 unfold zVs
 rw[hc',xGp]
 simp only
 rw[show(!true)=false from rfl,r1,xGp,r2,xGp]
 have hlen:(ns.take f).length+(ns.drop t).length=f+(8 - t):=by rw[xHn,xHt,h.len];omega
 have hB:∀ X Y:List Int,X.length=(ns.take f).length→Y.length=(ns.drop t).length→zXb ⟨⟨Lib.join ((ns.take f).map Txt.hexT) [58]++58::58::Lib.join ((ns.drop t).map Txt.hexT) [58]⟩⟩ true (X,true) (Y,true)=false:=by
  intro X Y hX hY
  unfold zXb
  simp only[Bool.not_true,Bool.false_or,yFy]
  rw[xG1 (by simp),Bool.false_or,hX,hY,hlen]
  exact xG1 (by omega)
 rw[xGr (by rw[hB _ _ (xHm ..) (xHm ..)];decide)]
 have hf:=yO5 (l:=zDn ns) (by rw[zJi,h.len]) hft ht hz
 unfold zDn at hf ⊢
 rw[← List.map_take,← List.map_drop] at hf
 rw[hf]
theorem yJv (a b:List UInt8):(⟨⟨a⟩⟩:ByteArray)++ySp++(⟨⟨b⟩⟩:ByteArray)=⟨⟨a++58::58::b⟩⟩:=by
 have h:((⟨⟨a⟩⟩:ByteArray)++ySp++(⟨⟨b⟩⟩:ByteArray)).data.toList=a++58::58::b:=by
  simp[ySp]
 have e:∀ x:ByteArray,x=⟨⟨x.data.toList⟩⟩:=fun _=>rfl
 rw[e ((⟨⟨a⟩⟩:ByteArray)++ySp++(⟨⟨b⟩⟩:ByteArray)),h]
theorem yJw {h:Nat}(hh:h < 18446744073709551616):((h / 281474976710656 % 65536 * 65536+h / 4294967296 % 65536) * 65536+h / 65536 % 65536) * 65536+h % 65536=h:=by omega
theorem yWj {h l:Nat}(hh:h < 18446744073709551616)(hl:l < 18446744073709551616):∃ s,PT s∧prF 6 (h:Int) (l:Int)=some ⟨⟨s⟩⟩∧YH.f ⟨⟨s⟩⟩=some (6,(h:Int),(l:Int),true):=by
 obtain⟨ns,hns⟩:∃ ns,ns=[h / 281474976710656 % 65536,h / 4294967296 % 65536,h / 65536 % 65536,h % 65536,l / 281474976710656 % 65536,l / 4294967296 % 65536,l / 65536 % 65536,l % 65536]:=⟨_,rfl⟩
 have G:G8 ns:=by
  subst hns
  refine⟨rfl,fun n hn=>?_⟩
  simp only[xG6,xHh,or_false] at hn
  rcases hn with rfl|rfl|rfl|rfl|rfl|rfl|rfl|rfl<;>omega
 have hg:grp (h:Int) (l:Int)=zDn ns:=by
  unfold grp zDn
  rw[zRh hh,zRh hl,hns]
  simp only[xHx,xJa,xIs,xH4]
 have hc8:zFm (zDn ns)=((h:Int),(l:Int)):=by
  have c1:=yD7 (a:=h / 281474976710656 % 65536) (b:=h / 4294967296 % 65536) (c:=h / 65536 % 65536) (d:=h % 65536) (by omega) (by omega) (by omega) (by omega)
  have c2:=yD7 (a:=l / 281474976710656 % 65536) (b:=l / 4294967296 % 65536) (c:=l / 65536 % 65536) (d:=l % 65536) (by omega) (by omega) (by omega) (by omega)
  have d1:((h / 281474976710656 % 65536 * 65536+h / 4294967296 % 65536) * 65536+h / 65536 % 65536) * 65536+h % 65536=h:=yJw hh
  have d2:((l / 281474976710656 % 65536 * 65536+l / 4294967296 % 65536) * 65536+l / 65536 % 65536) * 65536+l % 65536=l:=yJw hl
  rw[d1] at c1
  rw[d2] at c2
  rw[hns]
  show(zVr _ _ _ _,zVr _ _ _ _)=_
  rw[c1,c2]
 have sg:∀ ms:List Nat,(∀ n∈ms,n < 65536)→∀ c,Txt.sgn c=true→c≠58→c∉Lib.join (ms.map Txt.hexT) [58]:=by
  intro ms hm c hc hd
  refine Txt.not_mem_join hd _ fun p hp=>?_
  obtain⟨m,hmm,rfl⟩:=xJb.1 hp
  exact Txt.hexT_sgn (hm m hmm) hc
 have parse:∀ s:List UInt8,s.length≤1000→(58:UInt8)∈s→zVs ⟨⟨s⟩⟩=some (6,(zFm (zDn ns)).1,(zFm (zDn ns)).2,true)→YH.f ⟨⟨s⟩⟩=some (6,(h:Int),(l:Int),true):=by
  intro s hs hm h6
  unfold YH.f
  have hc:=zNo s 58 hs
  rw[Txt.contains_yes hm] at hc
  have hc':Yw.f ⟨⟨s⟩⟩ { data:=#[58] }=some true:=hc
  unfold YC0.f
  rw[hc',xGp,xGq rfl,h6,hc8];rfl
 have hpr:∀ s,((zGu (zDn ns) ()).bind fun ij=>pr6 (zDn ns) ij)=some s→prF 6 (h:Int) (l:Int)=some s:=by
  intro s hs
  unfold prF okF
  rw[xGq rfl,xGp,xGq rfl,xGr (by decide),hg]
  exact hs
 obtain⟨f,t,hz,hm,hP⟩:=zXg (l:=zDn ns) (by rw[zJi,G.len])
 rcases hP with⟨rfl,rfl⟩|⟨hft,ht,hzz⟩
 ·have hlen:=zB4 (ns:=ns) (by rw[G.len];omega)
  have htx:=zKd G.lt (by rw[G.len];omega)
  refine⟨Lib.join (ns.map Txt.hexT) [58],⟨by omega,zVt (by intro e;have:=G.len;rw[e] at this;simp at this),sg ns G.lt 47 (by decide) (by decide),sg ns G.lt 45 (by decide) (by decide)⟩,hpr _ ?_,parse _ (by omega) ?_ (yD9 G)⟩
  ·rw[hz,xGp]
   unfold pr6
   rw[xGq (show((((0:Nat):Int),((0:Nat):Int)):Int×Int)=(0,0) from rfl)]
   exact htx
  ·rw[hns,xHx,xHx,Txt.join_more]
   simp
 ·have lf:(ns.take f).length≤8:=by rw[xHn,G.len];omega
  have lt:(ns.drop t).length≤8:=by rw[xHt,G.len];omega
  have gf:∀ n∈ns.take f,n < 65536:=fun n hn=>G.lt n (List.mem_of_mem_take hn)
  have gt:∀ n∈ns.drop t,n < 65536:=fun n hn=>G.lt n (List.mem_of_mem_drop hn)
  have l1:=zB4 lf
  have l2:=zB4 lt
  have t1:=zKd gf lf
  have t2:=zKd gt lt
  have hs:∀ c,Txt.sgn c=true→c≠58→c∉Lib.join ((ns.take f).map Txt.hexT) [58]++58::58::Lib.join ((ns.drop t).map Txt.hexT) [58]:=by
   intro c hc hd
   simp only[List.mem_append,xG6,not_or]
   exact⟨sg _ gf c hc hd,hd,hd,sg _ gt c hc hd⟩
  refine⟨Lib.join ((ns.take f).map Txt.hexT) [58]++58::58::Lib.join ((ns.drop t).map Txt.hexT) [58],⟨by simp only[xG8,xG4];omega,by simp,hs 47 (by decide) (by decide),hs 45 (by decide) (by decide)⟩,hpr _ ?_,parse _ (by simp only[xG8,xG4];omega) (by simp) (yO6 G hft ht hzz)⟩
  rw[hz,xGp]
  unfold pr6
  rw[xGr (by intro e;have:=congrArg Prod.snd e;simp only at this;omega),xGq hm]
  simp only[xG7]
  have e1:(zDn ns).take f=(ns.take f).map fun(n:Nat)=>(n:Int):=(List.map_take ..).symm
  have e2:(zDn ns).drop t=(ns.drop t).map fun(n:Nat)=>(n:Int):=(List.map_drop ..).symm
  rw[e1,e2,t1,xGp,t2,xGp,xGq (by rw[zFl,zFl];omega),yJv]
theorem zPs (sep:ByteArray):∀ (k:Nat) (s p:ByteArray),p∈Lib.splitB sep 0 k s→p.size≤s.size
 |0,s,p,h=>by
  rw[Lib.splitB_zero] at h
  rw[xHs.1 h]
  exact xGv _
 |k+1,s,p,h=>by
  unfold Lib.splitB at h
  split at h
  ·rw[xHs.1 h]
   exact xGv _
  ·rcases xG6.1 h with rfl|h
   ·rw[xI5];omega
   ·have:=zPs sep k _ p h
    rw[xI5] at this;omega
theorem zE1 {s sep:ByteArray}(hs:s.size≤400)(hp:1≤sep.size):∃ l:List ByteArray,YD.f s sep=some l∧1≤l.length∧l.length≤s.size+1∧∀ p∈l,p.size≤s.size:=by
 have hl:=Lib.splitB_all sep hp 0 (Lib.countB s sep) s rfl
 have hc:=Lib.countB_le sep hp s.size s (xGv _)
 exact⟨_,xGq ⟨by omega,hp⟩,by omega,by omega,fun p h=>zPs sep _ s p h⟩
theorem zRi (m:Int):∀ (l:List UInt8) (n:Int),∃ r,zUg m n l=some r
 |[],n=>by unfold zUg;split<;>exact⟨_,rfl⟩
 |c::t,n=>by
  unfold zUg
  repeat' first
   |exact⟨_,rfl⟩
   |exact zRi m t _
   |split
theorem zNp (s:ByteArray):∃ r,zRa s 255=some r:=by
 unfold zRa
 rw[xGq (by omega)]
 split
 ·exact⟨_,rfl⟩
 ·split
  ·split
   ·exact zRi _ _ _
   ·exact⟨_,rfl⟩
  ·exact zRi _ _ _
theorem zXj:∀ (l:List UInt8) (n:Int),∃ r,zNk n l=some r
 |[],n=>⟨_,rfl⟩
 |c::t,n=>by
  unfold zNk yQ5
  rw[xGp]
  split
  ·exact⟨_,rfl⟩
  ·split
   ·exact⟨_,rfl⟩
   ·exact zXj t _
theorem zVu (s:ByteArray):∃ r,zQ9 s=some r:=by
 unfold zQ9
 split
 ·exact⟨_,rfl⟩
 ·exact zXj _ _
theorem yH1 (m:Int):∃ b:Nat,b < 256∧Go.bits .and .u64 m 255=(b:Int):=by
 refine⟨(BitVec.ofInt 64 m &&& BitVec.ofInt 64 255).toNat,?_,?_⟩
 ·rw[BitVec.toNat_and]
  have:(BitVec.ofInt 64 255).toNat=255:=by decide
  rw[this]
  exact xH7 Nat.and_le_right (by decide)
 ·exact Go.Det.wrapU ⟨by omega,by have:=(BitVec.ofInt 64 m &&& BitVec.ofInt 64 255).isLt;simp only[IntKind.bits];omega⟩
theorem zZt (op:BinOp)(x y:Int):∃ n:Nat,n < 18446744073709551616∧Go.bits op .u64 x y=(n:Int):=by
 have h:∀ v:Int,∃ n:Nat,n < 18446744073709551616∧IntKind.u64.wrap v=(n:Int):=fun v=>by
  rw[IntKind.wrap_u64]
  exact⟨(v % 18446744073709551616).toNat,by omega,by omega⟩
 unfold Go.bits
 exact h _
theorem yH2 (x y:Int):∃ n:Nat,n < 18446744073709551616∧orI .u64 x y=(n:Int):=by
 have h:∀ v:Int,∃ n:Nat,n < 18446744073709551616∧IntKind.u64.wrap v=(n:Int):=fun v=>by
  rw[IntKind.wrap_u64]
  exact⟨(v % 18446744073709551616).toNat,by omega,by omega⟩
 unfold orI
 exact h _
theorem yS7 {x b:Nat}(hx:x < 16777216)(hb:b < 256):Go.bits .or .u64 (IntKind.u64.wrap ((x:Int) * 256)) (b:Int)=((x * 256+b:Nat):Int):=by
 have e2:IntKind.u64.wrap ((x:Int) * 256)=((x * 2 ^ 8:Nat):Int):=by rw[Go.Det.wrapU ⟨by omega,by omega⟩];omega
 rw[e2]
 exact zQ8 (s:=8) (by omega) (by omega)
theorem zVv {xs:List ByteArray}(hx:xs.length≤1000):∀ (d i k:Nat) (n:Int),i+d=xs.length→d+1≤k→(xs.length=4→∃ x:Nat,n=(x:Int)∧x < 256 ^ i)→
  ∃ r:Int×Bool,Yp.l0 k xs n xs (xs.length:Int) (i:Int)=some r∧(r.2=true→∃ x:Nat,r.1=(x:Int)∧x < 4294967296):=by
 intro d
 induction d with
 |zero=>
  intro i k n hi hk hn
  obtain⟨k,rfl⟩:∃ j,k=j+1:=⟨k - 1,by omega⟩
  unfold Yp.l0
  rw[xGr (by omega)]
  refine⟨_,rfl,fun h=>?_⟩
  have h4:xs.length=4:=by have:=beq_iff_eq.1 h;omega
  obtain⟨x,hx1,hx2⟩:=hn h4
  refine⟨x,hx1,?_⟩
  have:i=4:=by omega
  subst this
  exact hx2
 |succ d ih=>
  intro i k n hi hk hn
  obtain⟨k,rfl⟩:∃ j,k=j+1:=⟨k - 1,by omega⟩
  unfold Yp.l0
  rw[xGq (by omega),xGq (by omega),xGq (by omega)]
  obtain⟨r,hr⟩:=zNp (zCl ByteArray.empty xs (i:Int))
  have hr':Ye0.f (zCl ByteArray.empty xs (i:Int)) 255=some r:=hr
  rw[hr',xGp]
  split
  ·rw[w64 (by omega) (by omega),show((i:Int)+1)=((i+1:Nat):Int) by omega]
   refine ih (i+1) k _ (by omega) (by omega) fun h4=>?_
   obtain⟨x,rfl,hx2⟩:=hn h4
   obtain⟨b,hb,eb⟩:=yH1 r.1
   have hi4:i=0∨i=1∨i=2∨i=3:=by omega
   refine⟨x * 256+b,?_,?_⟩
   ·rw[eb]
    refine yS7 ?_ hb
    rcases hi4 with rfl|rfl|rfl|rfl<;>omega
   ·rcases hi4 with rfl|rfl|rfl|rfl<;>omega
  ·exact⟨_,rfl,fun h=>by cases h⟩
theorem zXk {s:ByteArray}(hs:s.size≤400){k:Nat}(hk:402≤k):∃ r:Int×Bool,Yp.f k s=some r∧(r.2=true→∃ x:Nat,r.1=(x:Int)∧x < 4294967296):=by
 obtain⟨l,e,h1,h2,_⟩:=zE1 (s:=s) (sep:=⟨#[46]⟩) hs (by decide)
 unfold Yp.f
 rw[e,xGp]
 exact zVv (by omega) l.length 0 k 0 (by omega) (by omega) fun _=>⟨0,rfl,by decide⟩
theorem zZu {xs:List ByteArray}(hx:xs.length≤300)(hp:∀ p∈xs,p.size≤200)(last:Bool):∀ (d i k:Nat) (acc:List Int),i+d=xs.length→d+d+404≤k→acc.length≤i→
  ∃ r,Yg.l0 k last acc xs xs (xs.length:Int) (i:Int)=some r:=by
 intro d
 induction d with
 |zero=>
  intro i k acc hi hk ha
  obtain⟨k,rfl⟩:∃ j,k=j+1:=⟨k - 1,by omega⟩
  unfold Yg.l0
  rw[xGr (by omega)]
  exact⟨_,rfl⟩
 |succ d ih=>
  intro i k acc hi hk ha
  obtain⟨k,rfl⟩:∃ j,k=j+2:=⟨k - 2,by omega⟩
  have hlt:i < xs.length:=by omega
  have hp1:(zCl ByteArray.empty xs (i:Int)).size≤200:=by
   unfold zCl
   rw[xG7,xGw,xGz hlt]
   exact hp _ (xH3 hlt)
  have ej:∀ b,∃ r,Yg.j1 (k+1) last acc xs (zCl ByteArray.empty xs (i:Int)) xs (xs.length:Int) (i:Int) b=some r:=by
   intro b
   unfold Yg.j1
   split
   ·obtain⟨r,hr,_⟩:=zXk (s:=zCl ByteArray.empty xs (i:Int)) (by omega) (k:=k) (by omega)
    rw[hr,xGp,xGp,xGq (by simp only[xG4,xHa];omega)]
    exact⟨_,rfl⟩
   ·obtain⟨r,hr⟩:=zVu (zCl ByteArray.empty xs (i:Int))
    have hr':Yk0.f (zCl ByteArray.empty xs (i:Int))=some r:=hr
    rw[hr',xGp]
    split
    ·rw[xGq (by omega),w64 (by omega) (by omega),show((i:Int)+1)=((i+1:Nat):Int) by omega]
     exact ih (i+1) k _ (by omega) (by omega) (by rw[xG8,xHv];omega)
    ·exact⟨_,rfl⟩
  unfold Yg.l0
  rw[xGq (by omega),xGq (by omega),xGq (by omega)]
  split
  ·split
   ·unfold Yw.f
    rw[xGq (by omega),xGp]
    exact ej _
   ·exact ej _
  ·exact ej _
theorem zVw {s:ByteArray}(hs:s.size≤200)(last:Bool):∃ r,zBi (s,last)=some r:=by
 unfold zBi Yg.f
 split
 ·exact⟨_,rfl⟩
 ·obtain⟨l,e,h1,h2,h3⟩:=zE1 (s:=s) (sep:=⟨#[58]⟩) (by omega) (by decide)
  rw[e,xGp]
  exact zZu (by omega) (fun p h=>xHf (h3 p h) hs) last l.length 0 1000 [] (by omega) (by omega) (by simp)
theorem yO7 {s:ByteArray}(hs:s.size≤200):∃ c,zDg s { data:=#[58,58] }=some c∧c.1.size≤200∧c.2.1.size≤200:=by
 refine⟨_,xGq (by omega),?_,?_⟩
 ·unfold zVm Lib.cut
  split
  ·show(List.toArray _).size≤200
   have:s.data.toList.length=s.size:=rfl
   rw[xIv,xHn];omega
  ·exact hs
 ·unfold zVm Lib.cut
  split
  ·show(List.toArray _).size≤200
   have:s.data.toList.length=s.size:=rfl
   rw[xIv,xHt];omega
  ·exact xIc _
theorem zNq (a b c d:Int):∃ n:Nat,n < 18446744073709551616∧zVr a b c d=(n:Int):=yH2 _ _
theorem zVx (l:List Int):∃ m n:Nat,m < 18446744073709551616∧n < 18446744073709551616∧zFm l=((m:Int),(n:Int)):=by
 unfold zFm
 split
 ·obtain⟨m,h1,e1⟩:=zNq _ _ _ _
  obtain⟨n,h2,e2⟩:=zNq _ _ _ _
  exact⟨m,n,h1,h2,by rw[e1,e2]⟩
 ·exact⟨0,0,by decide,by decide,rfl⟩
def yEa (r:Int×Int×Int×Bool):Prop:=(∃ V B q,Kd' V B∧q < 2 ^ B∧r=(V,H q,L q,true))∨r=(0,0,0,false)
theorem yEb {s:ByteArray}(hs:s.size≤200):∃ r,zVs s=some r∧yEa r:=by
 obtain⟨c,hc,h1,h2⟩:=yO7 hs
 obtain⟨a,ha⟩:=zVw h1 (!c.2.2)
 obtain⟨b,hb⟩:=zVw h2 true
 unfold zVs
 rw[hc,xGp,ha,xGp,hb,xGp]
 split
 ·exact⟨_,rfl,Or.inr rfl⟩
 ·refine⟨_,rfl,Or.inl ?_⟩
  obtain⟨m,n,hm,hn,e⟩:=zVx (a.1++List.replicate (8 - (a.1.length+b.1.length)) 0++b.1)
  rw[e]
  have hM:M64=18446744073709551616:=rfl
  refine⟨6,128,m * 18446744073709551616+n,Or.inr ⟨rfl,rfl⟩,by omega,?_⟩
  have e1:H (m * 18446744073709551616+n)=(m:Int):=by unfold H;rw[hM];omega
  have e2:L (m * 18446744073709551616+n)=(n:Int):=by unfold L;rw[hM];omega
  rw[e1,e2]
theorem yEc {s:ByteArray}(hs:s.size≤200):∃ r,PRD.YH.f s=some r∧yEa r:=by
 unfold PRD.YH.f Yw.f
 rw[xGq (by omega),xGp]
 split
 ·obtain⟨r,hr,ha⟩:=yEb hs
  have hr':YC0.f s=some r:=hr
  rw[hr',xGp]
  exact⟨_,rfl,ha⟩
 ·obtain⟨r,hr,ha⟩:=zXk (s:=s) (by omega) (k:=1000) (by omega)
  rw[hr,xGp]
  split
  ·rename_i h
   obtain⟨x,hx,hx2⟩:=ha h
   refine⟨_,rfl,Or.inl ⟨4,32,x,Or.inl ⟨rfl,rfl⟩,hx2,?_⟩⟩
   have hM:M64=18446744073709551616:=rfl
   have e1:H x=0:=by unfold H;rw[hM];omega
   have e2:L x=(x:Int):=by unfold L;rw[hM];omega
   rw[e1,e2,hx]
  ·exact⟨_,rfl,Or.inr rfl⟩
end Go.Proofs.YtfnacgojmdbjmaaGreatDoor
namespace Go.Proofs.YtfnacgojmdbjmaaGreatDoor
open Go.Det Go.RowKit Go.Proofs.ZW PPPT
theorem zKe {n:Int}(h0:-100000≤n)(h1:n≤100000):wrap64 n=n:=by unfold wrap64;omega
def spl (c:UInt8):List UInt8→List (List UInt8)
 |[]=>[[]]
 |x::t=>if x=c then[]::spl c t else(match spl c t with|[]=>[[x]]|h::r=>(x::h)::r)
def yS8 (p:List UInt8):List (List UInt8)→List (List UInt8)
 |[]=>[p]
 |h::r=>(p++h)::r
theorem zNr (c:UInt8):∀ l,spl c l≠[]
 |[]=>by simp[spl]
 |x::t=>by
  unfold spl
  split
  ·simp
  ·split<;>simp
theorem yJx (c:UInt8):∀ l,∀ p∈spl c l,c∉p
 |[],p,h=>by
  rw[spl,xHs] at h
  subst h;simp
 |x::t,p,h=>by
  have ih:=yJx c t
  unfold spl at h
  split at h
  ·rcases xG6.1 h with rfl|h
   ·simp
   ·exact ih p h
  ·rename_i hx
   split at h
   ·rename_i e
    exact absurd e (zNr c t)
   ·rename_i h0 r e
    rw[e] at ih
    rcases xG6.1 h with rfl|h
    ·have:=ih h0 (by simp)
     simp only[xG6,not_or]
     exact⟨fun q=>hx q.symm,this⟩
    ·exact ih p (by simp[h])
theorem zJj (c:UInt8):∀ l,Lib.join (spl c l) [c]=l
 |[]=>by rw[spl];rfl
 |x::t=>by
  have ih:=zJj c t
  have hn:=zNr c t
  unfold spl
  split
  ·rename_i hx
   cases e:spl c t with
   |nil=>exact absurd e hn
   |cons h r=>rw[Txt.join_more,← e,ih,hx];rfl
  ·split
   ·rename_i e
    exact absurd e hn
   ·rename_i h r e
    rw[e] at ih
    cases r with
    |nil=>
     rw[Lib.join_cons] at ih ⊢
     simpa using congrArg (x::·) ih
    |cons q r=>
     rw[Txt.join_more] at ih ⊢
     simpa using congrArg (x::·) ih
def mkB (p:List UInt8):ByteArray:=⟨p.toArray⟩
theorem zTu {a b:ByteArray}(h:a.data.toList=b.data.toList):a=b:=by
 cases a;cases b
 congr 1
 exact Array.toList_inj.1 h
theorem zZv (c:UInt8)(s:ByteArray):Lib.splitB ⟨#[c]⟩ 0 (Lib.countB s ⟨#[c]⟩) s=(spl c s.data.toList).map mkB:=by
 have h:=Txt.splitB_join (c:=c) (spl c s.data.toList) (zNr c _) (yJx c _)
 rw[zJj] at h
 exact h
theorem zXl {ps:List (List UInt8)}(h:ps≠[]):yS8 [] ps=ps:=by
 cases ps with
 |nil=>exact absurd rfl h
 |cons p r=>rfl
theorem zHx (s:ByteArray)(a b:Nat):s.extract a b=mkB ((s.data.toList.take b).drop a):=by
 refine zTu ?_
 rw[Lib.extract_data]
 simp[mkB,List.drop_take]
theorem zJk {s:ByteArray}{i:Nat}{x:UInt8}(h:s.data.toList[i]?=some x):bt s (i:Int)=(x.toNat:Int):=by
 obtain⟨h1,h2⟩:=xHu.1 h
 unfold bt
 have h3:i < s.size:=h1
 rw[xG7,dif_pos h3]
 subst h2
 rfl
theorem yEd {s:ByteArray}{c:UInt8}(hs:s.size≤1000):∀ (d i from_ k:Nat) (out:List ByteArray),i+d=s.size→from_≤i→d+2≤k→out.length+d≤2000→
  Yo.l0 k s (c.toNat:Int) out (from_:Int) (i:Int)=some (out++(yS8 ((s.data.toList.take i).drop from_) (spl c (s.data.toList.drop i))).map mkB):=by
 have hl:s.data.toList.length=s.size:=rfl
 intro d
 induction d with
 |zero=>
  intro i from_ k out hi hf hk ho
  obtain⟨k,rfl⟩:∃ j,k=j+2:=⟨k - 2,by omega⟩
  unfold Yo.l0
  rw[xGq (by omega),xGq (by omega),xGq (by omega),xGq (by omega),xGq (by omega),zKe (by omega) (by omega)]
  unfold Yo.l0
  rw[xGr (by omega),show s.data.toList.drop i=[] from xHj (by omega),zHx,xG7,xG7]
  simp[spl,yS8]
 |succ d ih=>
  intro i from_ k out hi hf hk ho
  obtain⟨k,rfl⟩:∃ j,k=j+1:=⟨k - 1,by omega⟩
  have hlt:i < s.data.toList.length:=by omega
  have hx:=xGz hlt
  obtain⟨x,ex⟩:∃ x,x=s.data.toList[i]:=⟨_,rfl⟩
  rw[← ex] at hx
  have hd:s.data.toList.drop i=x::s.data.toList.drop (i+1):=by rw[ex];exact xHk hlt
  have ht:s.data.toList.take (i+1)=s.data.toList.take i++[x]:=by rw[List.take_add_one,hx];rfl
  unfold Yo.l0
  rw[xGq (by omega),xGr (by omega),xGq (by omega),xGq (by omega),zJk hx,zKe (by omega) (by omega),show((i:Int)+1)=((i+1:Nat):Int) by omega,hd,spl]
  by_cases hc:x=c
  ·rw[xGq (by rw[hc]),xGq (by omega),xGq (by omega),xGq (by omega),ih (i+1) (i+1) k _ (by omega) (by omega) (by omega) (by rw[xG8,xHv];omega),
    xGq hc,show(s.data.toList.take (i+1)).drop (i+1)=[] from xHj (by rw[xHn];omega),zXl (zNr c _),zHx,xG7,xG7]
   simp[yS8]
  ·rw[xGr (fun q=>hc (UInt8.toNat_inj.1 (by omega))),xGr hc,ih (i+1) from_ k out (by omega) (by omega) (by omega) (by omega),ht]
   cases e:spl c (s.data.toList.drop (i+1)) with
   |nil=>exact absurd e (zNr c _)
   |cons h r=>
    have hle:from_≤(s.data.toList.take i).length:=by rw[xHn];omega
    rw[List.drop_append_of_le_length hle]
    simp[yS8]
theorem zJl {s:ByteArray}{c:UInt8}(hs:s.size≤1000){k:Nat}(hk:1002≤k):Yo.f k s (c.toNat:Int)=some ((spl c s.data.toList).map mkB):=by
 unfold Yo.f
 have h:=yEd (c:=c) hs s.size 0 0 k [] (by omega) (by omega) (by omega) (by simp;omega)
 rw[show((0:Nat):Int)=0 from rfl] at h
 rw[h]
 simp[zXl (zNr c _)]
def yF0 (x:Int):Int:=if 48≤x∧x≤57 then x - 48 else if 97≤x∧x≤102 then x - 87 else if 65≤x∧x≤70 then x - 55 else -1
theorem yO8 {x:Int}(h0:0≤x)(h1:x < 256){k:Nat}(hk:2≤k):Yu.f k x=some (yF0 x):=by
 obtain⟨k,rfl⟩:∃ j,k=j+2:=⟨k - 2,by omega⟩
 have j1:∀ (b:Bool),(b=true↔97≤x∧x≤102)→¬ (48≤x∧x≤57)→Yu.j1 (k+1) x b=some (yF0 x):=by
  intro b hb h4
  unfold Yu.j1 yF0
  dsimp only
  rw[xGr h4]
  by_cases h6:97≤x∧x≤102
  ·rw[xGq (hb.2 h6),xGq h6]
   congr 1;omega
  ·rw[xGr (fun q=>h6 (hb.1 q)),xGr h6]
   by_cases h7:x ≥ 65
   ·rw[xGq h7]
    by_cases h8:x≤70
    ·rw[xGq h8,xGq ⟨h7,h8⟩]
     congr 1;omega
    ·rw[xGr h8,xGr (fun q=>h8 q.2)]
   ·rw[xGr h7,xGr (fun q=>h7 q.1)]
 have j0:∀ (b:Bool),(b=true↔48≤x∧x≤57)→Yu.j0 (k+2) x b=some (yF0 x):=by
  intro b hb
  unfold Yu.j0
  dsimp only
  by_cases h4:48≤x∧x≤57
  ·rw[xGq (hb.2 h4)]
   unfold yF0
   rw[xGq h4]
   congr 1;omega
  ·rw[xGr (fun q=>h4 (hb.1 q))]
   by_cases h6:x ≥ 97
   ·rw[xGq h6]
    exact j1 _ (by rw[decide_eq_true_iff];omega) h4
   ·rw[xGr h6]
    exact j1 _ ⟨fun q=>(by cases q),fun q=>absurd q.1 h6⟩ h4
 unfold Yu.f
 by_cases h4:x ≥ 48
 ·rw[xGq h4]
  exact j0 _ (by rw[decide_eq_true_iff];omega)
 ·rw[xGr h4]
  exact j0 _ ⟨fun q=>(by cases q),fun q=>absurd q.1 h4⟩
def yQ7 (c:UInt8):Int:=Lib.indexByte dig16.data.toList (orI .u8 (c.toNat:Int) 32).toNat.toUInt8
theorem yH3:∀ n:Fin 256,(if yQ7 (UInt8.ofFin n) < 0 then -1 else if((UInt8.ofFin n).toNat:Int) < 48 then -1 else yQ7 (UInt8.ofFin n))=yF0 ((UInt8.ofFin n).toNat:Int):=by decide +kernel
theorem yO9 (c:UInt8):(if yQ7 c < 0 then -1 else if(c.toNat:Int) < 48 then -1 else yQ7 c)=yF0 (c.toNat:Int):=yH3 c.toFin
theorem yH4 (c:UInt8):yQ5 dig16 (orI .u8 (c.toNat:Int) 32)=some (yQ7 c):=rfl
theorem zTv (n:Int)(c:UInt8)(t:List UInt8):zNk n (c::t)=if yF0 (c.toNat:Int) < 0 then some (0,false) else zNk (orI .u64 (zE2 .u64 n 4) (IntKind.wrap .u64 (yF0 (c.toNat:Int)))) t:=by
 rw[zNk,yH4,xGp]
 have h:=yO9 c
 by_cases h1:yQ7 c < 0
 ·rw[xGq h1] at h
  rw[xGq h1,← h,xGq (by decide)]
 ·rw[xGr h1] at h
  rw[xGr h1]
  by_cases h2:(c.toNat:Int) < 48
  ·rw[xGq h2] at h
   rw[xGq h2,← h,xGq (by decide)]
  ·rw[xGr h2] at h
   rw[xGr h2,h,xGr (by omega)]
theorem yH5 {last:Bool}{out:List Int}{xs:List ByteArray}{i:Nat}{p:ByteArray}(hi:i < xs.length)(hp:zCl ByteArray.empty xs (i:Int)=p)(hs:p.size≤1000)(ho:out.length < 17592186044416)(hx:xs.length≤2000):
  ∀ (d j k:Nat) (n:Int),j+d=p.size→2≤k→
   Ya.l1 (k+d+1) last out xs (i:Int) n (j:Int)=(match zNk n (p.data.toList.drop j) with
    |some (m,true)=>Ya.l0 k last (out++[m]) xs ((i+1:Nat):Int)
    |some (_,false)=>some ([],false)
    |none=>none):=by
 have hl:p.data.toList.length=p.size:=rfl
 intro d
 induction d with
 |zero=>
  intro j k n hj hk
  unfold Ya.l1
  rw[xGq (by omega),xGq (by omega),hp,xGr (by omega),xGq ho,zKe (by omega) (by omega),show p.data.toList.drop j=[] from xHj (by omega),show((i:Int)+1)=((i+1:Nat):Int) by omega]
  rfl
 |succ d ih=>
  intro j k n hj hk
  have hlt:j < p.data.toList.length:=by omega
  have hx:=xGz hlt
  obtain⟨x,ex⟩:∃ x,x=p.data.toList[j]:=⟨_,rfl⟩
  rw[← ex] at hx
  have hd:p.data.toList.drop j=x::p.data.toList.drop (j+1):=by rw[ex];exact xHk hlt
  have hb:x.toNat < 256:=x.toNat_lt
  rw[show k+(d+1)+1=(k+d+1)+1 by omega]
  unfold Ya.l1
  rw[xGq (by omega),xGq (by omega),hp,xGq (by omega),xGq (by omega),zJk hx,yO8 (by omega) (by omega) (by omega),xGp,hd,zTv]
  by_cases h:yF0 (x.toNat:Int) < 0
  ·rw[xGq h,xGq h]
  ·rw[xGr h,xGr h,zKe (by omega) (by omega),show((j:Int)+1)=((j+1:Nat):Int) by omega]
   exact ih (j+1) k _ (by omega) hk
def zUi (m:Nat):Nat→List UInt8→Option (Int×Bool)
 |n,[]=>some ((n:Int),true)
 |n,c::t=>if 48≤c.toNat∧c.toNat≤57∧10 * n+(c.toNat - 48)≤m then zUi m (10 * n+(c.toNat - 48)) t else some (0,false)
theorem yH6 {m:Nat}(hm:m≤255):∀ (l:List UInt8) (n:Int),(m:Int) < n→zUg m n l=some (0,false)
 |[],n,h=>by unfold zUg;rw[xGq h]
 |c::t,n,h=>by
  unfold zUg
  split
  ·rfl
  ·split
   ·rfl
   ·have e:IntKind.u64.wrap (Int.tdiv (m:Int) 10)=((m / 10:Nat):Int):=by
     rw[show Int.tdiv (m:Int) 10=((m / 10:Nat):Int) from rfl]
     exact Go.Det.wrapU ⟨by omega,by omega⟩
    rw[e,xGq (by omega)]
theorem zDo {m:Nat}(hm:m≤255):∀ (l:List UInt8) (n:Nat),n≤m→zUg m (n:Int) l=zUi m n l
 |[],n,h=>by unfold zUg zUi;rw[xGr (by omega)]
 |c::t,n,h=>by
  unfold zUg zUi
  have hc:c.toNat < 256:=c.toNat_lt
  by_cases h1:(c.toNat:Int) < 48
  ·rw[xGq h1,xGr (by omega)]
  ·rw[xGr h1]
   by_cases h2:57 < (c.toNat:Int)
   ·rw[xGq h2,xGr (by omega)]
   ·rw[xGr h2,xd c h1 h2]
    obtain⟨d,hd⟩:∃ d:Nat,d=c.toNat - 48:=⟨_,rfl⟩
    rw[show(c.toNat:Int) - 48=(d:Int) by omega,← hd]
    have e1:IntKind.u64.wrap (Int.tdiv (m:Int) 10)=((m / 10:Nat):Int):=by
     rw[show Int.tdiv (m:Int) 10=((m / 10:Nat):Int) from rfl]
     exact Go.Det.wrapU ⟨by omega,by omega⟩
    have e2:IntKind.u64.wrap ((m:Int) - if(m:Int) < (d:Int) then(m:Int) else(d:Int))=((m - min m d:Nat):Int):=by
     split
     ·rw[Go.Det.wrapU ⟨by omega,by omega⟩];omega
     ·rw[Go.Det.wrapU ⟨by omega,by omega⟩];omega
    have e3:IntKind.u64.wrap (10 * (n:Int))=((10 * n:Nat):Int):=by
     rw[Go.Det.wrapU ⟨by omega,by omega⟩];omega
    have e4:IntKind.u64.wrap (((10 * n:Nat):Int)+(d:Int))=((10 * n+d:Nat):Int):=by
     rw[Go.Det.wrapU ⟨by omega,by omega⟩];omega
    rw[e1,e2,e3,e4]
    by_cases h3:10 * n+d≤m
    ·rw[xGr (by omega),xGr (by omega),xGq ⟨by omega,by omega,h3⟩]
     exact zDo hm t _ h3
    ·have hr:(if 48≤c.toNat∧c.toNat≤57∧10 * n+d≤m then zUi m (10 * n+d) t else some (0,false))=some (0,false):=xGr (fun q=>h3 q.2.2)
     rw[hr]
     split
     ·rfl
     ·split
      ·rfl
      ·exact yH6 hm t _ (by omega)
theorem yEe {s:ByteArray}{m k n i:Nat}(hm:m≤255)(hn:n≤m){x:UInt8}(hx:s.data.toList[i]?=some x)(hi:i≤1000)(h1:48≤x.toNat)(h2:x.toNat≤57):
  Yj.j1 (k+1) s (m:Int) (n:Int) (i:Int) false=if 10 * n+(x.toNat - 48)≤m then Yj.l0 k s (m:Int) ((10 * n+(x.toNat - 48):Nat):Int) ((i+1:Nat):Int) else some (0,false):=by
 have hlt:i < s.data.toList.length:=by
  rcases xHr i s.data.toList.length with h|h
  ·exact h
  ·rw[xHy h] at hx;cases hx
 have hl:s.data.toList.length=s.size:=rfl
 obtain⟨d,hd⟩:∃ d:Nat,d=x.toNat - 48:=⟨_,rfl⟩
 have ed:((x.toNat:Int) - 48) % 256=(d:Int):=by omega
 have e2:IntKind.u64.wrap ((m:Int) - mn (m:Int) (d:Int))=((m - min m d:Nat):Int):=by
  unfold mn
  split
  ·rw[Go.Det.wrapU ⟨by omega,by omega⟩];omega
  ·rw[Go.Det.wrapU ⟨by omega,by omega⟩];omega
 have e1:IntKind.u64.wrap (Int.tdiv ((m - min m d:Nat):Int) 10)=(((m - min m d) / 10:Nat):Int):=by
  rw[show Int.tdiv ((m - min m d:Nat):Int) 10=(((m - min m d) / 10:Nat):Int) from rfl]
  exact Go.Det.wrapU ⟨by omega,by omega⟩
 have e3:IntKind.u64.wrap (10 * (n:Int))=((10 * n:Nat):Int):=by
  rw[Go.Det.wrapU ⟨by omega,by omega⟩];omega
 have e4:IntKind.u64.wrap (((10 * n:Nat):Int)+(d:Int))=((10 * n+d:Nat):Int):=by
  rw[Go.Det.wrapU ⟨by omega,by omega⟩];omega
 unfold Yj.j1
 rw[xGr (by decide),xGq (by omega),xGq (by omega),zJk hx,ed,e2,e1,e3,e4,← hd,zKe (by omega) (by omega),show((i:Int)+1)=((i+1:Nat):Int) by omega]
 by_cases h3:10 * n+d≤m
 ·rw[xGq h3,xGr (by omega),xGr (by omega)]
 ·rw[xGr h3]
  split
  ·rfl
  ·rw[xGq (by omega)]
theorem zNs {s:ByteArray}{k:Nat}{m n i:Int}:Yj.j1 (k+1) s m n i true=some (0,false):=by
 unfold Yj.j1
 rw[xGq rfl]
theorem yEf {s:ByteArray}{m:Nat}(hm:m≤255)(hs:s.size≤1000)(h0:∀ c t,s.data.toList=c::t→t≠[]→c≠48):∀ (d i k n:Nat),i+d=s.size→1≤s.size→2 * d+1≤k→n≤m→
  Yj.l0 k s (m:Int) (n:Int) (i:Int)=zUi m n (s.data.toList.drop i):=by
 have hl:s.data.toList.length=s.size:=rfl
 intro d
 induction d with
 |zero=>
  intro i k n hi hs1 hk hn
  obtain⟨k,rfl⟩:∃ j,k=j+1:=⟨k - 1,by omega⟩
  unfold Yj.l0
  rw[xGr (by omega),show s.data.toList.drop i=[] from xHj (by omega),zUi,xGx (by omega)]
 |succ d ih=>
  intro i k n hi hs1 hk hn
  obtain⟨k,rfl⟩:∃ j,k=j+2:=⟨k - 2,by omega⟩
  have hlt:i < s.data.toList.length:=by omega
  have hx:=xGz hlt
  obtain⟨x,ex⟩:∃ x,x=s.data.toList[i]:=⟨_,rfl⟩
  rw[← ex] at hx
  have hd:s.data.toList.drop i=x::s.data.toList.drop (i+1):=by rw[ex];exact xHk hlt
  have hb:x.toNat < 256:=x.toNat_lt
  unfold Yj.l0
  rw[xGq (by omega),xGq (by omega),zJk hx,hd,zUi]
  by_cases h1:(x.toNat:Int) < 48
  ·rw[xGq h1,xGr (by omega),zNs]
  ·rw[xGr h1]
   by_cases h2:(x.toNat:Int) > 57
   ·rw[xGq h2,xGr (by omega),zNs]
   ·rw[xGr h2]
    have ej:Yj.j1 (k+1) s (m:Int) (n:Int) (i:Int) false=if 48≤x.toNat∧x.toNat≤57∧10 * n+(x.toNat - 48)≤m then zUi m (10 * n+(x.toNat - 48)) (s.data.toList.drop (i+1)) else some (0,false):=by
     rw[yEe hm hn hx (by omega) (by omega) (by omega)]
     by_cases h3:10 * n+(x.toNat - 48)≤m
     ·rw[xGq h3,xGq ⟨by omega,by omega,h3⟩]
      exact ih (i+1) k _ (by omega) hs1 (by omega) h3
     ·rw[xGr h3,xGr (fun q=>h3 q.2.2)]
    by_cases h3:(i:Int)=1
    ·rw[xGq h3,xGq (by omega)]
     have hne:(bt s 0==48)=false:=by
      cases e:s.data.toList with
      |nil=>rw[e,xHa] at hlt;omega
      |cons c t=>
       have hc:=h0 c t e (by intro q;rw[e,q] at hlt;simp at hlt;omega)
       have hb0:=zJk (s:=s) (i:=0) (x:=c) (by rw[e];rfl)
       rw[show((0:Nat):Int)=0 from rfl] at hb0
       rw[hb0]
       refine beq_eq_false_iff_ne.2 fun q=>hc (UInt8.toNat_inj.1 ?_)
       show c.toNat=48
       omega
     rw[hne]
     exact ej
    ·rw[xGr h3]
     exact ej
theorem yPa {s:ByteArray}{m:Nat}(hm:m≤255)(hs:s.size≤1000){k:Nat}(hk:2002≤k):Yj.f k s (m:Int)=zRa s (m:Int):=by
 have hl:s.data.toList.length=s.size:=rfl
 unfold Yj.f zRa
 rw[xGq (by omega)]
 split
 ·rename_i e
  obtain⟨k,rfl⟩:∃ j,k=j+1:=⟨k - 1,by omega⟩
  rw[e,xHa] at hl
  unfold Yj.l0
  rw[xGr (by omega),xG1 (by omega)]
 ·rename_i c t e
  rw[e,xG4] at hl
  by_cases hc:(c.toNat:Int)=48
  ·rw[xGq hc]
   by_cases ht:t=[]
   ·rw[xGq ht]
    have h:=yEf (m:=m) hm hs (fun c' t' e' n'=>by rw[e] at e';cases e';exact absurd ht n') s.size 0 k 0 (by omega) (by omega) (by omega) (by omega)
    rw[xIm,e,ht,show((0:Nat):Int)=0 from rfl] at h
    rw[h]
    exact(zDo hm [c] 0 (by omega)).symm
   ·rw[xGr ht]
    obtain⟨k,rfl⟩:∃ j,k=j+4:=⟨k - 4,by omega⟩
    have hc48:c=48:=UInt8.toNat_inj.1 (by show c.toNat=48;omega)
    have hb0:=zJk (s:=s) (i:=0) (x:=c) (by rw[e];rfl)
    have ht1:1≤t.length:=by
     cases t with
     |nil=>exact absurd rfl ht
     |cons a b=>simp
    have hj:=yEe (s:=s) (m:=m) (k:=k+2) (n:=0) (i:=0) hm (by omega) (x:=c) (by rw[e];rfl) (by omega) (by omega) (by omega)
    rw[show((0:Nat):Int)=0 from rfl] at hj hb0
    unfold Yj.l0
    rw[xGq (by omega),xGq (by omega),hb0,xGr (by omega),xGr (by omega),xGr (by decide),hj,xGq (by omega)]
    unfold Yj.l0
    rw[xGq (by omega),xGq (by omega),show(((0+1:Nat):Int))=1 from rfl]
    split
    ·exact zNs
    ·split
     ·exact zNs
     ·rw[xGq rfl,xGq (by omega),hb0,show((c.toNat:Int)==48)=true from beq_iff_eq.2 hc]
      exact zNs
  ·rw[xGr hc]
   have h:=yEf (m:=m) hm hs (fun c' t' e' _=>by rw[e] at e';cases e';intro q;exact hc (by rw[q];rfl)) s.size 0 k 0 (by omega) (by omega) (by omega) (by omega)
   rw[xIm,e,show((0:Nat):Int)=0 from rfl] at h
   rw[h]
   exact(zDo hm (c::t) 0 (by omega)).symm
end Go.Proofs.YtfnacgojmdbjmaaGreatDoor
namespace Go.Proofs.YtfnacgojmdbjmaaGreatDoor
open Go.Det Go.RowKit Go.Proofs.ZW PPPT PPH
theorem zVy {m:Nat}:∀ (l:List UInt8) (n:Nat) (r:Int),n≤m→zUi m n l=some (r,true)→∃ q:Nat,q≤m∧r=(q:Int)
 |[],n,r,hn,h=>by
  rw[zUi] at h
  cases h
  exact⟨n,hn,rfl⟩
 |c::t,n,r,hn,h=>by
  rw[zUi] at h
  split at h
  ·rename_i q
   exact zVy t _ r q.2.2 h
  ·cases h
theorem yS9 {s:ByteArray}{r:Int}(h:zRa s 255=some (r,true)):∃ q:Nat,q≤255∧r=(q:Int):=by
 unfold zRa at h
 rw[xGq (by omega)] at h
 split at h
 ·cases h
 ·rename_i c t e
  split at h
  ·split at h
   ·rw[show(255:Int)=((255:Nat):Int) from rfl,show(0:Int)=((0:Nat):Int) from rfl,zDo (by decide) _ 0 (by decide)] at h
    exact zVy _ _ _ (by decide) h
   ·cases h
  ·rw[show(255:Int)=((255:Nat):Int) from rfl,show(0:Int)=((0:Nat):Int) from rfl,zDo (by decide) _ 0 (by decide)] at h
   exact zVy _ _ _ (by decide) h
theorem yPb {q:Nat}(h:q≤255):Go.bits .and .u64 (q:Int) 255=(q:Int):=by
 have e1:Go.bits .and .u64 (q:Int) 255=((q % 256:Nat):Int):=zIj (by omega) 8 (by decide)
 rw[e1,xJc (by omega)]
theorem yEg {xs:List ByteArray}(h4:xs.length=4)(hp:∀ p∈xs,p.size≤1000):∀ (d i k k':Nat) (n:Int),i+d=4→d+1≤k→d+2010≤k'→
  ∃ r:Int×Bool,Yp.l0 k xs n xs (xs.length:Int) (i:Int)=some r∧YB.l0 k' xs n (i:Int)=some r∧(r.2=false→r=(0,false)):=by
 intro d
 induction d with
 |zero=>
  intro i k k' n hi hk hk'
  obtain⟨k,rfl⟩:∃ j,k=j+1:=⟨k - 1,by omega⟩
  obtain⟨k',rfl⟩:∃ j,k'=j+1:=⟨k' - 1,by omega⟩
  unfold Yp.l0 YB.l0
  rw[xGr (by omega),xGr (by omega),h4]
  exact⟨(n,true),rfl,rfl,fun q=>by cases q⟩
 |succ d ih=>
  intro i k k' n hi hk hk'
  obtain⟨k,rfl⟩:∃ j,k=j+1:=⟨k - 1,by omega⟩
  obtain⟨k',rfl⟩:∃ j,k'=j+1:=⟨k' - 1,by omega⟩
  obtain⟨p,ep⟩:∃ p,p=zCl ByteArray.empty xs (i:Int):=⟨_,rfl⟩
  have hps:p.size≤1000:=by
   rw[ep]
   unfold zCl
   rw[xG7,xGw,xGz (by omega)]
   exact hp _ (xH3 _)
  obtain⟨r,hr⟩:=zNp p
  have h1:Ye0.f p 255=some r:=hr
  have h2:Yj.f k' p 255=some r:=(yPa (m:=255) (by decide) hps (by omega)).trans hr
  unfold Yp.l0 YB.l0
  rw[xGq (by omega),xGq (by omega),xGq (by omega),xGq (by omega),xGq (by omega),xGq (by omega),← ep,h1,h2,xGp,xGp,zKe (by omega) (by omega),show((i:Int)+1)=((i+1:Nat):Int) by omega]
  by_cases hb:r.2=true
  ·rw[xGq hb,xGq hb]
   have hr2:zRa p 255=some (r.1,true):=by rw[hr,← hb]
   obtain⟨q,hq,eq⟩:=yS9 hr2
   rw[eq,yPb hq]
   exact ih (i+1) k k' _ (by omega) (by omega) (by omega)
  ·rw[xGr hb,xGr hb]
   exact⟨_,rfl,rfl,fun _=>rfl⟩
theorem yPc {xs:List ByteArray}(h4:xs.length≠4)(hx:xs.length≤1000):∀ (d i k:Nat) (n:Int),i+d=xs.length→d+1≤k→∃ r:Int×Bool,Yp.l0 k xs n xs (xs.length:Int) (i:Int)=some r∧r.2=false:=by
 intro d
 induction d with
 |zero=>
  intro i k n hi hk
  obtain⟨k,rfl⟩:∃ j,k=j+1:=⟨k - 1,by omega⟩
  unfold Yp.l0
  rw[xGr (by omega)]
  exact⟨_,rfl,beq_eq_false_iff_ne.2 (by omega)⟩
 |succ d ih=>
  intro i k n hi hk
  obtain⟨k,rfl⟩:∃ j,k=j+1:=⟨k - 1,by omega⟩
  unfold Yp.l0
  rw[xGq (by omega),xGq (by omega),xGq (by omega)]
  obtain⟨r,hr⟩:=zNp (zCl ByteArray.empty xs (i:Int))
  have hr':Ye0.f (zCl ByteArray.empty xs (i:Int)) 255=some r:=hr
  rw[hr',xGp]
  split
  ·rw[zKe (by omega) (by omega),show((i:Int)+1)=((i+1:Nat):Int) by omega]
   exact ih (i+1) k _ (by omega) (by omega)
  ·exact⟨_,rfl,rfl⟩
theorem zF1 {s:ByteArray}(c:UInt8)(hs:s.size≤400):YD.f s ⟨#[c]⟩=some ((spl c s.data.toList).map mkB):=by
 unfold YD.f
 rw[xGq ⟨by omega,xGv 1⟩,zZv]
theorem yEh {s:ByteArray}(hs:s.size≤400){k k':Nat}(hk:402≤k)(hk':3000≤k'):
  ∃ r r':Int×Bool,Yp.f k s=some r∧YB.f k' s=some r'∧r'.2=r.2∧(r.2=true→r'=r)∧(r'.2=false→r'=(0,false))∧(r.2=true→(spl 46 s.data.toList).length=4):=by
 obtain⟨l,e,h1,h2,h3⟩:=zE1 (s:=s) (sep:=⟨#[46]⟩) hs (by decide)
 have e2:=zF1 46 hs
 have el:l=(spl 46 s.data.toList).map mkB:=xHc (e.symm.trans e2)
 have e3:Yo.f k' s 46=some l:=by rw[el];exact zJl (c:=46) (by omega) (by omega)
 have hlen:(spl 46 s.data.toList).length=l.length:=by rw[el,xHm]
 unfold Yp.f YB.f
 rw[e,e3,xGp,xGp]
 by_cases h4:l.length=4
 ·rw[xGq (by omega)]
  obtain⟨r,a1,a2,a3⟩:=yEg h4 (fun p h=>xHf (h3 p h) (by omega)) 4 0 k k' 0 (by decide) (by omega) (by omega)
  exact⟨r,r,a1,a2,rfl,fun _=>rfl,a3,fun _=>by omega⟩
 ·rw[xGr (by omega)]
  obtain⟨r,a1,a2⟩:=yPc h4 (by omega) l.length 0 k 0 (by omega) (by omega)
  exact⟨r,(0,false),a1,rfl,a2.symm,fun q=>(by rw[a2] at q;cases q),fun _=>rfl,fun q=>(by rw[a2] at q;cases q)⟩
theorem zXm:∀ (l:List UInt8) (n:Int),(46:UInt8)∈l→zNk n l=some (0,false)
 |[],_,h=>by simp at h
 |c::t,n,h=>by
  rw[zTv]
  by_cases hc:c=46
  ·subst hc
   rw[xGq (by decide)]
  ·split
   ·rfl
   ·refine zXm t _ ?_
    rcases xG6.1 h with q|q
    ·exact absurd q.symm hc
    ·exact q
theorem yH7 {p:ByteArray}(h:(46:UInt8)∈p.data.toList):zQ9 p=some (0,false):=by
 unfold zQ9
 split
 ·rfl
 ·exact zXm _ _ h
theorem zRj {c:UInt8}:∀ (l:List UInt8),c∉l→(spl c l).length=1
 |[],_=>rfl
 |x::t,h=>by
  simp only[xG6,not_or] at h
  have ih:=zRj t h.2
  unfold spl
  rw[xGr (fun q=>h.1 q.symm)]
  split
  ·rfl
  ·rename_i a r e
   rw[e] at ih
   exact ih
def yUj (r r':List Int×Bool):Prop:=r'.2=r.2∧(r.2=true→r'=r)
theorem yEi (a b:List Int):yUj (a,false) (b,false):=⟨rfl,fun q=>by cases q⟩
theorem zXn {xs:List ByteArray}(hx:xs.length≤300){last:Bool}{acc:List Int}{i k:Nat}{p:ByteArray}(hi:i < xs.length)(ha:acc.length≤1000):
  Yg.j1 (k+1) last acc xs p xs (xs.length:Int) (i:Int) false=(match zQ9 p with
   |some (m,true)=>Yg.l0 k last (acc++[m]) xs xs (xs.length:Int) ((i+1:Nat):Int)
   |some (_,false)=>some ([],false)
   |none=>none):=by
 obtain⟨⟨m,b⟩,hr⟩:=zVu p
 have hr':Yk0.f p=some (m,b):=hr
 unfold Yg.j1
 rw[xGr (by decide),hr',hr,xGp]
 cases b with
 |false=>rfl
 |true=>rw[xGq rfl,xGq (by omega),zKe (by omega) (by omega),show((i:Int)+1)=((i+1:Nat):Int) by omega]
theorem yEj {xs:List ByteArray}(hx:xs.length≤300){last:Bool}{acc:List Int}{i k:Nat}{p:ByteArray}(hi:i < xs.length)(hp:zCl ByteArray.empty xs (i:Int)=p)(ha:acc.length≤1000)(n:Int)(hk:20≤k):
  ∃ k',k≤k'+8∧k'≤k∧Ya.j1 (k+1) last acc xs (i:Int) n false=(match zQ9 p with
   |some (m,true)=>Ya.l0 k' last (acc++[m]) xs ((i+1:Nat):Int)
   |some (_,false)=>some ([],false)
   |none=>none):=by
 obtain⟨k,rfl⟩:∃ j,k=j+1:=⟨k - 1,by omega⟩
 have hl:p.data.toList.length=p.size:=rfl
 have j2t:Ya.j2 (k+1) last acc xs (i:Int) true=some ([],false):=by
  unfold Ya.j2
  rw[xGq rfl]
 by_cases h1:p.size < 1
 ·refine⟨k,by omega,by omega,?_⟩
  unfold Ya.j1 zQ9
  rw[xGr (by decide),xGq (by omega),xGq (by omega),hp,xGq (by omega),j2t,xGq (Or.inl (by omega))]
 ·by_cases h4:4 < p.size
  ·refine⟨k,by omega,by omega,?_⟩
   unfold Ya.j1 zQ9
   rw[xGr (by decide),xGq (by omega),xGq (by omega),hp,xGr (by omega),xGx (by omega),j2t,xGq (Or.inr (by omega))]
  ·obtain⟨k',hk'⟩:∃ j,k=j+p.size+1:=⟨k - p.size - 1,by omega⟩
   refine⟨k',by omega,by omega,?_⟩
   unfold Ya.j1 zQ9
   rw[xGr (by decide),xGq (by omega),xGq (by omega),hp,xGr (by omega),xG1 (by omega),xGr (by omega)]
   unfold Ya.j2
   rw[xGr (by decide),hk']
   have h:=yH5 (last:=last) (out:=acc) hi hp (by omega) (by omega) (by omega) p.size 0 k' 0 (by omega) (by omega)
   rw[show((0:Nat):Int)=0 from rfl,xIm] at h
   exact h
theorem yH8 {xs:List ByteArray}(hx:xs.length≤300)(hp:∀ p∈xs,p.size≤200)(last:Bool):∀ (d i k k':Nat) (acc:List Int),i+d=xs.length→2 * d+404≤k→12 * d+3100≤k'→acc.length≤i→
  ∃ r r',Yg.l0 k last acc xs xs (xs.length:Int) (i:Int)=some r∧Ya.l0 k' last acc xs (i:Int)=some r'∧yUj r r':=by
 intro d
 induction d with
 |zero=>
  intro i k k' acc hi hk hk' ha
  obtain⟨k,rfl⟩:∃ j,k=j+1:=⟨k - 1,by omega⟩
  obtain⟨k',rfl⟩:∃ j,k'=j+1:=⟨k' - 1,by omega⟩
  unfold Yg.l0 Ya.l0
  rw[xGr (by omega),xGr (by omega)]
  exact⟨_,_,rfl,rfl,rfl,fun _=>rfl⟩
 |succ d ih=>
  intro i k k' acc hi hk hk' ha
  obtain⟨k,rfl⟩:∃ j,k=j+2:=⟨k - 2,by omega⟩
  obtain⟨k',rfl⟩:∃ j,k'=j+2:=⟨k' - 2,by omega⟩
  have hlt:i < xs.length:=by omega
  obtain⟨p,ep⟩:∃ p,zCl ByteArray.empty xs (i:Int)=p:=⟨_,rfl⟩
  have hps:p.size≤200:=by
   rw[← ep]
   unfold zCl
   rw[xG7,xGw,xGz (by omega)]
   exact hp _ (xH3 _)
  obtain⟨r4,r4',f1,f2,f3,f4,f5,f6⟩:=yEh (s:=p) (by omega) (k:=k) (k':=k'+1) (by omega) (by omega)
  have hex:∀ n,∃ r r',Yg.j1 (k+1) last acc xs p xs (xs.length:Int) (i:Int) false=some r∧Ya.j1 (k'+1) last acc xs (i:Int) n false=some r'∧yUj r r':=by
   intro n
   obtain⟨k2,h1,h2,h3⟩:=yEj hx (last:=last) (acc:=acc) hlt ep (by omega) n (k:=k') (by omega)
   rw[zXn hx hlt (by omega),h3]
   obtain⟨⟨m,b⟩,hr⟩:=zVu p
   rw[hr]
   cases b with
   |false=>exact⟨_,_,rfl,rfl,yEi _ _⟩
   |true=>exact ih (i+1) k k2 (acc++[m]) (by omega) (by omega) (by omega) (by rw[xG8,xHv];omega)
  unfold Yg.l0 Ya.l0
  have c1:(i:Int) < (xs.length:Int):=by omega
  have c2:(0:Int)≤(i:Int):=by omega
  rw[xGq c1,xGq c2,xGq c1,xGq c1,xGq c2,ep,f2,xGp,zKe (by omega) (by omega)]
  by_cases hl:last=true∧(i:Int)=(xs.length:Int) - 1
  ·rw[xGq hl.1,xGq hl.2,xGq hl.1,show((i:Int)==(xs.length:Int) - 1)=true from beq_iff_eq.2 hl.2]
   unfold Yw.f
   rw[xGq (by omega),xGp]
   by_cases hd:(46:UInt8)∈p.data.toList
   ·rw[show Lib.contains p.data.toList (ByteArray.data ⟨#[46]⟩).toList=true from Txt.contains_yes hd]
    have ea:Yg.j1 (k+1) last acc xs p xs (xs.length:Int) (i:Int) true=some (acc++[r4.1 / 65536,Go.bits .and .u64 r4.1 65535],r4.2):=by
     unfold Yg.j1
     rw[xGq rfl,f1,xGp,xGp,xGq (by simp only[xG4,xHa];omega)]
    rw[ea]
    by_cases h4:r4.2=true
    ·rw[xGq (f3.trans h4),f4 h4]
     obtain⟨k',rfl⟩:∃ j,k'=j+1:=⟨k' - 1,by omega⟩
     unfold Ya.j1
     rw[xGq rfl,xGp,xGq (by simp only[xG4,xHa];omega),zKe (by omega) (by omega)]
     unfold Ya.l0
     rw[xGr (by omega),h4]
     exact⟨_,_,rfl,rfl,rfl,fun _=>rfl⟩
    ·have h4':¬ r4'.2=true:=by rw[f3];exact h4
     rw[xGr h4']
     obtain⟨r,r',_,a2,a3⟩:=hex r4'.1
     obtain⟨k2,_,_,h3⟩:=yEj hx (last:=last) (acc:=acc) hlt ep (by omega) r4'.1 (k:=k') (by omega)
     rw[h3,yH7 hd]
     have e4:r4.2=false:=by simpa using h4
     rw[e4]
     exact⟨_,_,rfl,rfl,yEi _ _⟩
   ·rw[show Lib.contains p.data.toList (ByteArray.data ⟨#[46]⟩).toList=false from Txt.contains_no hd]
    have h4:¬ r4'.2=true:=by
     rw[f3]
     intro q
     have:=f6 q
     rw[zRj _ hd] at this
     omega
    rw[xGr h4]
    exact hex _
  ·have e1:(if last=true then if(i:Int)=(xs.length:Int) - 1 then(Yw.f p ⟨#[46]⟩).bind fun t=>Yg.j1 (k+1) last acc xs p xs (xs.length:Int) (i:Int) t else Yg.j1 (k+1) last acc xs p xs (xs.length:Int) (i:Int) false else Yg.j1 (k+1) last acc xs p xs (xs.length:Int) (i:Int) false)=Yg.j1 (k+1) last acc xs p xs (xs.length:Int) (i:Int) false:=by
    split
    ·rename_i q
     rw[xGr (fun q2=>hl ⟨q,q2⟩)]
    ·rfl
   have e2:(if r4'.2=true then if last=true then Ya.j1 (k'+1) last acc xs (i:Int) r4'.1 ((i:Int)==(xs.length:Int) - 1) else Ya.j1 (k'+1) last acc xs (i:Int) r4'.1 false else Ya.j1 (k'+1) last acc xs (i:Int) r4'.1 false)=Ya.j1 (k'+1) last acc xs (i:Int) r4'.1 false:=by
    split
    ·split
     ·rename_i q
      rw[show((i:Int)==(xs.length:Int) - 1)=false from beq_eq_false_iff_ne.2 (fun q2=>hl ⟨q,q2⟩)]
     ·rfl
    ·rfl
   rw[e1,e2]
   exact hex _
theorem zPt {s:ByteArray}(hs:s.size≤200)(last:Bool){k:Nat}(hk:7000≤k):∃ r r',zBi (s,last)=some r∧Ya.f k s last=some r'∧yUj r r':=by
 unfold zBi Yg.f Ya.f
 by_cases h:s.toList=([]:List UInt8)
 ·rw[xGq h,xGq h]
  exact⟨_,_,rfl,rfl,rfl,fun _=>rfl⟩
 ·obtain⟨l,e,h1,h2,h3⟩:=zE1 (s:=s) (sep:=⟨#[58]⟩) (by omega) (by decide)
  have el:l=(spl 58 s.data.toList).map mkB:=xHc (e.symm.trans (zF1 58 (by omega)))
  have e3:Yo.f k s 58=some l:=by rw[el];exact zJl (c:=58) (by omega) (by omega)
  rw[xGr h,xGr h,e,e3,xGp,xGp]
  exact yH8 (by omega) (fun p q=>xHf (h3 p q) hs) last l.length 0 1000 k [] (by omega) (by omega) (by omega) (by simp)
def jn:List UInt8→Nat→Int
 |a::b::t,i=>if a=58∧b=58 then(i:Int) else jn (b::t) (i+1)
 |_,_=>-1
theorem u58 (x:UInt8):(x.toNat:Int)=58↔x=58:=by
 constructor
 ·intro h
  refine UInt8.toNat_inj.1 ?_
  show x.toNat=58
  omega
 ·rintro rfl;rfl
theorem yH9 {s:ByteArray}(hs:s.size≤1000):∀ (d i k:Nat),i+d=s.size→d+1≤k→Yz.l0 k s (i:Int)=some (jn (s.data.toList.drop i) i):=by
 have hl:s.data.toList.length=s.size:=rfl
 intro d
 induction d with
 |zero=>
  intro i k hi hk
  obtain⟨k,rfl⟩:∃ j,k=j+1:=⟨k - 1,by omega⟩
  unfold Yz.l0
  rw[zKe (by omega) (by omega),xGr (by omega),show s.data.toList.drop i=[] from xHj (by omega)]
  rfl
 |succ d ih=>
  intro i k hi hk
  obtain⟨k,rfl⟩:∃ j,k=j+1:=⟨k - 1,by omega⟩
  have hlt:i < s.data.toList.length:=by omega
  have hx:=xGz hlt
  obtain⟨x,ex⟩:∃ x,x=s.data.toList[i]:=⟨_,rfl⟩
  rw[← ex] at hx
  have hd:s.data.toList.drop i=x::s.data.toList.drop (i+1):=by rw[ex];exact xHk hlt
  unfold Yz.l0
  rw[zKe (by omega) (by omega),show((i:Int)+1)=((i+1:Nat):Int) by omega]
  by_cases h1:i+1 < s.size
  ·have hlt2:i+1 < s.data.toList.length:=by omega
   have hy:=xGz hlt2
   obtain⟨y,ey⟩:∃ y,y=s.data.toList[i+1]:=⟨_,rfl⟩
   rw[← ey] at hy
   have hd2:s.data.toList.drop (i+1)=y::s.data.toList.drop (i+1+1):=by rw[ey];exact xHk hlt2
   have hn:=ih (i+1) k (by omega) (by omega)
   rw[xGq (by omega),xGq (by omega),xGq (by omega),zJk hx,zJk hy,hd,hd2,jn,← hd2,hn]
   by_cases hx5:x=58
   ·rw[xGq ((u58 x).2 hx5),xGq (by omega)]
    by_cases hy5:y=58
    ·rw[xGq ((u58 y).2 hy5),xGq ⟨hx5,hy5⟩]
    ·rw[xGr (fun q=>hy5 ((u58 y).1 q)),xGr (fun q=>hy5 q.2)]
   ·rw[xGr (fun q=>hx5 ((u58 x).1 q)),xGr (fun q=>hx5 q.1)]
  ·rw[xGr (by omega),hd,show s.data.toList.drop (i+1)=[] from xHj (by omega)]
   rfl
theorem zXo {s:ByteArray}(hs:s.size≤1000){k:Nat}(hk:1001≤k):Yz.f k s=some (jn s.data.toList 0):=by
 unfold Yz.f
 have h:=yH9 hs s.size 0 k (by omega) (by omega)
 rwa [xIm,show((0:Nat):Int)=0 from rfl] at h
theorem zJm:∀ (l:List UInt8) (i:Nat),(jn l i=-1∧Txt.twice 58 l=false)∨(∃ a b,l=a++58::58::b∧jn l i=((i+a.length:Nat):Int)∧Txt.twice 58 (a++[58])=false)
 |[],i=>Or.inl ⟨rfl,rfl⟩
 |[x],i=>Or.inl ⟨rfl,by simp[Txt.twice]⟩
 |x::y::t,i=>by
  rw[jn]
  by_cases h:x=58∧y=58
  ·rw[xGq h]
   obtain⟨rfl,rfl⟩:=h
   exact Or.inr ⟨[],t,rfl,by simp,by simp[Txt.twice]⟩
  ·rw[xGr h]
   rcases zJm (y::t) (i+1) with⟨h1,h2⟩|⟨a,b,h1,h2,h3⟩
   ·refine Or.inl ⟨h1,?_⟩
    by_cases hx:x=58
    ·have hy:y≠58:=fun q=>h ⟨hx,q⟩
     simp[Txt.twice,hx,hy] at h2 ⊢
     exact h2
    ·rw[Txt.twice_cons hx];exact h2
   ·refine Or.inr ⟨x::a,b,by rw[h1];rfl,by rw[h2,xG4];congr 1;omega,?_⟩
    by_cases hx:x=58
    ·have hy:y≠58:=fun q=>h ⟨hx,q⟩
     cases a with
     |nil=>
      simp only[xH4] at h1
      cases h1
      exact absurd rfl hy
     |cons z r=>
      simp only[xIs] at h1
      have hz:y=z:=by injection h1
      subst hz
      simp only[xIs] at h3 ⊢
      simp[Txt.twice,hx,hy] at h3 ⊢
      exact h3
    ·rw[xIs,Txt.twice_cons hx];exact h3
theorem zRk {m:Nat}:∀ (l:List UInt8) (n:Nat) (r:Int),zUi m n l=some (r,true)→(58:UInt8)∉l
 |[],_,_,_=>by simp
 |c::t,n,r,h=>by
  rw[zUi] at h
  split at h
  ·rename_i q
   have:=zRk t _ r h
   simp only[xG6,not_or]
   refine⟨fun e=>?_,this⟩
   rw[← e] at q
   have h58:(58:UInt8).toNat=58:=rfl
   omega
  ·cases h
theorem yPd {s:ByteArray}{r:Int}(h:zRa s 255=some (r,true)):(58:UInt8)∉s.data.toList:=by
 unfold zRa at h
 rw[xGq (by omega)] at h
 split at h
 ·rename_i e;rw[e];simp
 ·rename_i c t e
  rw[e]
  split at h
  ·split at h
   ·rename_i ht
    rw[show(255:Int)=((255:Nat):Int) from rfl,show(0:Int)=((0:Nat):Int) from rfl,zDo (by decide) _ 0 (by decide)] at h
    rw[ht]
    exact zRk _ _ _ h
   ·cases h
  ·rw[show(255:Int)=((255:Nat):Int) from rfl,show(0:Int)=((0:Nat):Int) from rfl,zDo (by decide) _ 0 (by decide)] at h
   exact zRk _ _ _ h
theorem yIa {xs:List ByteArray}(hx:xs.length≤1000):∀ (k i:Nat) (n:Int) (r:Int×Bool),i≤xs.length→Yp.l0 k xs n xs (xs.length:Int) (i:Int)=some r→r.2=true→∀ p∈xs.drop i,(58:UInt8)∉p.data.toList:=by
 intro k
 induction k with
 |zero=>intro i n r _ h;simp[Yp.l0] at h
 |succ k ih=>
  intro i n r hi h hr
  by_cases hlt:i < xs.length
  ·have ep:zCl ByteArray.empty xs (i:Int)=xs[i]:=by
    unfold zCl
    rw[xG7,xGw,xGz hlt];rfl
   unfold Yp.l0 at h
   rw[xGq (by omega),xGq (by omega),xGq (by omega),ep] at h
   obtain⟨⟨m,b⟩,hm⟩:=zNp xs[i]
   have hm':Ye0.f xs[i] 255=some (m,b):=hm
   rw[hm',xGp] at h
   cases b with
   |false=>
    rw[xGr (fun q=>by cases q)] at h
    cases h
    cases hr
   |true=>
    rw[xGq rfl,zKe (by omega) (by omega),show((i:Int)+1)=((i+1:Nat):Int) by omega] at h
    have:=ih (i+1) _ r (by omega) h hr
    rw[xHk hlt]
    intro p hp
    rcases xG6.1 hp with rfl|hp
    ·exact yPd hm
    ·exact this p hp
  ·rw[xHj (by omega)]
   intro p hp
   cases hp
theorem yPe {s:ByteArray}(hs:s.size≤400){k:Nat}{r:Int×Bool}(h:Yp.f k s=some r)(hr:r.2=true):(58:UInt8)∉s.data.toList:=by
 obtain⟨l,e,h1,h2,h3⟩:=zE1 (s:=s) (sep:=⟨#[46]⟩) hs (by decide)
 have el:l=(spl 46 s.data.toList).map mkB:=xHc (e.symm.trans (zF1 46 hs))
 unfold Yp.f at h
 rw[e,xGp] at h
 have hd:=yIa (by omega) k 0 0 r (by omega) h hr
 rw[xIm,el] at hd
 rw[← zJj 46 s.data.toList]
 refine Txt.not_mem_join (by decide) _ fun p hp=>?_
 exact hd (mkB p) (xJb.2 ⟨p,hp,rfl⟩)
theorem yEk {s:ByteArray}(hs:s.size≤200)(h:(58:UInt8)∉s.data.toList){last:Bool}{r:List Int×Bool}(hr:zBi (s,last)=some r):r.1.length≤2:=by
 unfold zBi Yg.f at hr
 split at hr
 ·cases hr;simp
 ·rw[zF1 (s:=s) 58 (by omega),xGp] at hr
  have h1:=zRj _ h
  obtain⟨xs,ex⟩:∃ xs,xs=(spl 58 s.data.toList).map mkB:=⟨_,rfl⟩
  have hx:xs.length=1:=by rw[ex,xHm,h1]
  rw[← ex] at hr
  have endd:∀ (k:Nat) (acc:List Int) (r:List Int×Bool),acc.length≤2→Yg.l0 k last acc xs xs (xs.length:Int) ((0+1:Nat):Int)=some r→r.1.length≤2:=by
   intro k acc r ha hr
   cases k with
   |zero=>simp[Yg.l0] at hr
   |succ k=>
    unfold Yg.l0 at hr
    rw[xGr (by omega)] at hr
    cases hr
    exact ha
  have hj:∀ (k:Nat) (p:ByteArray) (b:Bool) (r:List Int×Bool),Yg.j1 (k+1) last [] xs p xs (xs.length:Int) ((0:Nat):Int) b=some r→r.1.length≤2:=by
   intro k p b r hr
   cases b with
   |true=>
    unfold Yg.j1 at hr
    rw[xGq rfl] at hr
    obtain⟨t,_,hr⟩:=xGs.1 hr
    rw[xGp] at hr
    split at hr
    ·cases hr;simp
    ·cases hr
   |false=>
    rw[zXn (by omega) (by omega) (by simp)] at hr
    split at hr
    ·exact endd _ _ _ (by simp) hr
    ·cases hr;simp
    ·cases hr
  rw[show(1000:Nat)=998+2 from rfl,show(0:Int)=((0:Nat):Int) from rfl] at hr
  unfold Yg.l0 at hr
  rw[xGq (by omega),xGq (by omega),xGq (by omega)] at hr
  split at hr
  ·split at hr
   ·obtain⟨t,_,hr⟩:=xGs.1 hr
    exact hj _ _ _ _ hr
   ·exact hj _ _ _ _ hr
  ·exact hj _ _ _ _ hr
def yIb (s:ByteArray):Option (Int×Int×Int×Bool):=
 (YB.f 7000 s).bind fun n=>if n.2=true then some (4,0,n.1,true) else
  (Yz.f 7000 s).bind fun j=>if j < 0 then(Ya.f 7000 s true).bind fun g=>if g.2=true∧g.1.length=8 then some (6,(zFm g.1).1,(zFm g.1).2,true) else some (0,0,0,false)
   else(Ya.f 7000 (s.extract 0 j.toNat) false).bind fun a=>(Ya.f 7000 (s.extract (j+2).toNat s.size) true).bind fun b=>
    if a.2=true∧b.2=true∧a.1.length+b.1.length≤7 then some (6,(zFm (a.1++List.replicate (8 - (a.1.length+b.1.length)) 0++b.1)).1,(zFm (a.1++List.replicate (8 - (a.1.length+b.1.length)) 0++b.1)).2,true) else some (0,0,0,false)
theorem zNt (s:ByteArray)(hs:s.size≤200):PRD.YH.f s=if(58:UInt8)∈s.data.toList then zVs s else(Yp.f 1000 s).bind fun r=>if r.2=true then some (4,0,r.1,true) else some (0,0,0,false):=by
 unfold PRD.YH.f Yw.f
 rw[xGq (by omega),xGp]
 by_cases h:(58:UInt8)∈s.data.toList
 ·rw[xGq h,show Lib.contains s.data.toList (ByteArray.data ⟨#[58]⟩).toList=true from Txt.contains_yes h,xGq rfl]
  obtain⟨r,hr,_⟩:=yEb hs
  have hr':PRD.YC0.f s=some r:=hr
  rw[hr',hr]
  rfl
 ·rw[xGr h,show Lib.contains s.data.toList (ByteArray.data ⟨#[58]⟩).toList=false from Txt.contains_no h,xGr (by decide)]
theorem yIc {s:ByteArray}(hs:s.size≤200):yIb s=PRD.YH.f s:=by
 have hl:s.data.toList.length=s.size:=rfl
 obtain⟨r,r',f1,f2,f3,f4,f5,f6⟩:=yEh (s:=s) (by omega) (k:=1000) (k':=7000) (by omega) (by omega)
 rw[zNt s hs]
 unfold yIb
 rw[f2,xGp,zXo (by omega) (by omega),xGp]
 by_cases hc:(58:UInt8)∈s.data.toList
 ·have hr:¬ r.2=true:=fun q=>yPe (by omega) f1 q hc
  rw[xGq hc,xGr (by rw[f3];exact hr)]
  have hz:s.size < 4294967281:=by omega
  unfold zVs zDg
  rw[xGq hz,xGp]
  rcases zJm s.data.toList 0 with⟨e1,e2⟩|⟨a,b,e1,e2,e3⟩
  ·rw[e1,xGq (by decide)]
   have ec:zVm s { data:=#[58,58] }=(s,⟨#[]⟩,false):=by
    unfold zVm
    rw[show(ByteArray.data { data:=#[58,58] }).toList=[58,58] from rfl,Txt.cut_miss e2]
   rw[ec]
   obtain⟨g,g',g1,g2,g3,g4⟩:=zPt (s:=s) hs true (k:=7000) (by omega)
   have hn:zBi ((⟨#[]⟩:ByteArray),true)=some ([],true):=by
    obtain⟨q,hq⟩:=zVw (s:=(⟨#[]⟩:ByteArray)) (xIc _) true
    rw[hq,zHg rfl hq]
   show _=(zBi (s,true)).bind _
   rw[g1,g2,xGp,xGp,hn,xGp]
   have hne:decide (s.data.toList=[])=false:=xG1 (fun q=>by rw[q] at hc;cases hc)
   unfold zXb
   rw[hne]
   by_cases hg:g.2=true
   ·have:=g4 hg
    subst this
    by_cases h8:g'.1.length=8
    ·rw[xGq ⟨hg,h8⟩,xGr (by simp[hg,h8])]
     simp[h8]
    ·rw[xGr (fun q=>h8 q.2),xGq (by simp[h8])]
   ·rw[xGr (fun q=>hg (by rw[← g3];exact q.1)),xGq (by simp[hg])]
  ·have ej:(jn s.data.toList 0).toNat=a.length:=by rw[e2];omega
   have ej2:(jn s.data.toList 0+2).toNat=a.length+2:=by rw[e2];omega
   have hle:a.length+2+b.length=s.size:=by rw[← hl,e1];simp;omega
   rw[xGr (by rw[e2];omega),ej,ej2,zHx,zHx]
   have ea:(s.data.toList.take a.length).drop 0=a:=by rw[e1];simp
   have eb:(s.data.toList.take s.size).drop (a.length+2)=b:=by
    rw[xIu (by omega),e1,show a++58::58::b=(a++[58,58])++b by simp]
    exact List.drop_left' (by simp)
   have ec:zVm s { data:=#[58,58] }=(mkB a,mkB b,true):=by
    unfold zVm
    rw[show(ByteArray.data { data:=#[58,58] }).toList=[58,58] from rfl,e1,Txt.cut_hit b e3]
    rfl
   rw[ea,eb,ec]
   obtain⟨g,g',g1,g2,g3,g4⟩:=zPt (s:=mkB a) (by show(List.toArray a).size≤200;rw[xIv];omega) false (k:=7000) (by omega)
   obtain⟨u,u',u1,u2,u3,u4⟩:=zPt (s:=mkB b) (by show(List.toArray b).size≤200;rw[xIv];omega) true (k:=7000) (by omega)
   show _=(zBi (mkB a,false)).bind _
   rw[g1,g2,xGp,xGp,u1,u2,xGp,xGp]
   have hne:decide (s.data.toList=[])=false:=xG1 (fun q=>by rw[q] at hc;cases hc)
   unfold zXb
   rw[hne]
   by_cases hg:g.2=true
   ·have:=g4 hg
    subst this
    by_cases hu:u.2=true
    ·have:=u4 hu
     subst this
     by_cases h8:g'.1.length+u'.1.length≤7
     ·rw[xGq ⟨hg,hu,h8⟩,xGr (by simp[hg,hu];omega)]
     ·rw[xGr (fun q=>h8 q.2.2),xGq (by simp;right;right;omega)]
    ·rw[xGr (fun q=>hu (by rw[← u3];exact q.2.1)),xGq (by simp[hu])]
   ·rw[xGr (fun q=>hg (by rw[← g3];exact q.1)),xGq (by simp[hg])]
 ·rw[xGr hc,f1,xGp]
  by_cases hr:r.2=true
  ·rw[xGq hr,xGq (f3.trans hr),f4 hr]
  ·rw[xGr hr,xGr (by rw[f3];exact hr)]
   rcases zJm s.data.toList 0 with⟨e1,_⟩|⟨a,b,e1,_,_⟩
   ·rw[e1,xGq (by decide)]
    obtain⟨g,g',g1,g2,g3,g4⟩:=zPt (s:=s) hs true (k:=7000) (by omega)
    rw[g2,xGp]
    have hshort:=yEk hs hc g1
    refine xGr (fun q=>?_)
    have hg:g.2=true:=by rw[← g3];exact q.1
    have:=g4 hg
    subst this
    omega
   ·exact absurd (by rw[e1];simp) hc
end Go.Proofs.YtfnacgojmdbjmaaGreatDoor
namespace Go.Proofs.YtfnacgojmdbjmaaGreatDoor
open Go.Det Go.RowKit Go.Proofs.ZW
def yUk (V h l:Int):Option ByteArray:=PPPT.Yb.f 300 V h l
def xDy (n:Int):Option ByteArray:=PPPT.Yh.f 300 n
def yPf (s:ByteArray)(m:Int):Option (Int×Bool):=PPPT.Yj.f 7000 s m
def yPg (s:ByteArray)(c:Int):Option Int:=PPPT.YL.f 7000 s c
def yEl:List Value→Option (ByteArray×Int)
 |[.string s,.int .u8 n]=>some (s,n)
 |_=>none
theorem yEm {args:List Value}{a:ByteArray×Int}(h:yEl args=some a):args=[.string a.1,.int .u8 a.2]:=by
 unfold yEl at h
 split at h
 case h_2=>cases h
 cases h;rfl
def enI (y:Int):Value:=.int .i64 y
def con58:Con:=Con.opt ySo (fun x=>yUk x.1 x.2.1 x.2.2) enS
theorem xDz {W:World}(hW:GoodW W):zAk Tryz.prog W 6 58 con58.own:=by
 refine zA6 (fn:=Tryz.f58) (c:=zAa Tryz.f58) hW Tryz.func58 (by kernel_rfl) (by kernel_rfl) fun args v h=>?_
 split at h
 case h_2=>cases h
 rename_i a ha
 split at h
 case h_2=>cases h
 rename_i b hb
 cases h
 obtain rfl:=zRe ha
 exact⟨rfl,rfl,fun w hG=>(PPPT.Yb.calls 300 a.1 a.2.1 a.2.2 b w hG hb).mono fun e w' h=>⟨h.1,h.2⟩⟩
def yWk:Con:=Con.opt yDb (fun x=>yPf x.1 x.2) zW8
def yWl:Con:=Con.opt yEl (fun x=>yPg x.1 x.2) enI
def zNu (s:ByteArray):Option (Int×Int×Int×Bool):=if s.size≤200 then yIb s else none
def con63:Con:=Con.opt zZp zNu yFz
end Go.Proofs.YtfnacgojmdbjmaaGreatDoor
namespace Go.Proofs.YtfnacgojmdbjmaaGreatDoor.PRD
open Go.RowKit Go.Proofs.ZW Go.Proofs.ZL Go.Proofs.ZM
open Go.Det (inQ M64 zB1 qn zJc zJb zFf)
def Yb.f (a0_0:Int)(a0_1:Int)(a0_2:Int):Option (ByteArray):=yUk a0_0 a0_1 a0_2
def Yh.f (a0:Int):Option (ByteArray):=xDy a0
def YG0.f (a0:ByteArray):Option (Int×Int×Int×Bool):=zNu a0
def Yj.f (a0:ByteArray)(a1:Int):Option (Int×Bool):=yPf a0 a1
def YL.f (a0:ByteArray)(a1:Int):Option (Int):=yPg a0 a1
def Ye0.f (a0:ByteArray)(a1:Int):Option (Int×Bool):=zRa a0 a1
def Ys0.f (a0_0:Int)(a0_1:Int)(a0_2:Int)(a0_3:Int):Option (Int×Int×Int×Bool):=(YV.f a0_0 a0_1 a0_2 a0_3).bind fun t1=>(if t1=true then(if a0_0=4 then((YP.f 4 a0_3).bind fun t2=>((YY.f t2.1 t2.2 0 4294967295).bind fun t3=>(some (4,t3.1,t3.2,true)))) else(some (0,0,0,false))) else(some (0,0,0,false)))
def Yd.f (a0_0:Int)(a0_1:Int)(a0_2:Int)(a1_0:Int)(a1_1:Int)(a1_2:Int):Option (Bool):=if a0_0 < a1_0 then(some true) else(if a0_0=a1_0 then((YC.f a0_1 a0_2 a1_1 a1_2).bind fun t=>(some t)) else(some false))
def Yf0.f (a0_0:Int)(a0_1:Int)(a0_2:Int)(a0_3:Int):Option (Int×Int×Int×Bool):=(Yi.f a0_0 a0_1 a0_2 a0_3).bind fun t1=>(if t1=true then(if a0_0=4 then((YF.f 4 a0_3).bind fun t2=>(some (4,t2.1,t2.2,true))) else(some (0,0,0,false))) else(some (0,0,0,false)))
def YB0.f (a0:ByteArray):Option (Int×Int×Int×Int×Bool):=(YL.f a0 47).bind fun k=>(if k < 0 then(some (0,0,0,0,false)) else(if 0≤k∧k≤(a0.size:Int) then((YG0.f (a0.extract 0 k.toNat)).bind fun a=>(if 0≤wrap64 (k+1)∧wrap64 (k+1)≤(a0.size:Int) then((Yj.f (a0.extract (wrap64 (k+1)).toNat a0.size) 128).bind fun n=>(if a.2.2.2=true then(if n.2=true then((Yi.f a.1 a.2.1 a.2.2.1 (wrap64 n.1)).bind fun o=>(if o=true then(some (a.1,a.2.1,a.2.2.1,wrap64 n.1,true)) else(some (0,0,0,0,false)))) else(some (0,0,0,0,false))) else(some (0,0,0,0,false)))) else(none))) else(none)))
end Go.Proofs.YtfnacgojmdbjmaaGreatDoor.PRD
namespace Go.Proofs.YtfnacgojmdbjmaaGreatDoor
open Go.Det Go.RowKit PRD Go.Proofs.ZW
def xD0:List Value→Option (Int×Int×Int×Int)
 |[.agg ⟨[.int .i64 a,.int .u64 b,.int .u64 c,.int .i64 d]⟩]=>some (a,b,c,d)
 |_=>none
def yWm:List Value→Option (Int×Int×Int×Int)
 |[.agg ⟨[.int .i64 a,.int .u64 b,.int .u64 c,.int .i64 d]⟩]=>some (a,b,c,d)
 |_=>none
def yWn (y:Int×Int×Int×Bool):Value:=.tuple #[.agg #[.int .i64 y.1,.int .u64 y.2.1,.int .u64 y.2.2.1],.bool y.2.2.2]
def yWo:Con:=Con.opt yWm (fun x=>Ys0.f x.1 x.2.1 x.2.2.1 x.2.2.2) yWn
def yPh (y:Int×Int×Int×Int×Bool):Value:=.tuple #[.agg #[.int .i64 y.1,.int .u64 y.2.1,.int .u64 y.2.2.1,.int .i64 y.2.2.2.1],.bool y.2.2.2.2]
def yPi:List Value→Option (Int×Int×Int×Int×Int×Int)
 |[.agg ⟨[.int .i64 a,.int .u64 b,.int .u64 c]⟩,.agg ⟨[.int .i64 d,.int .u64 e,.int .u64 f]⟩]=>some (a,b,c,d,e,f)
 |_=>none
def yPj (x:Int×Int×Int×Int×Int×Int):List Value:=[.agg #[.int .i64 x.1,.int .u64 x.2.1,.int .u64 x.2.2.1],.agg #[.int .i64 x.2.2.2.1,.int .u64 x.2.2.2.2.1,.int .u64 x.2.2.2.2.2]]
theorem yEn {args:List Value}{a:Int×Int×Int×Int×Int×Int}(h:yPi args=some a):args=yPj a:=by
 unfold yPi at h
 split at h
 case h_2=>cases h
 cases h;rfl
def yPk (y:Bool):Value:=.bool y
def con76:Con:=Con.opt yPi (fun x=>Yd.f x.1 x.2.1 x.2.2.1 x.2.2.2.1 x.2.2.2.2.1 x.2.2.2.2.2) yPk
def L76:List (Nat×Con):=[(38,con38)]
def yWp:List Value→Option (Int×Int×Int×Int)
 |[.agg ⟨[.int .i64 a,.int .u64 b,.int .u64 c,.int .i64 d]⟩]=>some (a,b,c,d)
 |_=>none
def yWq (y:Int×Int×Int×Bool):Value:=.tuple #[.agg #[.int .i64 y.1,.int .u64 y.2.1,.int .u64 y.2.2.1],.bool y.2.2.2]
def yWr:Con:=Con.opt yWp (fun x=>Yf0.f x.1 x.2.1 x.2.2.1 x.2.2.2) yWq
theorem yWs (a:Int)(b:Int)(c:Int)(d:Int)(e:Int)(f:Int)(Q:Value→Prop):zAo Tryz.prog (cwC L76) (zAa Tryz.f76) (zAg [.agg #[.int .i64 a,.int .u64 b,.int .u64 c],.agg #[.int .i64 d,.int .u64 e,.int .u64 f]] 8) (zAh [] 64) (zA2 Tryz.prog Tryz.f76 fun v _=>Q v)=(zAd (zAf (a < d)) (Q (Value.bool true)) (zAd (zAf (a=d)) ((∃ x0:Bool,((YC.f b c e f=some x0)∧Q (Value.bool x0)))) (Q (Value.bool false)))):=by kernel_rfl
theorem yWt (x:Int×Int×Int×Int×Int×Int)(y:Bool)(hx:Yd.f x.1 x.2.1 x.2.2.1 x.2.2.2.1 x.2.2.2.2.1 x.2.2.2.2.2=some y):zAo Tryz.prog (cwC L76) (zAa Tryz.f76) (zAg (yPj x) 8) (zAh [] 64) (zA2 Tryz.prog Tryz.f76 fun v' _=>v'=yPk y):=by
 obtain⟨a,b,c,d,e,f⟩:=x
 refine(yWs a b c d e f _).mpr ?_
 unfold Yd.f at hx
 try simp only[zBn,zA5,zBk]
 repeat' first
  |(obtain⟨y,hy,hx⟩:=xGs.1 hx;refine⟨y,hy,?_⟩)
  |((first|refine bifW_c (fun hc=>?_) fun hc=>?_|refine bifW_n (fun hc=>?_) fun hc=>?_|refine bifW_b (fun hc=>?_) fun hc=>?_)<;>first|rw[xGq hc] at hx|rw[xGr hc] at hx|rw[xGq (xG9.1 hc)] at hx)
  |(split at hx<;>first|(cases hx;done)|(refine xGy (by assumption) ?_))
  |(cases hx;rfl)
  |(cases hx;simp only[yPk,zAz,zAx,xHe])
theorem yYl {W:World}(hW:GoodW W):zAk Tryz.prog W 6 76 con76.own:=
 zA0 yPj (Laying.empty hW.size) hW.size (by decide) zAl (OwnsAll.con (yWa hW) (zAb W 6)) Tryz.func76 (fn:=Tryz.f76) (c:=zAa Tryz.f76) (by kernel_rfl) (by kernel_rfl) (fun _ _ h=>yEn h) (fun a=>⟨rfl,(by kernel_rfl)⟩) (fun b=>rfl) yWt
end Go.Proofs.YtfnacgojmdbjmaaGreatDoor
end

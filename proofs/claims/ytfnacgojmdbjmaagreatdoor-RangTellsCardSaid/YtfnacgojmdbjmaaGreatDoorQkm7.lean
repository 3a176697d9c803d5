/- Texts of a proof, joined: words of the print (those that are named here) and printed functions. -/
import Derived.Test.YtfnacgojmdbjmaaGreatDoorQkm6
import Derived.Test.YtfnacgojmdbjmaaGreatDoorQkm4
set_option linter.unusedSimpArgs false
set_option linter.unusedVariables false
set_option maxRecDepth 100000
noncomputable section
namespace Go.Proofs.YtfnacgojmdbjmaaGreatDoor
open Go.Det Go.RowKit Go.Proofs.ZW
abbrev con59:Con:=conD60
theorem xDc {W:World}(hW:GoodW W):zAk Tryz.prog W 6 59 con59.own:=yR8 hW
abbrev con84:Con:=conD51
theorem xDd {W:World}(hW:GoodW W):zAk Tryz.prog W 6 84 con84.own:=yVs hW
abbrev con85:Con:=conD52
theorem xDe {W:World}(hW:GoodW W):zAk Tryz.prog W 6 85 con85.own:=yV4 hW
abbrev con70:Con:=conD26
theorem xDf {W:World}(hW:GoodW W):zAk Tryz.prog W 6 70 con70.own:=yV9 hW
def con86:Con:=Con.opt zZp (fun s=>PPH.Yp.f 1000 s) zW8
theorem xDg {W:World}(hW:GoodW W):zAk Tryz.prog W 6 86 con86.own:=by
 refine zA6 (fn:=Tryz.f86) (c:=zAa Tryz.f86) hW Tryz.func86 (by kernel_rfl) (by kernel_rfl) fun args v h=>?_
 split at h
 case h_2=>cases h
 rename_i a ha
 split at h
 case h_2=>cases h
 rename_i b hb
 cases h
 obtain rfl:=zGn ha
 exact⟨rfl,rfl,fun w hG=>(PPH.Yp.calls 1000 a b.1 b.2 w hG hb).mono fun e w' h=>⟨h.1,h.2⟩⟩
end Go.Proofs.YtfnacgojmdbjmaaGreatDoor
namespace Go.Proofs.YtfnacgojmdbjmaaGreatDoor.PRD
open Go.RowKit Go.Proofs.ZW Go.Proofs.ZL Go.Proofs.ZM
open Go.Det (inQ M64 zB1 qn zJc zJb zFf)
def Yo0.f (a0:ByteArray)(a1:ByteArray):Option (ByteArray×ByteArray×Bool):=zDg a0 a1
def YC0.f (a0:ByteArray):Option (Int×Int×Int×Bool):=zVs a0
def Yz0.f (a0_0:Int)(a0_1:Int)(a0_2:Int):Option (ByteArray):=prF a0_0 a0_1 a0_2
def YA.f (a0_0:Int)(a0_1:Int)(a0_2:Int):Option (Int×Int×Int×Bool):=(YN.f a0_1 a0_2 0 1).bind fun t1=>((Ym.f a0_0 a0_1 a0_2).bind fun t2=>(if t2=true then(if t1.2.2=true then((Ym.f a0_0 t1.1 t1.2.1).bind fun t3=>(if t3=true then(some (a0_0,t1.1,t1.2.1,true)) else(some (0,0,0,false)))) else(some (0,0,0,false))) else(some (0,0,0,false))))
def YH.f (a0:ByteArray):Option (Int×Int×Int×Bool):=(PPH.Yw.f a0 { data:=#[58] }).bind fun t1=>(if t1=true then((YC0.f a0).bind fun t2=>(some (t2.1,t2.2.1,t2.2.2.1,t2.2.2.2))) else((PPH.Yp.f 1000 a0).bind fun t3=>(if t3.2=true then(some (4,0,t3.1,true)) else(some (0,0,0,false)))))
def YM.f (a0:ByteArray):Option (Int×Int×Int×Int×Int×Int×Bool):=(Yo0.f a0 { data:=#[45] }).bind fun c=>((YH.f c.1).bind fun a=>((YH.f c.2.1).bind fun b=>(if c.2.2=true then(if a.2.2.2=true then(if b.2.2.2=true then((YE.f a.1 a.2.1 a.2.2.1 b.1 b.2.1 b.2.2.1).bind fun o=>(if o=true then(some (a.1,a.2.1,a.2.2.1,b.1,b.2.1,b.2.2.1,true)) else(some (0,0,0,0,0,0,false)))) else(some (0,0,0,0,0,0,false))) else(some (0,0,0,0,0,0,false))) else(some (0,0,0,0,0,0,false)))))
def Yn0.f (a0_0:Int)(a0_1:Int)(a0_2:Int)(a0_3:Int)(a0_4:Int)(a0_5:Int):Option (ByteArray):=(YE.f a0_0 a0_1 a0_2 a0_3 a0_4 a0_5).bind fun t1=>(if t1=true then((Yz0.f a0_0 a0_1 a0_2).bind fun s=>(if s.size+ByteArray.size ({ data:=#[45] }:ByteArray)≤9223372036854775807 then((Yz0.f a0_3 a0_4 a0_5).bind fun u=>(if(s++({ data:=#[45] }:ByteArray)).size+u.size≤9223372036854775807 then(some (s++({ data:=#[45] }:ByteArray)++u)) else(none))) else(none))) else(some { data:=#[] }))
end Go.Proofs.YtfnacgojmdbjmaaGreatDoor.PRD
namespace Go.Proofs.YtfnacgojmdbjmaaGreatDoor
open Go.Det Go.RowKit PRD Go.Proofs.ZW
def yOd:List Value→Option (Int×Int×Int)
 |[.agg ⟨[.int .i64 a,.int .u64 b,.int .u64 c]⟩]=>some (a,b,c)
 |_=>none
def yOe (x:Int×Int×Int):List Value:=[.agg #[.int .i64 x.1,.int .u64 x.2.1,.int .u64 x.2.2]]
theorem yDr {args:List Value}{a:Int×Int×Int}(h:yOd args=some a):args=yOe a:=by
 unfold yOd at h
 split at h
 case h_2=>cases h
 cases h;rfl
def yOf (y:Int×Int×Int×Bool):Value:=.tuple #[.agg #[.int .i64 y.1,.int .u64 y.2.1,.int .u64 y.2.2.1],.bool y.2.2.2]
def con54:Con:=Con.opt yOd (fun x=>YA.f x.1 x.2.1 x.2.2) yOf
def L54:List (Nat×Con):=[(43,con43),(44,con44)]
def yOg:List Value→Option (ByteArray)
 |[.string a]=>some (a)
 |_=>none
def yOh (x:ByteArray):List Value:=[.string x]
theorem yDs {args:List Value}{a:ByteArray}(h:yOg args=some a):args=yOh a:=by
 unfold yOg at h
 split at h
 case h_2=>cases h
 cases h;rfl
def yOi (y:Int×Int×Int×Bool):Value:=.tuple #[.agg #[.int .i64 y.1,.int .u64 y.2.1,.int .u64 y.2.2.1],.bool y.2.2.2]
def con60:Con:=Con.opt yOg (fun x=>YH.f x) yOi
def L60:List (Nat×Con):=[(84,con84),(85,con85),(86,con86)]
def yOj:List Value→Option (ByteArray)
 |[.string a]=>some (a)
 |_=>none
def yOk (x:ByteArray):List Value:=[.string x]
theorem yDt {args:List Value}{a:ByteArray}(h:yOj args=some a):args=yOk a:=by
 unfold yOj at h
 split at h
 case h_2=>cases h
 cases h;rfl
def yDu (y:Int×Int×Int×Int×Int×Int×Bool):Value:=.tuple #[.agg #[.int .i64 y.1,.int .u64 y.2.1,.int .u64 y.2.2.1,.int .i64 y.2.2.2.1,.int .u64 y.2.2.2.2.1,.int .u64 y.2.2.2.2.2.1],.bool y.2.2.2.2.2.2]
def con32:Con:=Con.opt yOj (fun x=>YM.f x) yDu
def L32:List (Nat×Con):=[(59,con59),(60,con60),(48,con48)]
def yOl:List Value→Option (Int×Int×Int×Int×Int×Int)
 |[.agg ⟨[.int .i64 a,.int .u64 b,.int .u64 c,.int .i64 d,.int .u64 e,.int .u64 f]⟩]=>some (a,b,c,d,e,f)
 |_=>none
def yOm (x:Int×Int×Int×Int×Int×Int):List Value:=[.agg #[.int .i64 x.1,.int .u64 x.2.1,.int .u64 x.2.2.1,.int .i64 x.2.2.2.1,.int .u64 x.2.2.2.2.1,.int .u64 x.2.2.2.2.2]]
theorem yDv {args:List Value}{a:Int×Int×Int×Int×Int×Int}(h:yOl args=some a):args=yOm a:=by
 unfold yOl at h
 split at h
 case h_2=>cases h
 cases h;rfl
def yOn (y:ByteArray):Value:=.string y
def con35:Con:=Con.opt yOl (fun x=>Yn0.f x.1 x.2.1 x.2.2.1 x.2.2.2.1 x.2.2.2.2.1 x.2.2.2.2.2) yOn
def L35:List (Nat×Con):=[(48,con48),(70,con70)]
theorem xDh (a:Int)(b:Int)(c:Int)(Q:Value→Prop):zAo Tryz.prog (cwC L54) (zAa Tryz.f54) (zAg [.agg #[.int .i64 a,.int .u64 b,.int .u64 c]] 8) (zAh [] 64) (zA2 Tryz.prog Tryz.f54 fun v _=>Q v)=((∃ x0:Int×Int×Bool,((YN.f b c 0 1=some x0)∧(∃ x1:Bool,((Ym.f a b c=some x1)∧zAd (!x1) (Q (Value.tuple #[Value.agg #[Value.int .i64 0,Value.int .u64 0,Value.int .u64 0],Value.bool false])) (zAd (!Prod.snd (x0.2)) (Q (Value.tuple #[Value.agg #[Value.int .i64 0,Value.int .u64 0,Value.int .u64 0],Value.bool false])) ((∃ x2:Bool,((Ym.f a (x0.1) (Prod.fst (x0.2))=some x2)∧zAd (!x2) (Q (Value.tuple #[Value.agg #[Value.int .i64 0,Value.int .u64 0,Value.int .u64 0],Value.bool false])) (Q (Value.tuple #[Value.agg #[Value.int .i64 a,Value.int .u64 (x0.1),Value.int .u64 (Prod.fst (x0.2))],Value.bool true]))))))))))):=by kernel_rfl
theorem xDi (a:ByteArray)(Q:Value→Prop):zAo Tryz.prog (cwC L60) (zAa Tryz.f60) (zAg [.string a] 8) (zAh [] 64) (zA2 Tryz.prog Tryz.f60 fun v _=>Q v)=((∃ x0:Bool,((yYc a { data:=#[58] }=some x0)∧zAd (x0) ((∃ x1:Int×Int×Int×Bool,((zVs a=some x1)∧Q (Value.tuple #[Value.agg #[Value.int .i64 (x1.1),Value.int .u64 (Prod.fst (x1.2)),Value.int .u64 (Prod.fst (Prod.snd (x1.2)))],Value.bool (Prod.snd (Prod.snd (x1.2)))])))) ((∃ x1:Int×Bool,((PPH.Yp.f 1000 a=some x1)∧zAd (!x1.2) (Q (Value.tuple #[Value.agg #[Value.int .i64 0,Value.int .u64 0,Value.int .u64 0],Value.bool false])) (Q (Value.tuple #[Value.agg #[Value.int .i64 4,Value.int .u64 0,Value.int .u64 (x1.1)],Value.bool true])))))))):=by kernel_rfl
theorem xDj (a:ByteArray)(Q:Value→Prop):zAo Tryz.prog (cwC L32) (zAa Tryz.f32) (zAg [.string a] 8) (zAh [] 64) (zA2 Tryz.prog Tryz.f32 fun v _=>Q v)=((∃ x0:ByteArray×ByteArray×Bool,((zDg a { data:=#[45] }=some x0)∧(∃ x1:Int×Int×Int×Bool,((YH.f (x0.1)=some x1)∧(∃ x2:Int×Int×Int×Bool,((YH.f (Prod.fst (x0.2))=some x2)∧zAd (!Prod.snd (x0.2)) (Q (Value.tuple #[Value.agg #[Value.int .i64 0,Value.int .u64 0,Value.int .u64 0,Value.int .i64 0,Value.int .u64 0,Value.int .u64 0],Value.bool false])) (zAd (!Prod.snd (Prod.snd (x1.2))) (Q (Value.tuple #[Value.agg #[Value.int .i64 0,Value.int .u64 0,Value.int .u64 0,Value.int .i64 0,Value.int .u64 0,Value.int .u64 0],Value.bool false])) (zAd (!Prod.snd (Prod.snd (x2.2))) (Q (Value.tuple #[Value.agg #[Value.int .i64 0,Value.int .u64 0,Value.int .u64 0,Value.int .i64 0,Value.int .u64 0,Value.int .u64 0],Value.bool false])) ((∃ x3:Bool,((YE.f (x1.1) (Prod.fst (x1.2)) (Prod.fst (Prod.snd (x1.2))) x2.1 (Prod.fst (x2.2)) (Prod.fst (Prod.snd (x2.2)))=some x3)∧zAd (!x3) (Q (Value.tuple #[Value.agg #[Value.int .i64 0,Value.int .u64 0,Value.int .u64 0,Value.int .i64 0,Value.int .u64 0,Value.int .u64 0],Value.bool false])) (Q (Value.tuple #[Value.agg #[Value.int .i64 (x1.1),Value.int .u64 (Prod.fst (x1.2)),Value.int .u64 (Prod.fst (Prod.snd (x1.2))),Value.int .i64 (x2.1),Value.int .u64 (Prod.fst (x2.2)),Value.int .u64 (Prod.fst (Prod.snd (x2.2)))],Value.bool true])))))))))))))):=by kernel_rfl
theorem xDk (a:Int)(b:Int)(c:Int)(d:Int)(e:Int)(f:Int)(Q:Value→Prop):zAo Tryz.prog (cwC L35) (zAa Tryz.f35) (zAg [.agg #[.int .i64 a,.int .u64 b,.int .u64 c,.int .i64 d,.int .u64 e,.int .u64 f]] 8) (zAh [] 64) (zA2 Tryz.prog Tryz.f35 fun v _=>Q v)=((∃ x0:Bool,((YE.f a b c d e f=some x0)∧zAd (!x0) (Q (Value.string { data:=#[] })) ((∃ x1:ByteArray,((prF a b c=some x1)∧((ByteArray.size x1+ByteArray.size { data:=#[45] }≤9223372036854775807)∧(∃ x2:ByteArray,((prF d e f=some x2)∧((ByteArray.size (x1++{ data:=#[45] })+ByteArray.size x2≤9223372036854775807)∧Q (Value.string (x1++{ data:=#[45] }++x2)))))))))))):=by kernel_rfl
theorem xDl (x:Int×Int×Int)(y:Int×Int×Int×Bool)(hx:YA.f x.1 x.2.1 x.2.2=some y):zAo Tryz.prog (cwC L54) (zAa Tryz.f54) (zAg (yOe x) 8) (zAh [] 64) (zA2 Tryz.prog Tryz.f54 fun v' _=>v'=yOf y):=by
 obtain⟨a,b,c⟩:=x
 refine(xDh a b c _).mpr ?_
 unfold YA.f at hx
 try simp only[zBn,zA5,zBk]
 repeat' first
  |(obtain⟨y,hy,hx⟩:=xGs.1 hx;refine⟨y,hy,?_⟩)
  |((first|refine bifW_c (fun hc=>?_) fun hc=>?_|refine bifW_n (fun hc=>?_) fun hc=>?_|refine bifW_b (fun hc=>?_) fun hc=>?_)<;>first|rw[xGq hc] at hx|rw[xGr hc] at hx|rw[xGq (xG9.1 hc)] at hx)
  |(split at hx<;>first|(cases hx;done)|(refine xGy (by assumption) ?_))
  |(cases hx;rfl)
  |(cases hx;simp only[yOf,zAz,zAx,xHe])
theorem xDm {W:World}(hW:GoodW W):zAk Tryz.prog W 6 54 con54.own:=
 zA0 yOe (Laying.empty hW.size) hW.size (by decide) zAl (OwnsAll.con (yX8 hW) (OwnsAll.con (yQ3 hW) (zAb W 6))) Tryz.func54 (fn:=Tryz.f54) (c:=zAa Tryz.f54) (by kernel_rfl) (by kernel_rfl) (fun _ _ h=>yDr h) (fun a=>⟨rfl,(by kernel_rfl)⟩) (fun b=>rfl) xDl
theorem xDn (x:ByteArray)(y:Int×Int×Int×Bool)(hx:YH.f x=some y):zAo Tryz.prog (cwC L60) (zAa Tryz.f60) (zAg (yOh x) 8) (zAh [] 64) (zA2 Tryz.prog Tryz.f60 fun v' _=>v'=yOi y):=by
 refine(xDi x _).mpr ?_
 unfold YH.f at hx
 try simp only[zBn,zA5,zBk]
 repeat' first
  |(obtain⟨y,hy,hx⟩:=xGs.1 hx;refine⟨y,hy,?_⟩)
  |((first|refine bifW_c (fun hc=>?_) fun hc=>?_|refine bifW_n (fun hc=>?_) fun hc=>?_|refine bifW_b (fun hc=>?_) fun hc=>?_)<;>first|rw[xGq hc] at hx|rw[xGr hc] at hx|rw[xGq (xG9.1 hc)] at hx)
  |(split at hx<;>first|(cases hx;done)|(refine xGy (by assumption) ?_))
  |(cases hx;rfl)
  |(cases hx;simp only[yOi,zAz,zAx,xHe])
theorem xDo {W:World}(hW:GoodW W):zAk Tryz.prog W 6 60 con60.own:=
 zA0 yOh (Laying.empty hW.size) hW.size (by decide) zAl (OwnsAll.con (xDd hW) (OwnsAll.con (xDe hW) (OwnsAll.con (xDg hW) (zAb W 6)))) Tryz.func60 (fn:=Tryz.f60) (c:=zAa Tryz.f60) (by kernel_rfl) (by kernel_rfl) (fun _ _ h=>yDs h) (fun a=>⟨rfl,(by kernel_rfl)⟩) (fun b=>rfl) xDn
theorem xDp (x:ByteArray)(y:Int×Int×Int×Int×Int×Int×Bool)(hx:YM.f x=some y):zAo Tryz.prog (cwC L32) (zAa Tryz.f32) (zAg (yOk x) 8) (zAh [] 64) (zA2 Tryz.prog Tryz.f32 fun v' _=>v'=yDu y):=by
 refine(xDj x _).mpr ?_
 unfold YM.f at hx
 try simp only[zBn,zA5,zBk]
 repeat' first
  |(obtain⟨y,hy,hx⟩:=xGs.1 hx;refine⟨y,hy,?_⟩)
  |((first|refine bifW_c (fun hc=>?_) fun hc=>?_|refine bifW_n (fun hc=>?_) fun hc=>?_|refine bifW_b (fun hc=>?_) fun hc=>?_)<;>first|rw[xGq hc] at hx|rw[xGr hc] at hx|rw[xGq (xG9.1 hc)] at hx)
  |(split at hx<;>first|(cases hx;done)|(refine xGy (by assumption) ?_))
  |(cases hx;rfl)
  |(cases hx;simp only[yDu,zAz,zAx,xHe])
theorem xDq {W:World}(hW:GoodW W):zAk Tryz.prog W 6 32 con32.own:=
 zA0 yOk (Laying.empty hW.size) hW.size (by decide) zAl (OwnsAll.con (xDc hW) (OwnsAll.con (xDo hW) (OwnsAll.con (yNe hW) (zAb W 6)))) Tryz.func32 (fn:=Tryz.f32) (c:=zAa Tryz.f32) (by kernel_rfl) (by kernel_rfl) (fun _ _ h=>yDt h) (fun a=>⟨rfl,(by kernel_rfl)⟩) (fun b=>rfl) xDp
theorem xDr (x:Int×Int×Int×Int×Int×Int)(y:ByteArray)(hx:Yn0.f x.1 x.2.1 x.2.2.1 x.2.2.2.1 x.2.2.2.2.1 x.2.2.2.2.2=some y):zAo Tryz.prog (cwC L35) (zAa Tryz.f35) (zAg (yOm x) 8) (zAh [] 64) (zA2 Tryz.prog Tryz.f35 fun v' _=>v'=yOn y):=by
 obtain⟨a,b,c,d,e,f⟩:=x
 refine(xDk a b c d e f _).mpr ?_
 unfold Yn0.f at hx
 try simp only[zBn,zA5,zBk]
 repeat' first
  |(obtain⟨y,hy,hx⟩:=xGs.1 hx;refine⟨y,hy,?_⟩)
  |((first|refine bifW_c (fun hc=>?_) fun hc=>?_|refine bifW_n (fun hc=>?_) fun hc=>?_|refine bifW_b (fun hc=>?_) fun hc=>?_)<;>first|rw[xGq hc] at hx|rw[xGr hc] at hx|rw[xGq (xG9.1 hc)] at hx)
  |(split at hx<;>first|(cases hx;done)|(refine xGy (by assumption) ?_))
  |(cases hx;rfl)
  |(cases hx;simp only[yOn,zAz,zAx,xHe])
theorem xDs {W:World}(hW:GoodW W):zAk Tryz.prog W 6 35 con35.own:=
 zA0 yOm (Laying.empty hW.size) hW.size (by decide) zAl (OwnsAll.con (yNe hW) (OwnsAll.con (xDf hW) (zAb W 6))) Tryz.func35 (fn:=Tryz.f35) (c:=zAa Tryz.f35) (by kernel_rfl) (by kernel_rfl) (fun _ _ h=>yDv h) (fun a=>⟨rfl,(by kernel_rfl)⟩) (fun b=>rfl) xDr
end Go.Proofs.YtfnacgojmdbjmaaGreatDoor
end

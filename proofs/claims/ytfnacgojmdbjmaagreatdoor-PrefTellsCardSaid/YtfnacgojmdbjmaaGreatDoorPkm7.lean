/- Texts of a proof, joined: words of the print (those that are named here) and printed functions. -/
import Derived.Test.YtfnacgojmdbjmaaGreatDoorPkm3
import Derived.Test.YtfnacgojmdbjmaaGreatDoorPkm6
set_option linter.unusedSimpArgs false
set_option linter.unusedVariables false
set_option maxRecDepth 100000
noncomputable section
namespace Go.Proofs.YtfnacgojmdbjmaaGreatDoor.PRD
open Go.RowKit YtfnacgojmdbjmaaGreatDoorW.PrintWords YtfnacgojmdbjmaaGreatDoorW.PrintLast YtfnacgojmdbjmaaGreatDoorW.PrintMore
open Go.Det (inQ M64 zCh qn zXk zJo zFk)
def gleberef1_Has.f (a0_0:Int)(a0_1:Int)(a0_2:Int)(a0_3:Int)(a1_0:Int)(a1_1:Int)(a1_2:Int):Option (Bool):=(gleberef1_OkPrefix.f a0_0 a0_1 a0_2 a0_3).bind fun t103=>(if t103=true then((gleberef1_Ok.f a1_0 a1_1 a1_2).bind fun t104=>(if t104=true then(if a1_0=a0_0 then((gleberef1_all.f a1_0 a0_3).bind fun bt105=>((gleberef1_And.f a1_1 a1_2 bt105.1 bt105.2).bind fun bt107=>(some (bt107.1==a0_1&&(bt107.2==a0_2))))) else(some false)) else(some false))) else(some false))
def gleberef1_Less.f (a0_0:Int)(a0_1:Int)(a1_0:Int)(a1_1:Int):Option (Bool):=if a0_0 < a1_0 then(some true) else(if a0_0=a1_0 then(some (decide (a0_1 < a1_1))) else(some false))
def pref_Has.f (a0_0:Int)(a0_1:Int)(a0_2:Int)(a0_3:Int)(a1_0:Int)(a1_1:Int)(a1_2:Int):Option (Bool):=(pref_Ok.f a0_0 a0_1 a0_2 a0_3).bind fun t162=>(if t162=true then((addr_Ok.f a1_0 a1_1 a1_2).bind fun t163=>(if t163=true then(if a1_0=a0_0 then((pref_mask.f a0_0 a0_3).bind fun bt164=>((quad_And.f a1_1 a1_2 bt164.1 bt164.2).bind fun bt166=>(some (bt166.1==a0_1&&(bt166.2==a0_2))))) else(some false)) else(some false))) else(some false))
end Go.Proofs.YtfnacgojmdbjmaaGreatDoor.PRD
namespace Go.Proofs.YtfnacgojmdbjmaaGreatDoor
open Go.Det Go.RowKit PRD YtfnacgojmdbjmaaGreatDoorW.PrintWords
def yKa:List Value→Option (Int×Int×Int×Int×Int×Int×Int)
 |[.agg ⟨[.int .i64 a,.int .u64 b,.int .u64 c,.int .i64 d]⟩,.agg ⟨[.int .i64 e,.int .u64 f,.int .u64 g]⟩]=>some (a,b,c,d,e,f,g)
 |_=>none
def yKb (x:Int×Int×Int×Int×Int×Int×Int):List Value:=[.agg #[.int .i64 x.1,.int .u64 x.2.1,.int .u64 x.2.2.1,.int .i64 x.2.2.2.1],.agg #[.int .i64 x.2.2.2.2.1,.int .u64 x.2.2.2.2.2.1,.int .u64 x.2.2.2.2.2.2]]
theorem yA5 {args:List Value}{a:Int×Int×Int×Int×Int×Int×Int}(h:yKa args=some a):args=yKb a:=by
 unfold yKa at h
 split at h
 case h_2=>cases h
 cases h;rfl
def yKc (y:Bool):Value:=.bool y
def con27:Con:=Con.opt yKa (fun x=>gleberef1_Has.f x.1 x.2.1 x.2.2.1 x.2.2.2.1 x.2.2.2.2.1 x.2.2.2.2.2.1 x.2.2.2.2.2.2) yKc
def L27:List (Nat×Con):=[(16,con16),(44,con44),(65,con65),(55,con55)]
def yKd:List Value→Option (Int×Int×Int×Int)
 |[.agg ⟨[.int .u64 a,.int .u64 b]⟩,.agg ⟨[.int .u64 c,.int .u64 d]⟩]=>some (a,b,c,d)
 |_=>none
def yKe (x:Int×Int×Int×Int):List Value:=[.agg #[.int .u64 x.1,.int .u64 x.2.1],.agg #[.int .u64 x.2.2.1,.int .u64 x.2.2.2]]
theorem yA6 {args:List Value}{a:Int×Int×Int×Int}(h:yKd args=some a):args=yKe a:=by
 unfold yKd at h
 split at h
 case h_2=>cases h
 cases h;rfl
def yKf (y:Bool):Value:=.bool y
def con38:Con:=Con.opt yKd (fun x=>gleberef1_Less.f x.1 x.2.1 x.2.2.1 x.2.2.2) yKf
def L38:List (Nat×Con):=[]
def yKg:List Value→Option (Int×Int×Int×Int×Int×Int×Int)
 |[.agg ⟨[.int .i64 a,.int .u64 b,.int .u64 c,.int .i64 d]⟩,.agg ⟨[.int .i64 e,.int .u64 f,.int .u64 g]⟩]=>some (a,b,c,d,e,f,g)
 |_=>none
def yKh (x:Int×Int×Int×Int×Int×Int×Int):List Value:=[.agg #[.int .i64 x.1,.int .u64 x.2.1,.int .u64 x.2.2.1,.int .i64 x.2.2.2.1],.agg #[.int .i64 x.2.2.2.2.1,.int .u64 x.2.2.2.2.2.1,.int .u64 x.2.2.2.2.2.2]]
theorem yA7 {args:List Value}{a:Int×Int×Int×Int×Int×Int×Int}(h:yKg args=some a):args=yKh a:=by
 unfold yKg at h
 split at h
 case h_2=>cases h
 cases h;rfl
def yKi (y:Bool):Value:=.bool y
def con26:Con:=Con.opt yKg (fun x=>pref_Has.f x.1 x.2.1 x.2.2.1 x.2.2.2.1 x.2.2.2.2.1 x.2.2.2.2.2.1 x.2.2.2.2.2.2) yKi
def L26:List (Nat×Con):=[(22,con22),(68,con68),(67,con67),(66,con66)]
theorem yXb (a b c d e f g:Int)(Q:Value→Prop):zAx Tryz.prog (cwC L27) (zAd Tryz.f27) (zAn [.agg #[.int .i64 a,.int .u64 b,.int .u64 c,.int .i64 d],.agg #[.int .i64 e,.int .u64 f,.int .u64 g]] 8) (zAo [] 64) (zA7 Tryz.prog Tryz.f27 fun v _=>Q v)=((∃ x0:Bool,((gleberef1_OkPrefix.f a b c d=Option.some x0)∧zAm (x0) ((∃ x1:Bool,((gleberef1_Ok.f e f g=Option.some x1)∧zAm (x1) (zAm (zAl (e=a)) ((∃ x2:Int×Int,((gleberef1_all.f e d=Option.some x2)∧(∃ x3:Int×Int,((gleberef1_And.f f g (Prod.fst x2) (Prod.snd x2)=Option.some x3)∧Q (Value.bool (zAl (Prod.fst x3=b)&&(zAl (Prod.snd x3=c)&&Bool.true)))))))) (Q (Value.bool Bool.false))) (Q (Value.bool Bool.false))))) (Q (Value.bool Bool.false))))):=by kernel_rfl
theorem yXc (a b c d:Int)(Q:Value→Prop):zAx Tryz.prog (cwC L38) (zAd Tryz.f38) (zAn [.agg #[.int .u64 a,.int .u64 b],.agg #[.int .u64 c,.int .u64 d]] 8) (zAo [] 64) (zA7 Tryz.prog Tryz.f38 fun v _=>Q v)=(zAm (zAl (a < c)) (Q (Value.bool Bool.true)) (zAm (zAl (a=c)) (Q (Value.bool (zAl (b < d)))) (Q (Value.bool Bool.false)))):=by kernel_rfl
theorem yXd (a b c d e f g:Int)(Q:Value→Prop):zAx Tryz.prog (cwC L26) (zAd Tryz.f26) (zAn [.agg #[.int .i64 a,.int .u64 b,.int .u64 c,.int .i64 d],.agg #[.int .i64 e,.int .u64 f,.int .u64 g]] 8) (zAo [] 64) (zA7 Tryz.prog Tryz.f26 fun v _=>Q v)=((∃ x0:Bool,((pref_Ok.f a b c d=Option.some x0)∧zAm (x0) ((∃ x1:Bool,((addr_Ok.f e f g=Option.some x1)∧zAm (x1) (zAm (zAl (e=a)) ((∃ x2:Int×Int,((pref_mask.f a d=Option.some x2)∧(∃ x3:Int×Int,((quad_And.f f g (Prod.fst x2) (Prod.snd x2)=Option.some x3)∧Q (Value.bool (zAl (Prod.fst x3=b)&&(zAl (Prod.snd x3=c)&&Bool.true)))))))) (Q (Value.bool Bool.false))) (Q (Value.bool Bool.false))))) (Q (Value.bool Bool.false))))):=by kernel_rfl
theorem w27 (x:Int×Int×Int×Int×Int×Int×Int)(y:Bool)(hx:gleberef1_Has.f x.1 x.2.1 x.2.2.1 x.2.2.2.1 x.2.2.2.2.1 x.2.2.2.2.2.1 x.2.2.2.2.2.2=some y):zAx Tryz.prog (cwC L27) (zAd Tryz.f27) (zAn (yKb x) 8) (zAo [] 64) (zA7 Tryz.prog Tryz.f27 fun v' _=>v'=yKc y):=by
 obtain⟨a,b,c,d,e,f,g⟩:=x
 refine(yXb a b c d e f g _).mpr ?_
 unfold gleberef1_Has.f at hx
 try simp only[zCc,zBb,zBs]
 repeat' first
  |(obtain⟨y,hy,hx⟩:=Option.bind_eq_some_iff.1 hx;refine⟨y,hy,?_⟩)
  |((first|refine bifW_c (fun hc=>?_) fun hc=>?_|refine bifW_n (fun hc=>?_) fun hc=>?_|refine bifW_b (fun hc=>?_) fun hc=>?_)<;>first|rw[if_pos hc] at hx|rw[if_neg hc] at hx|rw[if_pos (Decidable.not_not.1 hc)] at hx)
  |(split at hx<;>first|(cases hx;done)|(refine And.intro (by assumption) ?_))
  |(cases hx;rfl)
  |(cases hx;simp only[yKc,zA2,zA1,Bool.and_true])
theorem ySz {W:World}(hW:GoodW W):zAr Tryz.prog W 6 27 con27.own:=
 zA3 yKb (Laying.empty hW.size) hW.size (by decide) zAs (OwnsAll.con (yGk hW) (OwnsAll.con (yPm hW) (OwnsAll.con (yNs hW) (OwnsAll.con (yM1 hW) (zAh W 6))))) Tryz.func27 (fn:=Tryz.f27) (c:=zAd Tryz.f27) (by kernel_rfl) (by kernel_rfl) (fun _ _ h=>yA5 h) (fun a=>⟨rfl,(by kernel_rfl)⟩) (fun b=>rfl) w27
theorem w38 (x:Int×Int×Int×Int)(y:Bool)(hx:gleberef1_Less.f x.1 x.2.1 x.2.2.1 x.2.2.2=some y):zAx Tryz.prog (cwC L38) (zAd Tryz.f38) (zAn (yKe x) 8) (zAo [] 64) (zA7 Tryz.prog Tryz.f38 fun v' _=>v'=yKf y):=by
 obtain⟨a,b,c,d⟩:=x
 refine(yXc a b c d _).mpr ?_
 unfold gleberef1_Less.f at hx
 try simp only[zCc,zBb,zBs]
 repeat' first
  |(obtain⟨y,hy,hx⟩:=Option.bind_eq_some_iff.1 hx;refine⟨y,hy,?_⟩)
  |((first|refine bifW_c (fun hc=>?_) fun hc=>?_|refine bifW_n (fun hc=>?_) fun hc=>?_|refine bifW_b (fun hc=>?_) fun hc=>?_)<;>first|rw[if_pos hc] at hx|rw[if_neg hc] at hx|rw[if_pos (Decidable.not_not.1 hc)] at hx)
  |(split at hx<;>first|(cases hx;done)|(refine And.intro (by assumption) ?_))
  |(cases hx;rfl)
  |(cases hx;simp only[yKf,zA2,zA1,Bool.and_true])
theorem yXe {W:World}(hW:GoodW W):zAr Tryz.prog W 6 38 con38.own:=
 zA3 yKe (Laying.empty hW.size) hW.size (by decide) zAs (zAh W 6) Tryz.func38 (fn:=Tryz.f38) (c:=zAd Tryz.f38) (by kernel_rfl) (by kernel_rfl) (fun _ _ h=>yA6 h) (fun a=>⟨rfl,(by kernel_rfl)⟩) (fun b=>rfl) w38
theorem w26 (x:Int×Int×Int×Int×Int×Int×Int)(y:Bool)(hx:pref_Has.f x.1 x.2.1 x.2.2.1 x.2.2.2.1 x.2.2.2.2.1 x.2.2.2.2.2.1 x.2.2.2.2.2.2=some y):zAx Tryz.prog (cwC L26) (zAd Tryz.f26) (zAn (yKh x) 8) (zAo [] 64) (zA7 Tryz.prog Tryz.f26 fun v' _=>v'=yKi y):=by
 obtain⟨a,b,c,d,e,f,g⟩:=x
 refine(yXd a b c d e f g _).mpr ?_
 unfold pref_Has.f at hx
 try simp only[zCc,zBb,zBs]
 repeat' first
  |(obtain⟨y,hy,hx⟩:=Option.bind_eq_some_iff.1 hx;refine⟨y,hy,?_⟩)
  |((first|refine bifW_c (fun hc=>?_) fun hc=>?_|refine bifW_n (fun hc=>?_) fun hc=>?_|refine bifW_b (fun hc=>?_) fun hc=>?_)<;>first|rw[if_pos hc] at hx|rw[if_neg hc] at hx|rw[if_pos (Decidable.not_not.1 hc)] at hx)
  |(split at hx<;>first|(cases hx;done)|(refine And.intro (by assumption) ?_))
  |(cases hx;rfl)
  |(cases hx;simp only[yKi,zA2,zA1,Bool.and_true])
theorem yS0 {W:World}(hW:GoodW W):zAr Tryz.prog W 6 26 con26.own:=
 zA3 yKh (Laying.empty hW.size) hW.size (by decide) zAs (OwnsAll.con (yGl hW) (OwnsAll.con (yQp hW) (OwnsAll.con (yNu hW) (OwnsAll.con (yNt hW) (zAh W 6))))) Tryz.func26 (fn:=Tryz.f26) (c:=zAd Tryz.f26) (by kernel_rfl) (by kernel_rfl) (fun _ _ h=>yA7 h) (fun a=>⟨rfl,(by kernel_rfl)⟩) (fun b=>rfl) w26
end Go.Proofs.YtfnacgojmdbjmaaGreatDoor
namespace Go.Proofs.YtfnacgojmdbjmaaGreatDoor.PRD
open Go.Det Go.RowKit Go.Proofs.YtfnacgojmdbjmaaGreatDoor YtfnacgojmdbjmaaGreatDoorW.PrintWords
end Go.Proofs.YtfnacgojmdbjmaaGreatDoor.PRD
section
end
namespace Go.Proofs.YtfnacgojmdbjmaaGreatDoor
open Go.Det Go.RowKit YtfnacgojmdbjmaaGreatDoorW.PrintWords
abbrev con59:Con:=conD60
theorem yXf {W:World}(hW:GoodW W):zAr Tryz.prog W 6 59 con59.own:=yN0 hW
abbrev con84:Con:=conD51
theorem yXg {W:World}(hW:GoodW W):zAr Tryz.prog W 6 84 con84.own:=yQu hW
abbrev con85:Con:=conD52
theorem yXh {W:World}(hW:GoodW W):zAr Tryz.prog W 6 85 con85.own:=yQ5 hW
abbrev con70:Con:=conD26
theorem yXi {W:World}(hW:GoodW W):zAr Tryz.prog W 6 70 con70.own:=yQ9 hW
def con86:Con:=Con.opt zXq (fun s=>PPH.addr_four.f 1000 s) zVh
theorem yXj {W:World}(hW:GoodW W):zAr Tryz.prog W 6 86 con86.own:=by
 refine zA5 (fn:=Tryz.f86) (c:=zAd Tryz.f86) hW Tryz.func86 (by kernel_rfl) (by kernel_rfl) fun args v h=>?_
 split at h
 case h_2=>cases h
 rename_i a ha
 split at h
 case h_2=>cases h
 rename_i b hb
 cases h
 obtain rfl:=zF6 ha
 exact⟨rfl,rfl,fun w hG=>(PPH.addr_four.calls 1000 a b.1 b.2 w hG hb).mono fun e w' h=>⟨h.1,h.2⟩⟩
end Go.Proofs.YtfnacgojmdbjmaaGreatDoor
namespace Go.Proofs.YtfnacgojmdbjmaaGreatDoor.PRD
open Go.RowKit YtfnacgojmdbjmaaGreatDoorW.PrintWords YtfnacgojmdbjmaaGreatDoorW.PrintLast YtfnacgojmdbjmaaGreatDoorW.PrintMore
open Go.Det (inQ M64 zCh qn zXk zJo zFk)
def strings_Cut.f (a0:ByteArray)(a1:ByteArray):Option (ByteArray×ByteArray×Bool):=zC2 a0 a1
def addr_six.f (a0:ByteArray):Option (Int×Int×Int×Bool):=zT5 a0
def addr_Print.f (a0_0:Int)(a0_1:Int)(a0_2:Int):Option (ByteArray):=prF a0_0 a0_1 a0_2
def addr_Parse.f (a0:ByteArray):Option (Int×Int×Int×Bool):=(PPH.strings_Contains.f a0 { data:=#[58] }).bind fun t1=>(if t1=true then((addr_six.f a0).bind fun t2=>(some (t2.1,t2.2.1,t2.2.2.1,t2.2.2.2))) else((PPH.addr_four.f 1000 a0).bind fun t3=>(if t3.2=true then(some (4,0,t3.1,true)) else(some (0,0,0,false)))))
end Go.Proofs.YtfnacgojmdbjmaaGreatDoor.PRD
namespace Go.Proofs.YtfnacgojmdbjmaaGreatDoor
open Go.Det Go.RowKit PRD YtfnacgojmdbjmaaGreatDoorW.PrintWords
def yXk:List Value→Option (Int×Int×Int)
 |[.agg ⟨[.int .i64 a,.int .u64 b,.int .u64 c]⟩]=>some (a,b,c)
 |_=>none
def yKj:List Value→Option (ByteArray)
 |[.string a]=>some (a)
 |_=>none
def yKk (x:ByteArray):List Value:=[.string x]
theorem yA8 {args:List Value}{a:ByteArray}(h:yKj args=some a):args=yKk a:=by
 unfold yKj at h
 split at h
 case h_2=>cases h
 cases h;rfl
def yKl (y:Int×Int×Int×Bool):Value:=.tuple #[.agg #[.int .i64 y.1,.int .u64 y.2.1,.int .u64 y.2.2.1],.bool y.2.2.2]
def con60:Con:=Con.opt yKj (fun x=>addr_Parse.f x) yKl
def L60:List (Nat×Con):=[(84,con84),(85,con85),(86,con86)]
theorem yXl (a:ByteArray)(Q:Value→Prop):zAx Tryz.prog (cwC L60) (zAd Tryz.f60) (zAn [.string a] 8) (zAo [] 64) (zA7 Tryz.prog Tryz.f60 fun v _=>Q v)=((∃ x0:Bool,((ySv a { data:=#[58] }=some x0)∧zAm (x0) ((∃ x1:Int×Int×Int×Bool,((zT5 a=some x1)∧Q (Value.tuple #[Value.agg #[Value.int .i64 (x1.1),Value.int .u64 (Prod.fst (x1.2)),Value.int .u64 (Prod.fst (Prod.snd (x1.2)))],Value.bool (Prod.snd (Prod.snd (x1.2)))])))) ((∃ x1:Int×Bool,((PPH.addr_four.f 1000 a=some x1)∧zAm (!x1.2) (Q (Value.tuple #[Value.agg #[Value.int .i64 0,Value.int .u64 0,Value.int .u64 0],Value.bool false])) (Q (Value.tuple #[Value.agg #[Value.int .i64 4,Value.int .u64 0,Value.int .u64 (x1.1)],Value.bool true])))))))):=by kernel_rfl
theorem yXm (x:ByteArray)(y:Int×Int×Int×Bool)(hx:addr_Parse.f x=some y):zAx Tryz.prog (cwC L60) (zAd Tryz.f60) (zAn (yKk x) 8) (zAo [] 64) (zA7 Tryz.prog Tryz.f60 fun v' _=>v'=yKl y):=by
 refine(yXl x _).mpr ?_
 unfold addr_Parse.f at hx
 try simp only[zCc,zBb,zBs]
 repeat' first
  |(obtain⟨y,hy,hx⟩:=Option.bind_eq_some_iff.1 hx;refine⟨y,hy,?_⟩)
  |((first|refine bifW_c (fun hc=>?_) fun hc=>?_|refine bifW_n (fun hc=>?_) fun hc=>?_|refine bifW_b (fun hc=>?_) fun hc=>?_)<;>first|rw[if_pos hc] at hx|rw[if_neg hc] at hx|rw[if_pos (Decidable.not_not.1 hc)] at hx)
  |(split at hx<;>first|(cases hx;done)|(refine And.intro (by assumption) ?_))
  |(cases hx;rfl)
  |(cases hx;simp only[yKl,zA2,zA1,Bool.and_true])
theorem yXn {W:World}(hW:GoodW W):zAr Tryz.prog W 6 60 con60.own:=
 zA3 yKk (Laying.empty hW.size) hW.size (by decide) zAs (OwnsAll.con (yXg hW) (OwnsAll.con (yXh hW) (OwnsAll.con (yXj hW) (zAh W 6)))) Tryz.func60 (fn:=Tryz.f60) (c:=zAd Tryz.f60) (by kernel_rfl) (by kernel_rfl) (fun _ _ h=>yA8 h) (fun a=>⟨rfl,(by kernel_rfl)⟩) (fun b=>rfl) yXm
end Go.Proofs.YtfnacgojmdbjmaaGreatDoor
namespace Go.Proofs.YtfnacgojmdbjmaaGreatDoor.PRD
open Go.Det Go.RowKit Go.Proofs.YtfnacgojmdbjmaaGreatDoor YtfnacgojmdbjmaaGreatDoorW.PrintWords
end Go.Proofs.YtfnacgojmdbjmaaGreatDoor.PRD
section
end
end

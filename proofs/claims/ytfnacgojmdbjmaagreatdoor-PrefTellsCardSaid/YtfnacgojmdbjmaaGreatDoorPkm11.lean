/- Texts of a proof, joined: words of the print (those that are named here) and printed functions. -/
import Derived.Test.YtfnacgojmdbjmaaGreatDoorPkm10
import Derived.Test.YtfnacgojmdbjmaaGreatDoorPkm4
import Derived.Test.YtfnacgojmdbjmaaGreatDoorPkm7
set_option linter.unusedSimpArgs false
set_option linter.unusedVariables false
set_option maxRecDepth 100000
noncomputable section
namespace Go.Proofs.YtfnacgojmdbjmaaGreatDoor
open Go.Det Go.RowKit PRD YtfnacgojmdbjmaaGreatDoorW.PrintWords
theorem yRt (x:Int×Int×Int×Int)(y:Int×Int×Int)(hx:pref_First.f x.1 x.2.1 x.2.2.1 x.2.2.2=some y):zAx Tryz.prog (cwC L23) (zAd Tryz.f23) (zAn (yLd x) 8) (zAo [] 64) (zA7 Tryz.prog Tryz.f23 fun v' _=>v'=yLe y):=by
 obtain⟨a,b,c,d⟩:=x
 refine(yRi a b c d _).mpr ?_
 unfold pref_First.f at hx
 try simp only[zCc,zBb,zBs]
 repeat' first
  |(obtain⟨y,hy,hx⟩:=Option.bind_eq_some_iff.1 hx;refine⟨y,hy,?_⟩)
  |((first|refine bifW_c (fun hc=>?_) fun hc=>?_|refine bifW_n (fun hc=>?_) fun hc=>?_|refine bifW_b (fun hc=>?_) fun hc=>?_)<;>first|rw[if_pos hc] at hx|rw[if_neg hc] at hx|rw[if_pos (Decidable.not_not.1 hc)] at hx)
  |(split at hx<;>first|(cases hx;done)|(refine And.intro (by assumption) ?_))
  |(cases hx;rfl)
  |(cases hx;simp only[yLe,zA2,zA1,Bool.and_true])
theorem yS5 {W:World}(hW:GoodW W):zAr Tryz.prog W 6 23 con23.own:=
 zA3 yLd (Laying.empty hW.size) hW.size (by decide) zAs (OwnsAll.con (yGl hW) (zAh W 6)) Tryz.func23 (fn:=Tryz.f23) (c:=zAd Tryz.f23) (by kernel_rfl) (by kernel_rfl) (fun _ _ h=>yBt h) (fun a=>⟨rfl,(by kernel_rfl)⟩) (fun b=>rfl) yRt
theorem yRu (x:Int×Int×Int×Int×Int×Int×Int×Int)(y:Bool)(hx:pref_Over.f x.1 x.2.1 x.2.2.1 x.2.2.2.1 x.2.2.2.2.1 x.2.2.2.2.2.1 x.2.2.2.2.2.2.1 x.2.2.2.2.2.2.2=some y):zAx Tryz.prog (cwC L28) (zAd Tryz.f28) (zAn (yLg x) 8) (zAo [] 64) (zA7 Tryz.prog Tryz.f28 fun v' _=>v'=yLh y):=by
 obtain⟨a,b,c,d,e,f,g,h⟩:=x
 refine(yRj a b c d e f g h _).mpr ?_
 unfold pref_Over.f at hx
 try simp only[zCc,zBb,zBs]
 repeat' first
  |(obtain⟨y,hy,hx⟩:=Option.bind_eq_some_iff.1 hx;refine⟨y,hy,?_⟩)
  |((first|refine bifW_c (fun hc=>?_) fun hc=>?_|refine bifW_n (fun hc=>?_) fun hc=>?_|refine bifW_b (fun hc=>?_) fun hc=>?_)<;>first|rw[if_pos hc] at hx|rw[if_neg hc] at hx|rw[if_pos (Decidable.not_not.1 hc)] at hx)
  |(split at hx<;>first|(cases hx;done)|(refine And.intro (by assumption) ?_))
  |(cases hx;rfl)
  |(cases hx;simp only[yLh,zA2,zA1,Bool.and_true])
theorem yXt {W:World}(hW:GoodW W):zAr Tryz.prog W 6 28 con28.own:=
 zA3 yLg (Laying.empty hW.size) hW.size (by decide) zAs (OwnsAll.con (yS5 hW) (OwnsAll.con (yS0 hW) (zAh W 6))) Tryz.func28 (fn:=Tryz.f28) (c:=zAd Tryz.f28) (by kernel_rfl) (by kernel_rfl) (fun _ _ h=>yBu h) (fun a=>⟨rfl,(by kernel_rfl)⟩) (fun b=>rfl) yRu
theorem yRv (x:Int×Int×Int×Int×Int×Int×Int×Int)(y:Bool)(hx:pref_Less.f x.1 x.2.1 x.2.2.1 x.2.2.2.1 x.2.2.2.2.1 x.2.2.2.2.2.1 x.2.2.2.2.2.2.1 x.2.2.2.2.2.2.2=some y):zAx Tryz.prog (cwC L30) (zAd Tryz.f30) (zAn (yLj x) 8) (zAo [] 64) (zA7 Tryz.prog Tryz.f30 fun v' _=>v'=yLk y):=by
 obtain⟨a,b,c,d,e,f,g,h⟩:=x
 refine(yRk a b c d e f g h _).mpr ?_
 unfold pref_Less.f at hx
 simp only[zA1] at hx
 simp only[Bool.and_true]
 try simp only[zCc,zBb,zBs]
 repeat' first
  |(obtain⟨y,hy,hx⟩:=Option.bind_eq_some_iff.1 hx;refine⟨y,hy,?_⟩)
  |((first|refine bifW_c (fun hc=>?_) fun hc=>?_|refine bifW_n (fun hc=>?_) fun hc=>?_|refine bifW_b (fun hc=>?_) fun hc=>?_)<;>first|rw[if_pos hc] at hx|rw[if_neg hc] at hx|rw[if_pos (Decidable.not_not.1 hc)] at hx)
  |(split at hx<;>first|(cases hx;done)|(refine And.intro (by assumption) ?_))
  |(cases hx;rfl)
  |(cases hx;simp only[yLk,zA2,zA1,Bool.and_true])
theorem yXu {W:World}(hW:GoodW W):zAr Tryz.prog W 6 30 con30.own:=
 zA3 yLj (Laying.empty hW.size) hW.size (by decide) zAs (OwnsAll.con (yGl hW) (OwnsAll.con (yUj hW) (zAh W 6))) Tryz.func30 (fn:=Tryz.f30) (c:=zAd Tryz.f30) (by kernel_rfl) (by kernel_rfl) (fun _ _ h=>yBv h) (fun a=>⟨rfl,(by kernel_rfl)⟩) (fun b=>rfl) yRv
theorem yRw (x:Int×Int×Int×Int)(y:Int×Int×Int×Bool)(hx:pref_Netmask.f x.1 x.2.1 x.2.2.1 x.2.2.2=some y):zAx Tryz.prog (cwC L17) (zAd Tryz.f17) (zAn (yLm x) 8) (zAo [] 64) (zA7 Tryz.prog Tryz.f17 fun v' _=>v'=yLn y):=by
 obtain⟨a,b,c,d⟩:=x
 refine(yRl a b c d _).mpr ?_
 unfold pref_Netmask.f at hx
 try simp only[zCc,zBb,zBs]
 repeat' first
  |(obtain⟨y,hy,hx⟩:=Option.bind_eq_some_iff.1 hx;refine⟨y,hy,?_⟩)
  |((first|refine bifW_c (fun hc=>?_) fun hc=>?_|refine bifW_n (fun hc=>?_) fun hc=>?_|refine bifW_b (fun hc=>?_) fun hc=>?_)<;>first|rw[if_pos hc] at hx|rw[if_neg hc] at hx|rw[if_pos (Decidable.not_not.1 hc)] at hx)
  |(split at hx<;>first|(cases hx;done)|(refine And.intro (by assumption) ?_))
  |(cases hx;rfl)
  |(cases hx;simp only[yLn,zA2,zA1,Bool.and_true])
theorem yS6 {W:World}(hW:GoodW W):zAr Tryz.prog W 6 17 con17.own:=
 zA3 yLm (Laying.empty hW.size) hW.size (by decide) zAs (OwnsAll.con (yGl hW) (OwnsAll.con (yNu hW) (OwnsAll.con (yNt hW) (zAh W 6)))) Tryz.func17 (fn:=Tryz.f17) (c:=zAd Tryz.f17) (by kernel_rfl) (by kernel_rfl) (fun _ _ h=>yBw h) (fun a=>⟨rfl,(by kernel_rfl)⟩) (fun b=>rfl) yRw
theorem yRx (x:ByteArray)(y:Int×Int×Int×Int×Bool)(hx:pref_Parse.f x=some y):zAx Tryz.prog (cwC L14) (zAd Tryz.f14) (zAn (yLp x) 8) (zAo [] 64) (zA7 Tryz.prog Tryz.f14 fun v' _=>v'=zP8 y):=by
 refine(yRm x _).mpr ?_
 unfold pref_Parse.f at hx
 try simp only[zCc,zBb,zBs]
 repeat' first
  |(obtain⟨y,hy,hx⟩:=Option.bind_eq_some_iff.1 hx;refine⟨y,hy,?_⟩)
  |((first|refine bifW_c (fun hc=>?_) fun hc=>?_|refine bifW_n (fun hc=>?_) fun hc=>?_|refine bifW_b (fun hc=>?_) fun hc=>?_)<;>first|rw[if_pos hc] at hx|rw[if_neg hc] at hx|rw[if_pos (Decidable.not_not.1 hc)] at hx)
  |(split at hx<;>first|(cases hx;done)|(refine And.intro (by assumption) ?_))
  |(cases hx;rfl)
  |(cases hx;simp only[zP8,zA2,zA1,Bool.and_true])
theorem yXv {W:World}(hW:GoodW W):zAr Tryz.prog W 6 14 con14.own:=
 zA3 yLp (Laying.empty hW.size) hW.size (by decide) zAs (OwnsAll.con (yXf hW) (OwnsAll.con (yXn hW) (OwnsAll.con (yXo hW) (OwnsAll.con (yGl hW) (zAh W 6))))) Tryz.func14 (fn:=Tryz.f14) (c:=zAd Tryz.f14) (by kernel_rfl) (by kernel_rfl) (fun _ _ h=>yBx h) (fun a=>⟨rfl,(by kernel_rfl)⟩) (fun b=>rfl) yRx
theorem yRy (x:Int×Int×Int×Int)(y:ByteArray)(hx:pref_Print.f x.1 x.2.1 x.2.2.1 x.2.2.2=some y):zAx Tryz.prog (cwC L21) (zAd Tryz.f21) (zAn (yLr x) 8) (zAo [] 64) (zA7 Tryz.prog Tryz.f21 fun v' _=>v'=yLs y):=by
 obtain⟨a,b,c,d⟩:=x
 refine(yRn a b c d _).mpr ?_
 unfold pref_Print.f at hx
 try simp only[zCc,zBb,zBs]
 repeat' first
  |(obtain⟨y,hy,hx⟩:=Option.bind_eq_some_iff.1 hx;refine⟨y,hy,?_⟩)
  |((first|refine bifW_c (fun hc=>?_) fun hc=>?_|refine bifW_n (fun hc=>?_) fun hc=>?_|refine bifW_b (fun hc=>?_) fun hc=>?_)<;>first|rw[if_pos hc] at hx|rw[if_neg hc] at hx|rw[if_pos (Decidable.not_not.1 hc)] at hx)
  |(split at hx<;>first|(cases hx;done)|(refine And.intro (by assumption) ?_))
  |(cases hx;rfl)
  |(cases hx;simp only[yLs,zA2,zA1,Bool.and_true])
theorem yXw {W:World}(hW:GoodW W):zAr Tryz.prog W 6 21 con21.own:=
 zA3 yLr (Laying.empty hW.size) hW.size (by decide) zAs (OwnsAll.con (yGl hW) (OwnsAll.con (yXi hW) (OwnsAll.con (yXs hW) (zAh W 6)))) Tryz.func21 (fn:=Tryz.f21) (c:=zAd Tryz.f21) (by kernel_rfl) (by kernel_rfl) (fun _ _ h=>yBy h) (fun a=>⟨rfl,(by kernel_rfl)⟩) (fun b=>rfl) yRy
theorem yRz (x:Int×Int×Int×Int×Int×Int)(y:Bool)(hx:gleberef1_LessAddr.f x.1 x.2.1 x.2.2.1 x.2.2.2.1 x.2.2.2.2.1 x.2.2.2.2.2=some y):zAx Tryz.prog (cwC L76) (zAd Tryz.f76) (zAn (yLu x) 8) (zAo [] 64) (zA7 Tryz.prog Tryz.f76 fun v' _=>v'=yLv y):=by
 obtain⟨a,b,c,d,e,f⟩:=x
 refine(yRo a b c d e f _).mpr ?_
 unfold gleberef1_LessAddr.f at hx
 try simp only[zCc,zBb,zBs]
 repeat' first
  |(obtain⟨y,hy,hx⟩:=Option.bind_eq_some_iff.1 hx;refine⟨y,hy,?_⟩)
  |((first|refine bifW_c (fun hc=>?_) fun hc=>?_|refine bifW_n (fun hc=>?_) fun hc=>?_|refine bifW_b (fun hc=>?_) fun hc=>?_)<;>first|rw[if_pos hc] at hx|rw[if_neg hc] at hx|rw[if_pos (Decidable.not_not.1 hc)] at hx)
  |(split at hx<;>first|(cases hx;done)|(refine And.intro (by assumption) ?_))
  |(cases hx;rfl)
  |(cases hx;simp only[yLv,zA2,zA1,Bool.and_true])
theorem yXx {W:World}(hW:GoodW W):zAr Tryz.prog W 6 76 con76.own:=
 zA3 yLu (Laying.empty hW.size) hW.size (by decide) zAs (OwnsAll.con (yXe hW) (zAh W 6)) Tryz.func76 (fn:=Tryz.f76) (c:=zAd Tryz.f76) (by kernel_rfl) (by kernel_rfl) (fun _ _ h=>yBz h) (fun a=>⟨rfl,(by kernel_rfl)⟩) (fun b=>rfl) yRz
theorem yR0 (x:Int×Int×Int×Int×Int×Int×Int×Int)(y:Bool)(hx:gleberef1_LessPrefix.f x.1 x.2.1 x.2.2.1 x.2.2.2.1 x.2.2.2.2.1 x.2.2.2.2.2.1 x.2.2.2.2.2.2.1 x.2.2.2.2.2.2.2=some y):zAx Tryz.prog (cwC L31) (zAd Tryz.f31) (zAn (yLx x) 8) (zAo [] 64) (zA7 Tryz.prog Tryz.f31 fun v' _=>v'=yLy y):=by
 obtain⟨a,b,c,d,e,f,g,h⟩:=x
 refine(yRp a b c d e f g h _).mpr ?_
 unfold gleberef1_LessPrefix.f at hx
 simp only[zA1] at hx
 simp only[Bool.and_true]
 try simp only[zCc,zBb,zBs]
 repeat' first
  |(obtain⟨y,hy,hx⟩:=Option.bind_eq_some_iff.1 hx;refine⟨y,hy,?_⟩)
  |((first|refine bifW_c (fun hc=>?_) fun hc=>?_|refine bifW_n (fun hc=>?_) fun hc=>?_|refine bifW_b (fun hc=>?_) fun hc=>?_)<;>first|rw[if_pos hc] at hx|rw[if_neg hc] at hx|rw[if_pos (Decidable.not_not.1 hc)] at hx)
  |(split at hx<;>first|(cases hx;done)|(refine And.intro (by assumption) ?_))
  |(cases hx;rfl)
  |(cases hx;simp only[yLy,zA2,zA1,Bool.and_true])
theorem yXy {W:World}(hW:GoodW W):zAr Tryz.prog W 6 31 con31.own:=
 zA3 yLx (Laying.empty hW.size) hW.size (by decide) zAs (OwnsAll.con (yGk hW) (OwnsAll.con (yXx hW) (zAh W 6))) Tryz.func31 (fn:=Tryz.f31) (c:=zAd Tryz.f31) (by kernel_rfl) (by kernel_rfl) (fun _ _ h=>yB0 h) (fun a=>⟨rfl,(by kernel_rfl)⟩) (fun b=>rfl) yR0
theorem yR1 (x:Int×Int×Int×Int×Int×Int×Int×Int)(y:Bool)(hx:gleberef1_Over.f x.1 x.2.1 x.2.2.1 x.2.2.2.1 x.2.2.2.2.1 x.2.2.2.2.2.1 x.2.2.2.2.2.2.1 x.2.2.2.2.2.2.2=some y):zAx Tryz.prog (cwC L29) (zAd Tryz.f29) (zAn (yL0 x) 8) (zAo [] 64) (zA7 Tryz.prog Tryz.f29 fun v' _=>v'=yL1 y):=by
 obtain⟨a,b,c,d,e,f,g,h⟩:=x
 refine(yRq a b c d e f g h _).mpr ?_
 unfold gleberef1_Over.f at hx
 try simp only[zCc,zBb,zBs]
 repeat' first
  |(obtain⟨y,hy,hx⟩:=Option.bind_eq_some_iff.1 hx;refine⟨y,hy,?_⟩)
  |((first|refine bifW_c (fun hc=>?_) fun hc=>?_|refine bifW_n (fun hc=>?_) fun hc=>?_|refine bifW_b (fun hc=>?_) fun hc=>?_)<;>first|rw[if_pos hc] at hx|rw[if_neg hc] at hx|rw[if_pos (Decidable.not_not.1 hc)] at hx)
  |(split at hx<;>first|(cases hx;done)|(refine And.intro (by assumption) ?_))
  |(cases hx;rfl)
  |(cases hx;simp only[yL1,zA2,zA1,Bool.and_true])
theorem yXz {W:World}(hW:GoodW W):zAr Tryz.prog W 6 29 con29.own:=
 zA3 yL0 (Laying.empty hW.size) hW.size (by decide) zAs (OwnsAll.con (yGk hW) (OwnsAll.con (ySz hW) (zAh W 6))) Tryz.func29 (fn:=Tryz.f29) (c:=zAd Tryz.f29) (by kernel_rfl) (by kernel_rfl) (fun _ _ h=>yB1 h) (fun a=>⟨rfl,(by kernel_rfl)⟩) (fun b=>rfl) yR1
theorem yR2 (x:Int×Int×Int×Int)(y:Int×Int×Int×Bool)(hx:gleberef1_Netmask.f x.1 x.2.1 x.2.2.1 x.2.2.2=some y):zAx Tryz.prog (cwC L18) (zAd Tryz.f18) (zAn (yL3 x) 8) (zAo [] 64) (zA7 Tryz.prog Tryz.f18 fun v' _=>v'=yL4 y):=by
 obtain⟨a,b,c,d⟩:=x
 refine(yRr a b c d _).mpr ?_
 unfold gleberef1_Netmask.f at hx
 try simp only[zCc,zBb,zBs]
 repeat' first
  |(obtain⟨y,hy,hx⟩:=Option.bind_eq_some_iff.1 hx;refine⟨y,hy,?_⟩)
  |((first|refine bifW_c (fun hc=>?_) fun hc=>?_|refine bifW_n (fun hc=>?_) fun hc=>?_|refine bifW_b (fun hc=>?_) fun hc=>?_)<;>first|rw[if_pos hc] at hx|rw[if_neg hc] at hx|rw[if_pos (Decidable.not_not.1 hc)] at hx)
  |(split at hx<;>first|(cases hx;done)|(refine And.intro (by assumption) ?_))
  |(cases hx;rfl)
  |(cases hx;simp only[yL4,zA2,zA1,Bool.and_true])
theorem yS7 {W:World}(hW:GoodW W):zAr Tryz.prog W 6 18 con18.own:=
 zA3 yL3 (Laying.empty hW.size) hW.size (by decide) zAs (OwnsAll.con (yGk hW) (OwnsAll.con (yNs hW) (zAh W 6))) Tryz.func18 (fn:=Tryz.f18) (c:=zAd Tryz.f18) (by kernel_rfl) (by kernel_rfl) (fun _ _ h=>yB2 h) (fun a=>⟨rfl,(by kernel_rfl)⟩) (fun b=>rfl) yR2
theorem yR3 (x:Int×Int×Int×Int)(y:ByteArray)(hx:gleberef1_PrintPrefix.f x.1 x.2.1 x.2.2.1 x.2.2.2=some y):zAx Tryz.prog (cwC L11) (zAd Tryz.f11) (zAn (yL6 x) 8) (zAo [] 64) (zA7 Tryz.prog Tryz.f11 fun v' _=>v'=yL7 y):=by
 obtain⟨a,b,c,d⟩:=x
 refine(yRs a b c d _).mpr ?_
 unfold gleberef1_PrintPrefix.f at hx
 try simp only[zCc,zBb,zBs]
 repeat' first
  |(obtain⟨y,hy,hx⟩:=Option.bind_eq_some_iff.1 hx;refine⟨y,hy,?_⟩)
  |((first|refine bifW_c (fun hc=>?_) fun hc=>?_|refine bifW_n (fun hc=>?_) fun hc=>?_|refine bifW_b (fun hc=>?_) fun hc=>?_)<;>first|rw[if_pos hc] at hx|rw[if_neg hc] at hx|rw[if_pos (Decidable.not_not.1 hc)] at hx)
  |(split at hx<;>first|(cases hx;done)|(refine And.intro (by assumption) ?_))
  |(cases hx;rfl)
  |(cases hx;simp only[yL7,zA2,zA1,Bool.and_true])
theorem yX0 {W:World}(hW:GoodW W):zAr Tryz.prog W 6 11 con11.own:=
 zA3 yL6 (Laying.empty hW.size) hW.size (by decide) zAs (OwnsAll.con (yGk hW) (OwnsAll.con (yXp hW) (OwnsAll.con (yS4 hW) (zAh W 6)))) Tryz.func11 (fn:=Tryz.f11) (c:=zAd Tryz.f11) (by kernel_rfl) (by kernel_rfl) (fun _ _ h=>yB3 h) (fun a=>⟨rfl,(by kernel_rfl)⟩) (fun b=>rfl) yR3
end Go.Proofs.YtfnacgojmdbjmaaGreatDoor
namespace Go.Proofs.YtfnacgojmdbjmaaGreatDoor.PRD
open Go.Det Go.RowKit Go.Proofs.YtfnacgojmdbjmaaGreatDoor YtfnacgojmdbjmaaGreatDoorW.PrintWords
end Go.Proofs.YtfnacgojmdbjmaaGreatDoor.PRD
namespace Go.Proofs.YtfnacgojmdbjmaaGreatDoor
open Go.Det Go.RowKit PRD YtfnacgojmdbjmaaGreatDoorW.PrintWords
abbrev P5:Type:=Int×Int×Int×Int×Bool
def yFh:Nat→Int→Int→Int→Int→Int→Int→Option P5
 |0,_,_,_,_,_,_=>none
 |k+1,n,a1,a2,m0,m1,m2=>(addr_Bits.f 4).bind fun t=>if n≤t then(pref_mask.f 4 n).bind fun M=>(quad_And.f a1 a2 M.1 M.2).bind fun c=>(pref_Netmask.f 4 c.1 c.2 n).bind fun x=>
   if x.2.2.2=true then(if(x.1=m0∧x.2.1=m1∧x.2.2.1=m2) then some (4,c.1,c.2,n,true) else yFh k (wrap64 (n+1)) a1 a2 m0 m1 m2) else yFh k (wrap64 (n+1)) a1 a2 m0 m1 m2
  else some (0,0,0,0,false)
def yFi (a0 a1 a2 m0 m1 m2:Int):Option P5:=(addr_Ok.f a0 a1 a2).bind fun o=>if o=true then(if a0=4 then yFh 40 0 a1 a2 m0 m1 m2 else some (0,0,0,0,false)) else some (0,0,0,0,false)
def zUd:Nat→Int→Int→Int→Int→Int→Int→Int→Option P5
 |0,_,_,_,_,_,_,_=>none
 |k+1,n,a0,a1,a2,m0,m1,m2=>if n≤32 then(gleberef1_all.f 4 n).bind fun M=>(gleberef1_And.f a1 a2 M.1 M.2).bind fun c=>(gleberef1_Netmask.f 4 c.1 c.2 n).bind fun x=>(gleberef1_Ok.f a0 a1 a2).bind fun o=>
   if o=true then(if a0=4 then(if x.2.2.2=true then(if(x.1=m0∧x.2.1=m1∧x.2.2.1=m2) then some (4,c.1,c.2,n,true) else zUd k (wrap64 (n+1)) a0 a1 a2 m0 m1 m2) else zUd k (wrap64 (n+1)) a0 a1 a2 m0 m1 m2) else zUd k (wrap64 (n+1)) a0 a1 a2 m0 m1 m2) else zUd k (wrap64 (n+1)) a0 a1 a2 m0 m1 m2
  else some (0,0,0,0,false)
def yFj (a0 a1 a2 m0 m1 m2:Int):Option P5:=zUd 40 0 a0 a1 a2 m0 m1 m2
structure OfV where
 a0:Int
 a1:Int
 a2:Int
 m0:Int
 m1:Int
 m2:Int
 n:Int
def yB4 (v:OfV):zTz:=[(2,.pointer (some ⟨64,0,none⟩)),(3,.pointer (some ⟨65,0,none⟩)),(4,.pointer (some ⟨66,0,none⟩)),(6,.int .i64 v.n)]
def yS8 (v:OfV):List Value:=[.int .i64 v.a0,.int .u64 v.a1,.int .u64 v.a2]
def yS9 (v:OfV):List Value:=[.int .i64 v.m0,.int .u64 v.m1,.int .u64 v.m2]
def yC7 (v:OfV):yGn:=[(64,yS8 v,57,false),(65,yS9 v,57,false),(66,yS1,61,false)]
def zIa (v:OfV)(l:zAz)(s:St):Prop:=zR6 l (yB4 v)∧yGp s 64 (yS8 v) 57 false∧yGp s 65 (yS9 v) 57 false∧yGp s 66 yS1 61 false
theorem zE5 {v:OfV}{l:zAz}{s:St}(h:zIa v l s):zJ4 l s (zF5 (yB4 v)) (zQg (yC7 v) 67):=by
 obtain⟨h1,h2,h3,h4⟩:=h
 refine zSa (by decide) (fun x hx=>?_) (fun x hx=>?_) h1 ⟨zHq h2,zHq h3,zHq h4,trivial⟩
 ·simp only[yB4,List.mem_cons,List.not_mem_nil,or_false] at hx
  rcases hx with rfl|rfl|rfl|rfl<;>rfl
 ·simp only[yC7,List.mem_cons,List.not_mem_nil,or_false] at hx
  rcases hx with rfl|rfl|rfl
  ·exact⟨show(64:Nat)≤64∧64 < 67 by decide,rfl⟩
  ·exact⟨show(64:Nat)≤65∧65 < 67 by decide,rfl⟩
  ·exact⟨show(64:Nat)≤66∧66 < 67 by decide,rfl⟩
def L19:List (Nat×Con):=[(68,con68),(69,con69),(67,con67),(66,con66),(17,con17)]
def zSm:Code:=match zCd (zAd Tryz.f19) with|a::_=>a|[]=>.skip
def yB5 (v v1:OfV):Prop:=zEl Tryz.prog (cwC L19) oxN lxM zSm (zF5 (yB4 v)) (zQg (yC7 v) 67) (zHs (fun l s=>zIa v1 l s) (fun _ _ _=>False))
def yTa:LpX:=fun l s K=>∃ v:OfV,zIa v l s∧∃ v':OfV,Star yB5 v v'∧zEl Tryz.prog (cwC L19) oxN lxM zSm (zF5 (yB4 v')) (zQg (yC7 v') 67) (zHs (fun _ _=>False) K)
def yR4 (n:Nat):Option LpX:=match Nat.beq n 4 with|true=>some yTa|false=>none
theorem yL8:yGm Tryz.prog (cwC L19) yR4 (zCd (zAd Tryz.f19)):=by
 have e:zCd (zAd Tryz.f19)=[zSm]:=by kernel_rfl
 rw[e]
 intro a ha X hX l s K h
 obtain rfl:=List.mem_singleton.1 ha
 have e2:yR4 (zMk zSm)=some yTa:=by kernel_rfl
 rw[e2] at hX
 cases hX
 obtain⟨v,hv,v',hs,he⟩:=h
 have hm:=zA0 L19
 refine zMm hm (fun v=>zF5 (yB4 v)) (fun v=>zQg (yC7 v) 67) (fun v v1 hstep=>?_) hs (zE5 hv) (zBc hm zOh _ (zOi _) he)
 exact zBl hm _ (zC9 (fun l s q=>zE5 q) fun _ _ _ q=>q) (zBc hm zOh _ (zOi _) hstep)
def L20:List (Nat×Con):=[(65,con65),(55,con55),(18,con18),(44,con44)]
def zSn:Code:=match zCd (zAd Tryz.f20) with|a::_=>a|[]=>.skip
def zVy (v v1:OfV):Prop:=zEl Tryz.prog (cwC L20) oxN lxM zSn (zF5 (yB4 v)) (zQg (yC7 v) 67) (zHs (fun l s=>zIa v1 l s) (fun _ _ _=>False))
def yTb:LpX:=fun l s K=>∃ v:OfV,zIa v l s∧∃ v':OfV,Star zVy v v'∧zEl Tryz.prog (cwC L20) oxN lxM zSn (zF5 (yB4 v')) (zQg (yC7 v') 67) (zHs (fun _ _=>False) K)
def yR5 (n:Nat):Option LpX:=match Nat.beq n 2 with|true=>some yTb|false=>none
theorem yL9:yGm Tryz.prog (cwC L20) yR5 (zCd (zAd Tryz.f20)):=by
 have e:zCd (zAd Tryz.f20)=[zSn]:=by kernel_rfl
 rw[e]
 intro a ha X hX l s K h
 obtain rfl:=List.mem_singleton.1 ha
 have e2:yR5 (zMk zSn)=some yTb:=by kernel_rfl
 rw[e2] at hX
 cases hX
 obtain⟨v,hv,v',hs,he⟩:=h
 have hm:=zA0 L20
 refine zMm hm (fun v=>zF5 (yB4 v)) (fun v=>zQg (yC7 v) 67) (fun v v1 hstep=>?_) hs (zE5 hv) (zBc hm zOh _ (zOi _) he)
 exact zBl hm _ (zC9 (fun l s q=>zE5 q) fun _ _ _ q=>q) (zBc hm zOh _ (zOi _) hstep)
theorem yOx (v v1:OfV)(Kp:Prop):zEl Tryz.prog (cwC L19) oxN lxM zSm (zF5 (yB4 v)) (zQg (yC7 v) 67) (zHs (fun l s=>zIa v1 l s) (fun _ _ _=>Kp))=((∃ x0:Int,((addr_Bits.f 4=some x0)∧zAm (zAl (OfV.n v≤x0)) ((∃ x1:Int×Int,((pref_mask.f 4 (OfV.n v)=some x1)∧(∃ x2:Int×Int,((quad_And.f (OfV.a1 v) (OfV.a2 v) x1.1 x1.2=some x2)∧(∃ x3:Int×Int×Int×Bool,((pref_Netmask.f 4 (x2.1) x2.2 (OfV.n v)=some x3)∧zAm (Prod.snd (Prod.snd (x3.2))) (zAm (zAl (x3.1=OfV.m0 v)&&(zAl (Prod.fst (x3.2)=OfV.m1 v)&&(zAl (Prod.fst (Prod.snd (x3.2))=OfV.m2 v)&&true))) (Kp) ((((Value.pointer (some { block:=64,off:=0 })=Value.pointer (some { block:=64,off:=0 }))∧((Value.pointer (some { block:=65,off:=0 })=Value.pointer (some { block:=65,off:=0 }))∧((Value.pointer (some { block:=66,off:=0 })=Value.pointer (some { block:=66,off:=0 }))∧((Value.int .i64 (IntKind.wrap .i64 (OfV.n v+1))=Value.int .i64 (OfV.n v1))∧True))))∧((((Value.int .i64 (OfV.a0 v)=Value.int .i64 (OfV.a0 v1))∧((Value.int .u64 (OfV.a1 v)=Value.int .u64 (OfV.a1 v1))∧((Value.int .u64 (OfV.a2 v)=Value.int .u64 (OfV.a2 v1))∧True)))∧((57=57)∧(false=false)))∧((((Value.int .i64 (OfV.m0 v)=Value.int .i64 (OfV.m0 v1))∧((Value.int .u64 (OfV.m1 v)=Value.int .u64 (OfV.m1 v1))∧((Value.int .u64 (OfV.m2 v)=Value.int .u64 (OfV.m2 v1))∧True)))∧((57=57)∧(false=false)))∧(((Value.int .i64 0=Value.int .i64 0)∧((Value.int .u64 0=Value.int .u64 0)∧((Value.int .u64 0=Value.int .u64 0)∧((Value.int .i64 0=Value.int .i64 0)∧True))))∧((61=61)∧(false=false)))))))) ((((Value.pointer (some { block:=64,off:=0 })=Value.pointer (some { block:=64,off:=0 }))∧((Value.pointer (some { block:=65,off:=0 })=Value.pointer (some { block:=65,off:=0 }))∧((Value.pointer (some { block:=66,off:=0 })=Value.pointer (some { block:=66,off:=0 }))∧((Value.int .i64 (IntKind.wrap .i64 (OfV.n v+1))=Value.int .i64 (OfV.n v1))∧True))))∧((((Value.int .i64 (OfV.a0 v)=Value.int .i64 (OfV.a0 v1))∧((Value.int .u64 (OfV.a1 v)=Value.int .u64 (OfV.a1 v1))∧((Value.int .u64 (OfV.a2 v)=Value.int .u64 (OfV.a2 v1))∧True)))∧((57=57)∧(false=false)))∧((((Value.int .i64 (OfV.m0 v)=Value.int .i64 (OfV.m0 v1))∧((Value.int .u64 (OfV.m1 v)=Value.int .u64 (OfV.m1 v1))∧((Value.int .u64 (OfV.m2 v)=Value.int .u64 (OfV.m2 v1))∧True)))∧((57=57)∧(false=false)))∧(((Value.int .i64 0=Value.int .i64 0)∧((Value.int .u64 0=Value.int .u64 0)∧((Value.int .u64 0=Value.int .u64 0)∧((Value.int .i64 0=Value.int .i64 0)∧True))))∧((61=61)∧(false=false)))))))))))))) (Kp)))):=by kernel_rfl
theorem yX1 (a0 a1 a2 m0 m1 m2:Int)(Q:Value→Prop):zEl Tryz.prog (cwC L19) oxN yR4 (zAd Tryz.f19) (zAn [.agg #[.int .i64 a0,.int .u64 a1,.int .u64 a2],.agg #[.int .i64 m0,.int .u64 m1,.int .u64 m2]] 8) (zAo [] 64) (zA7 Tryz.prog Tryz.f19 fun v _=>Q v)=((∃ x0:Bool,((addr_Ok.f a0 a1 a2=some x0)∧zAm (!x0) (Q (Value.tuple #[Value.agg #[Value.int .i64 0,Value.int .u64 0,Value.int .u64 0,Value.int .i64 0],Value.bool false])) (zAm (zAl (a0≠4)) (Q (Value.tuple #[Value.agg #[Value.int .i64 0,Value.int .u64 0,Value.int .u64 0,Value.int .i64 0],Value.bool false])) ((∃ x1:OfV,((((Value.pointer (some { block:=64,off:=0 })=Value.pointer (some { block:=64,off:=0 }))∧((Value.pointer (some { block:=65,off:=0 })=Value.pointer (some { block:=65,off:=0 }))∧((Value.pointer (some { block:=66,off:=0 })=Value.pointer (some { block:=66,off:=0 }))∧((Value.int .i64 0=Value.int .i64 (OfV.n x1))∧True))))∧((((Value.int .i64 a0=Value.int .i64 (OfV.a0 x1))∧((Value.int .u64 a1=Value.int .u64 (OfV.a1 x1))∧((Value.int .u64 a2=Value.int .u64 (OfV.a2 x1))∧True)))∧((2 * 28+1=57)∧(false=false)))∧((((Value.int .i64 m0=Value.int .i64 (OfV.m0 x1))∧((Value.int .u64 m1=Value.int .u64 (OfV.m1 x1))∧((Value.int .u64 m2=Value.int .u64 (OfV.m2 x1))∧True)))∧((2 * 28+1=57)∧(false=false)))∧(((Value.int .i64 0=Value.int .i64 0)∧((Value.int .u64 0=Value.int .u64 0)∧((Value.int .u64 0=Value.int .u64 0)∧((Value.int .i64 0=Value.int .i64 0)∧True))))∧((2 * 30+1=61)∧(false=false))))))∧(∃ x2:OfV,((Star yB5 x1 x2)∧(∃ x3:Int,((addr_Bits.f 4=some x3)∧zAm (zAl (OfV.n x2≤x3)) ((∃ x4:Int×Int,((pref_mask.f 4 (OfV.n x2)=some x4)∧(∃ x5:Int×Int,((quad_And.f (OfV.a1 x2) (OfV.a2 x2) x4.1 x4.2=some x5)∧(∃ x6:Int×Int×Int×Bool,((pref_Netmask.f 4 (x5.1) x5.2 (OfV.n x2)=some x6)∧zAm (Prod.snd (Prod.snd (x6.2))) (zAm (zAl (x6.1=OfV.m0 x2)&&(zAl (Prod.fst (x6.2)=OfV.m1 x2)&&(zAl (Prod.fst (Prod.snd (x6.2))=OfV.m2 x2)&&true))) (Q (Value.tuple #[Value.agg #[Value.int .i64 4,Value.int .u64 (x5.1),Value.int .u64 (x5.2),Value.int .i64 (OfV.n x2)],Value.bool true])) (False)) (False)))))))) (Q (Value.tuple #[Value.agg #[Value.int .i64 0,Value.int .u64 0,Value.int .u64 0,Value.int .i64 0],Value.bool false]))))))))))))):=by kernel_rfl
theorem yR6 (v v1:OfV)(Kp:Prop):zEl Tryz.prog (cwC L20) oxN lxM zSn (zF5 (yB4 v)) (zQg (yC7 v) 67) (zHs (fun l s=>zIa v1 l s) (fun _ _ _=>Kp))=(zAm (zAl (OfV.n v≤32)) ((∃ x0:Int×Int,((gleberef1_all.f 4 (OfV.n v)=some x0)∧(∃ x1:Int×Int,((gleberef1_And.f (OfV.a1 v) (OfV.a2 v) x0.1 x0.2=some x1)∧(∃ x2:Int×Int×Int×Bool,((gleberef1_Netmask.f 4 (x1.1) x1.2 (OfV.n v)=some x2)∧(∃ x3:Bool,((gleberef1_Ok.f (OfV.a0 v) (OfV.a1 v) (OfV.a2 v)=some x3)∧zAm (x3) (zAm (zAl (OfV.a0 v=4)) (zAm (Prod.snd (Prod.snd (x2.2))) (zAm (zAl (x2.1=OfV.m0 v)&&(zAl (Prod.fst (x2.2)=OfV.m1 v)&&(zAl (Prod.fst (Prod.snd (x2.2))=OfV.m2 v)&&true))) (Kp) ((((Value.pointer (some { block:=64,off:=0 })=Value.pointer (some { block:=64,off:=0 }))∧((Value.pointer (some { block:=65,off:=0 })=Value.pointer (some { block:=65,off:=0 }))∧((Value.pointer (some { block:=66,off:=0 })=Value.pointer (some { block:=66,off:=0 }))∧((Value.int .i64 (IntKind.wrap .i64 (OfV.n v+1))=Value.int .i64 (OfV.n v1))∧True))))∧((((Value.int .i64 (OfV.a0 v)=Value.int .i64 (OfV.a0 v1))∧((Value.int .u64 (OfV.a1 v)=Value.int .u64 (OfV.a1 v1))∧((Value.int .u64 (OfV.a2 v)=Value.int .u64 (OfV.a2 v1))∧True)))∧((57=57)∧(false=false)))∧((((Value.int .i64 (OfV.m0 v)=Value.int .i64 (OfV.m0 v1))∧((Value.int .u64 (OfV.m1 v)=Value.int .u64 (OfV.m1 v1))∧((Value.int .u64 (OfV.m2 v)=Value.int .u64 (OfV.m2 v1))∧True)))∧((57=57)∧(false=false)))∧(((Value.int .i64 0=Value.int .i64 0)∧((Value.int .u64 0=Value.int .u64 0)∧((Value.int .u64 0=Value.int .u64 0)∧((Value.int .i64 0=Value.int .i64 0)∧True))))∧((61=61)∧(false=false)))))))) ((((Value.pointer (some { block:=64,off:=0 })=Value.pointer (some { block:=64,off:=0 }))∧((Value.pointer (some { block:=65,off:=0 })=Value.pointer (some { block:=65,off:=0 }))∧((Value.pointer (some { block:=66,off:=0 })=Value.pointer (some { block:=66,off:=0 }))∧((Value.int .i64 (IntKind.wrap .i64 (OfV.n v+1))=Value.int .i64 (OfV.n v1))∧True))))∧((((Value.int .i64 (OfV.a0 v)=Value.int .i64 (OfV.a0 v1))∧((Value.int .u64 (OfV.a1 v)=Value.int .u64 (OfV.a1 v1))∧((Value.int .u64 (OfV.a2 v)=Value.int .u64 (OfV.a2 v1))∧True)))∧((57=57)∧(false=false)))∧((((Value.int .i64 (OfV.m0 v)=Value.int .i64 (OfV.m0 v1))∧((Value.int .u64 (OfV.m1 v)=Value.int .u64 (OfV.m1 v1))∧((Value.int .u64 (OfV.m2 v)=Value.int .u64 (OfV.m2 v1))∧True)))∧((57=57)∧(false=false)))∧(((Value.int .i64 0=Value.int .i64 0)∧((Value.int .u64 0=Value.int .u64 0)∧((Value.int .u64 0=Value.int .u64 0)∧((Value.int .i64 0=Value.int .i64 0)∧True))))∧((61=61)∧(false=false)))))))) ((((Value.pointer (some { block:=64,off:=0 })=Value.pointer (some { block:=64,off:=0 }))∧((Value.pointer (some { block:=65,off:=0 })=Value.pointer (some { block:=65,off:=0 }))∧((Value.pointer (some { block:=66,off:=0 })=Value.pointer (some { block:=66,off:=0 }))∧((Value.int .i64 (IntKind.wrap .i64 (OfV.n v+1))=Value.int .i64 (OfV.n v1))∧True))))∧((((Value.int .i64 (OfV.a0 v)=Value.int .i64 (OfV.a0 v1))∧((Value.int .u64 (OfV.a1 v)=Value.int .u64 (OfV.a1 v1))∧((Value.int .u64 (OfV.a2 v)=Value.int .u64 (OfV.a2 v1))∧True)))∧((57=57)∧(false=false)))∧((((Value.int .i64 (OfV.m0 v)=Value.int .i64 (OfV.m0 v1))∧((Value.int .u64 (OfV.m1 v)=Value.int .u64 (OfV.m1 v1))∧((Value.int .u64 (OfV.m2 v)=Value.int .u64 (OfV.m2 v1))∧True)))∧((57=57)∧(false=false)))∧(((Value.int .i64 0=Value.int .i64 0)∧((Value.int .u64 0=Value.int .u64 0)∧((Value.int .u64 0=Value.int .u64 0)∧((Value.int .i64 0=Value.int .i64 0)∧True))))∧((61=61)∧(false=false)))))))) ((((Value.pointer (some { block:=64,off:=0 })=Value.pointer (some { block:=64,off:=0 }))∧((Value.pointer (some { block:=65,off:=0 })=Value.pointer (some { block:=65,off:=0 }))∧((Value.pointer (some { block:=66,off:=0 })=Value.pointer (some { block:=66,off:=0 }))∧((Value.int .i64 (IntKind.wrap .i64 (OfV.n v+1))=Value.int .i64 (OfV.n v1))∧True))))∧((((Value.int .i64 (OfV.a0 v)=Value.int .i64 (OfV.a0 v1))∧((Value.int .u64 (OfV.a1 v)=Value.int .u64 (OfV.a1 v1))∧((Value.int .u64 (OfV.a2 v)=Value.int .u64 (OfV.a2 v1))∧True)))∧((57=57)∧(false=false)))∧((((Value.int .i64 (OfV.m0 v)=Value.int .i64 (OfV.m0 v1))∧((Value.int .u64 (OfV.m1 v)=Value.int .u64 (OfV.m1 v1))∧((Value.int .u64 (OfV.m2 v)=Value.int .u64 (OfV.m2 v1))∧True)))∧((57=57)∧(false=false)))∧(((Value.int .i64 0=Value.int .i64 0)∧((Value.int .u64 0=Value.int .u64 0)∧((Value.int .u64 0=Value.int .u64 0)∧((Value.int .i64 0=Value.int .i64 0)∧True))))∧((61=61)∧(false=false)))))))))))))))) (Kp)):=by kernel_rfl
theorem yX2 (a0 a1 a2 m0 m1 m2:Int)(Q:Value→Prop):zEl Tryz.prog (cwC L20) oxN yR5 (zAd Tryz.f20) (zAn [.agg #[.int .i64 a0,.int .u64 a1,.int .u64 a2],.agg #[.int .i64 m0,.int .u64 m1,.int .u64 m2]] 8) (zAo [] 64) (zA7 Tryz.prog Tryz.f20 fun v _=>Q v)=((∃ x0:OfV,((((Value.pointer (some { block:=64,off:=0 })=Value.pointer (some { block:=64,off:=0 }))∧((Value.pointer (some { block:=65,off:=0 })=Value.pointer (some { block:=65,off:=0 }))∧((Value.pointer (some { block:=66,off:=0 })=Value.pointer (some { block:=66,off:=0 }))∧((Value.int .i64 0=Value.int .i64 (OfV.n x0))∧True))))∧((((Value.int .i64 a0=Value.int .i64 (OfV.a0 x0))∧((Value.int .u64 a1=Value.int .u64 (OfV.a1 x0))∧((Value.int .u64 a2=Value.int .u64 (OfV.a2 x0))∧True)))∧((2 * 28+1=57)∧(false=false)))∧((((Value.int .i64 m0=Value.int .i64 (OfV.m0 x0))∧((Value.int .u64 m1=Value.int .u64 (OfV.m1 x0))∧((Value.int .u64 m2=Value.int .u64 (OfV.m2 x0))∧True)))∧((2 * 28+1=57)∧(false=false)))∧(((Value.int .i64 0=Value.int .i64 0)∧((Value.int .u64 0=Value.int .u64 0)∧((Value.int .u64 0=Value.int .u64 0)∧((Value.int .i64 0=Value.int .i64 0)∧True))))∧((2 * 30+1=61)∧(false=false))))))∧(∃ x1:OfV,((Star zVy x0 x1)∧zAm (zAl (OfV.n x1≤32)) ((∃ x2:Int×Int,((gleberef1_all.f 4 (OfV.n x1)=some x2)∧(∃ x3:Int×Int,((gleberef1_And.f (OfV.a1 x1) (OfV.a2 x1) x2.1 x2.2=some x3)∧(∃ x4:Int×Int×Int×Bool,((gleberef1_Netmask.f 4 (x3.1) x3.2 (OfV.n x1)=some x4)∧(∃ x5:Bool,((gleberef1_Ok.f (OfV.a0 x1) (OfV.a1 x1) (OfV.a2 x1)=some x5)∧zAm (x5) (zAm (zAl (OfV.a0 x1=4)) (zAm (Prod.snd (Prod.snd (x4.2))) (zAm (zAl (x4.1=OfV.m0 x1)&&(zAl (Prod.fst (x4.2)=OfV.m1 x1)&&(zAl (Prod.fst (Prod.snd (x4.2))=OfV.m2 x1)&&true))) (Q (Value.tuple #[Value.agg #[Value.int .i64 4,Value.int .u64 (x3.1),Value.int .u64 (x3.2),Value.int .i64 (OfV.n x1)],Value.bool true])) (False)) (False)) (False)) (False)))))))))) (Q (Value.tuple #[Value.agg #[Value.int .i64 0,Value.int .u64 0,Value.int .u64 0,Value.int .i64 0],Value.bool false]))))))):=by kernel_rfl
theorem yOy {p q r:Prop}{A B:Prop}(h:p∧q∧r)(k:A):zAm (zAl p&&(zAl q&&(zAl r&&true))) A B:=by
 have:(zAl p&&(zAl q&&(zAl r&&true)))=true:=by rw[zCg.2 h.1,zCg.2 h.2.1,zCg.2 h.2.2];rfl
 rw[this];exact k
theorem yOz {p q r:Prop}{A B:Prop}(h:¬ (p∧q∧r))(k:B):zAm (zAl p&&(zAl q&&(zAl r&&true))) A B:=by
 have:(zAl p&&(zAl q&&(zAl r&&true)))=false:=by
  refine Bool.eq_false_iff.2 fun e=>h ?_
  simp only[Bool.and_eq_true,and_true] at e
  exact⟨zCg.1 e.1,zCg.1 e.2.1,zCg.1 e.2.2⟩
 rw[this];exact k
def zOo (v:OfV):OfV:=⟨v.a0,v.a1,v.a2,v.m0,v.m1,v.m2,wrap64 (v.n+1)⟩
def yR7 (v:OfV)(y:P5):Prop:=∃ t,addr_Bits.f 4=some t∧((¬ v.n≤t∧y=(0,0,0,0,false))∨(v.n≤t∧∃ M,pref_mask.f 4 v.n=some M∧∃ c,quad_And.f v.a1 v.a2 M.1 M.2=some c∧∃ x,pref_Netmask.f 4 c.1 c.2 v.n=some x∧x.2.2.2=true∧(x.1=v.m0∧x.2.1=v.m1∧x.2.2.1=v.m2)∧y=(4,c.1,c.2,v.n,true)))
theorem yB6:∀ (k:Nat) (v:OfV) (y:P5),yFh k v.n v.a1 v.a2 v.m0 v.m1 v.m2=some y→∃ v',Star yB5 v v'∧yR7 v' y
 |0,_,_,h=>by simp[yFh] at h
 |k+1,v,y,h=>by
  unfold yFh at h
  obtain⟨t,e0,h⟩:=Option.bind_eq_some_iff.1 h
  by_cases hn:v.n≤t
  ·rw[if_pos hn] at h
   obtain⟨M,e1,h⟩:=Option.bind_eq_some_iff.1 h
   obtain⟨c,e2,h⟩:=Option.bind_eq_some_iff.1 h
   obtain⟨x,e3,h⟩:=Option.bind_eq_some_iff.1 h
   by_cases hb:x.2.2.2=true
   ·rw[if_pos hb] at h
    by_cases hm:x.1=v.m0∧x.2.1=v.m1∧x.2.2.1=v.m2
    ·rw[if_pos hm] at h
     cases h
     exact⟨v,.refl v,t,e0,.inr ⟨hn,M,e1,c,e2,x,e3,hb,hm,rfl⟩⟩
    ·rw[if_neg hm] at h
     obtain⟨v',hs,hf⟩:=yB6 k (zOo v) y h
     refine⟨v',.step ((yOx v (zOo v) False).mpr ⟨t,e0,wdT hn ⟨M,e1,c,e2,x,e3,?_⟩⟩) hs,hf⟩
     rw[hb]
     refine yOz hm ?_
     simp only[zCc]
     repeat'(first|rfl|exact True.intro|refine And.intro ?_ ?_)
   ·rw[if_neg hb] at h
    obtain⟨v',hs,hf⟩:=yB6 k (zOo v) y h
    refine⟨v',.step ((yOx v (zOo v) False).mpr ⟨t,e0,wdT hn ⟨M,e1,c,e2,x,e3,?_⟩⟩) hs,hf⟩
    rw[Bool.eq_false_iff.2 hb]
    simp only[zCc]
    show _∧_
    repeat'(first|rfl|exact True.intro|refine And.intro ?_ ?_)
  ·rw[if_neg hn] at h
   cases h
   exact⟨v,.refl v,t,e0,.inl ⟨hn,rfl⟩⟩
def yFk:List Value→Option (Int×Int×Int×Int×Int×Int)
 |[.agg ⟨[.int .i64 a,.int .u64 b,.int .u64 c]⟩,.agg ⟨[.int .i64 d,.int .u64 e,.int .u64 f]⟩]=>some (a,b,c,d,e,f)
 |_=>none
def yB7 (x:Int×Int×Int×Int×Int×Int):List Value:=[.agg #[.int .i64 x.1,.int .u64 x.2.1,.int .u64 x.2.2.1],.agg #[.int .i64 x.2.2.2.1,.int .u64 x.2.2.2.2.1,.int .u64 x.2.2.2.2.2]]
theorem zSo {args:List Value}{a:Int×Int×Int×Int×Int×Int}(h:yFk args=some a):args=yB7 a:=by
 unfold yFk at h
 split at h
 case h_2=>cases h
 cases h;rfl
def con19:Con:=Con.opt yFk (fun x=>yFi x.1 x.2.1 x.2.2.1 x.2.2.2.1 x.2.2.2.2.1 x.2.2.2.2.2) zP8
theorem w19 (x:Int×Int×Int×Int×Int×Int)(y:P5)(hx:yFi x.1 x.2.1 x.2.2.1 x.2.2.2.1 x.2.2.2.2.1 x.2.2.2.2.2=some y):zAx Tryz.prog (cwC L19) (zAd Tryz.f19) (zAn (yB7 x) 8) (zAo [] 64) (zA7 Tryz.prog Tryz.f19 fun v' _=>v'=zP8 y):=by
 obtain⟨a0,a1,a2,m0,m1,m2⟩:=x
 unfold yFi at hx
 simp only at hx
 obtain⟨o,e0,hx⟩:=Option.bind_eq_some_iff.1 hx
 refine zBc (zA0 L19) zOh _ yL8 ((yX1 a0 a1 a2 m0 m1 m2 _).mpr ⟨o,e0,bifW_n (fun ho=>?_) (fun ho=>?_)⟩)
 ·rw[if_pos ho] at hx
  refine bifW_c (fun h4=>?_) (fun h4=>?_)
  ·rw[if_neg h4] at hx
   cases hx;rfl
  ·rw[if_pos (Decidable.not_not.1 h4)] at hx
   obtain⟨v',hs,t,f0,hf⟩:=yB6 40 ⟨a0,a1,a2,m0,m1,m2,0⟩ y hx
   refine⟨⟨a0,a1,a2,m0,m1,m2,0⟩,?_,v',hs,t,f0,?_⟩
   ·repeat'(first|rfl|exact True.intro|refine And.intro ?_ ?_)
   ·rcases hf with⟨q,rfl⟩|⟨q,M,f1,c,f2,z,f3,f4,f5,rfl⟩
    ·exact wdF q rfl
    ·refine wdT q ⟨M,f1,c,f2,z,f3,?_⟩
     rw[f4]
     exact yOy f5 rfl
 ·rw[if_neg ho] at hx
  cases hx;rfl
theorem yX3 {W:World}(hW:GoodW W):zAr Tryz.prog W 6 19 con19.own:=
 zA3 yB7 (Laying.empty hW.size) hW.size (by decide) zAs (OwnsAll.con (yQp hW) (OwnsAll.con (yPn hW) (OwnsAll.con (yNu hW) (OwnsAll.con (yNt hW) (OwnsAll.con (yS6 hW) (zAh W 6)))))) Tryz.func19 (fn:=Tryz.f19) (c:=zAd Tryz.f19) (by kernel_rfl) (by kernel_rfl) (fun _ _ h=>zSo h) (fun a=>⟨rfl,(by kernel_rfl)⟩) (fun b=>rfl) w19
def yO0 (v:OfV)(y:P5):Prop:=(¬ v.n≤32∧y=(0,0,0,0,false))∨(v.n≤32∧∃ M,gleberef1_all.f 4 v.n=some M∧∃ c,gleberef1_And.f v.a1 v.a2 M.1 M.2=some c∧∃ x,gleberef1_Netmask.f 4 c.1 c.2 v.n=some x∧gleberef1_Ok.f v.a0 v.a1 v.a2=some true∧v.a0=4∧x.2.2.2=true∧(x.1=v.m0∧x.2.1=v.m1∧x.2.2.1=v.m2)∧y=(4,c.1,c.2,v.n,true))
theorem yG3:∀ (k:Nat) (v:OfV) (y:P5),zUd k v.n v.a0 v.a1 v.a2 v.m0 v.m1 v.m2=some y→∃ v',Star zVy v v'∧yO0 v' y
 |0,_,_,h=>by simp[zUd] at h
 |k+1,v,y,h=>by
  unfold zUd at h
  by_cases hn:v.n≤32
  ·rw[if_pos hn] at h
   obtain⟨M,e1,h⟩:=Option.bind_eq_some_iff.1 h
   obtain⟨c,e2,h⟩:=Option.bind_eq_some_iff.1 h
   obtain⟨x,e3,h⟩:=Option.bind_eq_some_iff.1 h
   obtain⟨o,e4,h⟩:=Option.bind_eq_some_iff.1 h
   have again:zUd k (wrap64 (v.n+1)) v.a0 v.a1 v.a2 v.m0 v.m1 v.m2=some y→¬ (o=true∧v.a0=4∧x.2.2.2=true∧(x.1=v.m0∧x.2.1=v.m1∧x.2.2.1=v.m2))→∃ v',Star zVy v v'∧yO0 v' y:=by
    intro h hno
    obtain⟨v',hs,hf⟩:=yG3 k (zOo v) y h
    refine⟨v',.step ((yR6 v (zOo v) False).mpr (wdT hn ⟨M,e1,c,e2,x,e3,o,e4,?_⟩)) hs,hf⟩
    simp only[zCc]
    refine bifW_b (fun ho=>bifW_c (fun h4=>bifW_b (fun hb=>?_) (fun hb=>?_)) (fun h4=>?_)) (fun ho=>?_)
    ·by_cases hm:x.1=v.m0∧x.2.1=v.m1∧x.2.2.1=v.m2
     ·exact absurd ⟨ho,h4,hb,hm⟩ hno
     ·refine yOz hm ?_
      repeat'(first|rfl|exact True.intro|refine And.intro ?_ ?_)
    all_goals repeat'(first|rfl|exact True.intro|refine And.intro ?_ ?_)
   by_cases ho:o=true
   ·rw[if_pos ho] at h
    by_cases h4:v.a0=4
    ·rw[if_pos h4] at h
     by_cases hb:x.2.2.2=true
     ·rw[if_pos hb] at h
      by_cases hm:x.1=v.m0∧x.2.1=v.m1∧x.2.2.1=v.m2
      ·rw[if_pos hm] at h
       cases h
       subst ho
       exact⟨v,.refl v,.inr ⟨hn,M,e1,c,e2,x,e3,e4,h4,hb,hm,rfl⟩⟩
      ·rw[if_neg hm] at h
       exact again h fun q=>hm q.2.2.2
     ·rw[if_neg hb] at h
      exact again h fun q=>hb q.2.2.1
    ·rw[if_neg h4] at h
     exact again h fun q=>h4 q.2.1
   ·rw[if_neg ho] at h
    exact again h fun q=>ho q.1
  ·rw[if_neg hn] at h
   cases h
   exact⟨v,.refl v,.inl ⟨hn,rfl⟩⟩
def con20:Con:=Con.opt yFk (fun x=>yFj x.1 x.2.1 x.2.2.1 x.2.2.2.1 x.2.2.2.2.1 x.2.2.2.2.2) zP8
theorem w20 (x:Int×Int×Int×Int×Int×Int)(y:P5)(hx:yFj x.1 x.2.1 x.2.2.1 x.2.2.2.1 x.2.2.2.2.1 x.2.2.2.2.2=some y):zAx Tryz.prog (cwC L20) (zAd Tryz.f20) (zAn (yB7 x) 8) (zAo [] 64) (zA7 Tryz.prog Tryz.f20 fun v' _=>v'=zP8 y):=by
 obtain⟨a0,a1,a2,m0,m1,m2⟩:=x
 unfold yFj at hx
 simp only at hx
 obtain⟨v',hs,hf⟩:=yG3 40 ⟨a0,a1,a2,m0,m1,m2,0⟩ y hx
 refine zBc (zA0 L20) zOh _ yL9 ((yX2 a0 a1 a2 m0 m1 m2 _).mpr ⟨⟨a0,a1,a2,m0,m1,m2,0⟩,?_,v',hs,?_⟩)
 ·repeat'(first|rfl|exact True.intro|refine And.intro ?_ ?_)
 ·rcases hf with⟨q,rfl⟩|⟨q,M,f1,c,f2,z,f3,f4,f5,f6,f7,rfl⟩
  ·exact wdF q rfl
  ·refine wdT q ⟨M,f1,c,f2,z,f3,true,f4,?_⟩
   show zAm (zAl (v'.a0=4)) _ _
   refine wdT f5 ?_
   rw[f6]
   exact yOy f7 rfl
theorem yX4 {W:World}(hW:GoodW W):zAr Tryz.prog W 6 20 con20.own:=
 zA3 yB7 (Laying.empty hW.size) hW.size (by decide) zAs (OwnsAll.con (yNs hW) (OwnsAll.con (yM1 hW) (OwnsAll.con (yS7 hW) (OwnsAll.con (yPm hW) (zAh W 6))))) Tryz.func20 (fn:=Tryz.f20) (c:=zAd Tryz.f20) (by kernel_rfl) (by kernel_rfl) (fun _ _ h=>zSo h) (fun a=>⟨rfl,(by kernel_rfl)⟩) (fun b=>rfl) w20
end Go.Proofs.YtfnacgojmdbjmaaGreatDoor
namespace Go.Det
variable {P:Program}
def yR8 (P:Program):OpX:=fun o l s K=>match o.op with
 |.slice t x lo hi none=>(match typ P t with
  |some .string=>(match evalO l x with
   |.string b=>(match zC3 l lo with
    |none=>(match zC3 l hi with
     |some (.int _ h)=>0≤h∧(h≤(b.size:Int)∧K (.string (b.extract 0 h.toNat)) s)
     |_=>False)
    |some (.int _ m)=>(match zC3 l hi with
     |none=>0≤m∧(m≤(b.size:Int)∧K (.string (b.extract m.toNat b.size)) s)
     |_=>False)
    |_=>False)
   |_=>False)
  |_=>False)
 |_=>False
theorem yMa {cw:Cw}{o:Oper}{l:zAz}{s:St}{K:KV}(h:yR8 P o l s K):opW P cw o l s K:=by
 unfold yR8 at h
 split at h
 case h_2=>exact h.elim
 rename_i t x lo hi ho
 split at h
 case h_2=>exact h.elim
 rename_i ht
 split at h
 case h_2=>exact h.elim
 rename_i b hb
 unfold opW
 rw[ho]
 show zZg (opD P zTp o l s) K
 have e:opD P zTp o l s=ofV (zUk P t (evalO l x) (zC3 l lo) (zC3 l hi) (zC3 l none)) s:=by
  unfold opD
  rw[ho]
  rfl
 rw[e]
 have en:zC3 l none=none:=rfl
 unfold zUk
 rw[ht,hb,en]
 unfold zKf zHy
 split at h
 ·rename_i h1
  split at h
  case h_2=>exact h.elim
  rename_i k m h2
  obtain⟨a1,a2,hk⟩:=h
  have e1:Nat.ble 0 m.toNat=true:=Nat.ble_eq_true_of_le (Nat.zero_le _)
  have e2:Nat.ble m.toNat b.size=true:=Nat.ble_eq_true_of_le (by omega)
  rw[h1,h2]
  simp only[bound,zIb,if_pos a1,e1,e2,Bool.and_self,if_true]
  exact hk
 ·rename_i k m h1
  split at h
  case h_2=>exact h.elim
  rename_i h2
  obtain⟨a1,a2,hk⟩:=h
  have e1:Nat.ble m.toNat b.size=true:=Nat.ble_eq_true_of_le (by omega)
  have e2:Nat.ble b.size b.size=true:=Nat.ble_eq_true_of_le (Nat.le_refl _)
  rw[h1,h2]
  simp only[bound,zIb,if_pos a1,e1,e2,Bool.and_self,if_true]
  exact hk
 ·exact h.elim
def yPv (b:Bool):OpX:=fun o l s K=>match o.op with
 |.binOp op _ x y _=>(match evalO l x,evalO l y with
  |.int k m,.int k' n=>zGd k k'=true∧(match op with
   |.lss=>zAl (m < n)=b∧K (.bool b) s
   |_=>False)
  |_,_=>False)
 |_=>False
theorem yB8 {cw:Cw}{b:Bool}{o:Oper}{l:zAz}{s:St}{K:KV}(h:yPv b o l s K):opW P cw o l s K:=by
 unfold yPv at h
 split at h
 case h_2=>exact h.elim
 rename_i op t x y q ho
 split at h
 case h_2=>exact h.elim
 rename_i k m k' n h1 h2
 obtain⟨hk,h⟩:=h
 split at h
 case h_2=>exact h.elim
 obtain⟨hb,h⟩:=h
 unfold opW
 rw[ho]
 simp only[h1,h2]
 unfold yGd
 simp only[hk,hb]
 exact h
def inN:List Nat→Nat→Bool
 |[],_=>false
 |d::t,n=>Nat.beq d n||inN t n
def oxJ (P:Program)(c:Nat)(b:Bool)(ss ds no:List Nat)(n:Nat):Option OpX:=match Nat.beq c n with
 |true=>some (yPv b)
 |false=>(match inN ss n with
  |true=>some (yR8 P)
  |false=>(match inN no n with
   |true=>some fun _ _ _ _=>False
   |false=>oxE ds n))
theorem zOp {cw:Cw}(c:Nat)(b:Bool)(ss ds no:List Nat):zXo P cw (oxJ P c b ss ds no):=by
 intro n X h
 unfold oxJ at h
 split at h
 ·cases h;exact fun o l s K=>yB8
 ·split at h
  ·cases h;exact fun o l s K=>yMa
  ·split at h
   ·cases h;exact fun o l s K q=>q.elim
   ·exact zFl ds n X h
def Con.optK {α:Type}(dec:List Value→Option α)(F:α→Option (Int×Bool))(b:Bool)(enc:Int×Bool→Value):Con where
 own:=(Con.opt dec F enc).own
 w:=fun args s K=>match dec args with
  |some a=>∃ n:Int,F a=some (n,b)∧K (enc (n,b)) s
  |none=>False
 ok:=by
  intro args s K h
  split at h
  ·rename_i a ha
   obtain⟨n,h,hk⟩:=h
   exact⟨enc (n,b),s,by unfold Con.opt zDb;simp only[ha,h],hk,fun K' k=>⟨n,h,k⟩⟩
  ·exact h.elim
 mono:=by
  intro args s K K' k h
  split at h
  ·obtain⟨n,h,hk⟩:=h
   exact⟨n,h,k _ _ hk⟩
  ·exact h.elim
end Go.Det
namespace Go.Proofs.YtfnacgojmdbjmaaGreatDoor
open Go.Det Go.RowKit PRD YtfnacgojmdbjmaaGreatDoorW.PrintWords
def L15:List (Nat×Con):=[(62,con62),(63,con63),(64,con64),(16,con16)]
def con15:Con:=Con.opt zXq (fun s=>gleberef1_Prefix.f s) zP8
theorem yX5 (s:ByteArray)(Q:Value→Prop):zBi Tryz.prog (cwC L15) (oxJ Tryz.prog 1000 false [18,26] [] []) 0 (zAd Tryz.f15) (zAn [.string s] 8) (zAo [] 64) (zA7 Tryz.prog Tryz.f15 fun v _=>Q v)=((∃ x0:Int,((zXx s 47=some x0)∧zAm (zAl (x0 < 0)) (Q (Value.tuple #[Value.agg #[Value.int .i64 0,Value.int .u64 0,Value.int .u64 0,Value.int .i64 0],Value.bool false])) (((0≤x0)∧((x0≤(↑(ByteArray.size s):Int))∧(∃ x1:Int×Int×Int×Bool,((zUc (ByteArray.extract s 0 (Int.toNat x0))=some x1)∧((0≤IntKind.wrap .i64 (x0+1))∧((IntKind.wrap .i64 (x0+1)≤(↑(ByteArray.size s):Int))∧(∃ x2:Int×Bool,((yLa (ByteArray.extract s (Int.toNat (IntKind.wrap .i64 (x0+1))) (ByteArray.size s)) 128=some x2)∧zAm (!Prod.snd (Prod.snd (x1.2))) (Q (Value.tuple #[Value.agg #[Value.int .i64 0,Value.int .u64 0,Value.int .u64 0,Value.int .i64 0],Value.bool false])) (zAm (!x2.2) (Q (Value.tuple #[Value.agg #[Value.int .i64 0,Value.int .u64 0,Value.int .u64 0,Value.int .i64 0],Value.bool false])) ((∃ x3:Bool,((gleberef1_OkPrefix.f (x1.1) (Prod.fst (x1.2)) (Prod.fst (Prod.snd (x1.2))) (IntKind.wrap .i64 (x2.1))=some x3)∧zAm (!x3) (Q (Value.tuple #[Value.agg #[Value.int .i64 0,Value.int .u64 0,Value.int .u64 0,Value.int .i64 0],Value.bool false])) (Q (Value.tuple #[Value.agg #[Value.int .i64 (x1.1),Value.int .u64 (Prod.fst (x1.2)),Value.int .u64 (Prod.fst (Prod.snd (x1.2))),Value.int .i64 (IntKind.wrap .i64 (x2.1))],Value.bool true])))))))))))))))))):=by kernel_rfl
end Go.Proofs.YtfnacgojmdbjmaaGreatDoor
namespace Go.Proofs.YtfnacgojmdbjmaaGreatDoor
open Go.Det Go.RowKit YtfnacgojmdbjmaaGreatDoorW.PrintWords
def zI7 (s:ByteArray):Option (Int×Bool):=PPPT.gleberef1_four.f 7000 s
def zI8 (s:ByteArray):Option Int:=PPPT.gleberef1_joint.f 7000 s
def zBx (x:ByteArray×Bool):Option (List Int×Bool):=PPPT.gleberef1_groups.f 7000 x.1 x.2
def con87:Con:=Con.opt zXq zI7 zVh
theorem yX6 {W:World}(hW:GoodW W):zAr Tryz.prog W 6 87 con87.own:=by
 refine zA5 (fn:=Tryz.f87) (c:=zAd Tryz.f87) hW Tryz.func87 (by kernel_rfl) (by kernel_rfl) fun args v h=>?_
 split at h
 case h_2=>cases h
 rename_i a ha
 split at h
 case h_2=>cases h
 rename_i b hb
 cases h
 obtain rfl:=zF6 ha
 exact⟨rfl,rfl,fun w hG=>(PPPT.gleberef1_four.calls 7000 a b.1 b.2 w hG hb).mono fun e w' h=>⟨h.1,h.2⟩⟩
def con88:Con:=Con.opt zXq zI8 enI
theorem yX7 {W:World}(hW:GoodW W):zAr Tryz.prog W 6 88 con88.own:=by
 refine zA5 (fn:=Tryz.f88) (c:=zAd Tryz.f88) hW Tryz.func88 (by kernel_rfl) (by kernel_rfl) fun args v h=>?_
 split at h
 case h_2=>cases h
 rename_i a ha
 split at h
 case h_2=>cases h
 rename_i b hb
 cases h
 obtain rfl:=zF6 ha
 exact⟨rfl,rfl,fun w hG=>(PPPT.gleberef1_joint.calls 7000 a b w hG hb).mono fun e w' h=>⟨h.1,h.2.below⟩⟩
theorem vg0 (l:Bool)(Q:Value→Prop):zBi Tryz.prog (cwC []) ox0 0 (zAd Tryz.f89) (zAn [.string ⟨⟨[]⟩⟩,.bool l] 8) (zAo [] 64) (zA7 Tryz.prog Tryz.f89 fun v _=>Q v)=(zAm (zAl (Array.toList (ByteArray.data { data:={ toList:=[] } })=Array.toList (ByteArray.data { data:=#[] }))) (Q (Value.tuple #[Value.slice Option.none 0 0,Value.bool Bool.true])) (False)):=by kernel_rfl
def con89e:Con:=Con.flat yPr (fun _=>true) fun _=>.tuple #[.slice none 0 0,.bool true]
theorem yR9 {W:World}(hW:GoodW W):zAr Tryz.prog W 6 89 con89e.own:=
 zU9 (fun l:Bool=>[.string ⟨⟨[]⟩⟩,.bool l]) (Laying.empty hW.size) hW.size (by decide) zAs (l:=[]) (zAh W 6) Tryz.func89 (fn:=Tryz.f89) (c:=zAd Tryz.f89) (by kernel_rfl) (by kernel_rfl) (fun _ _ h=>zVj h) (fun a=>⟨rfl,rfl,(by kernel_rfl)⟩) fun a _=>
  zAv (zA0 _) zE4 (by kernel_rfl) ((vg0 a _).mpr (zVe rfl rfl))
theorem yMb {l:Bool}{r:List Int×Bool}(h:zBx (⟨⟨[]⟩⟩,l)=some r):r=([],true):=by
 unfold zBx PPPT.gleberef1_groups.f at h
 rw[if_pos (show ByteArray.toList ⟨⟨[]⟩⟩=[] by rw[ByteArray.toList_eq])] at h
 cases h;rfl
theorem yX8 {W:World}(hW:GoodW W):zAr Tryz.prog W 6 89 (zP0 zBx 23):=
 zVi (fn:=Tryz.f89) (c:=zAd Tryz.f89) (Gd:=GoodW) (g:=con89e.own) (fun w k=>hW.later k.size k.old) Tryz.func89 (by kernel_rfl) (by kernel_rfl) (yR9 hW)
  (fun last r s h=>by cases yMb h;rfl)
  fun t last r h w hG=>(PPPT.gleberef1_groups.calls 7000 t last r.1 r.2 w hG h).mono (by
   rintro e w' ⟨v,rfl,hR,hB⟩
   obtain⟨_,inner,ho,hreps⟩:=hR
   obtain rfl:=zP1 (enc:=Value.int .u64) (fun p c h=>h) hreps
   exact⟨v,rfl,⟨hB.os,hB.tape,hB.output,hB.size,hB.block⟩,ho⟩)
abbrev ya (s:ByteArray)(j:Int):ByteArray:=ByteArray.extract s 0 (Int.toNat j)
abbrev yb (s:ByteArray)(j:Int):ByteArray:=ByteArray.extract s (Int.toNat (IntKind.wrap IntKind.i64 (j+2))) (ByteArray.size s)
abbrev yh (s:ByteArray)(T:Int→Prop):Prop:=∃ x0:Int,((zI7 s=Option.some (x0,Bool.false))∧(∃ x1:Int,((zI8 s=Option.some x1)∧((Bool.true=Bool.true)∧((zAl (x1 < 0)=Bool.false)∧((0≤x1)∧((x1≤(↑(ByteArray.size s):Int))∧T x1)))))))
abbrev yo (s:ByteArray)(j:Int)(T:Prop):Prop:=(0≤IntKind.wrap IntKind.i64 (j+2))∧((IntKind.wrap IntKind.i64 (j+2)≤(↑(ByteArray.size s):Int))∧T)
abbrev yq (Q:Value→Prop)(a b c d e f g h:Int):Prop:=Q (Value.tuple #[Value.agg #[Value.int IntKind.i64 6,Value.int IntKind.u64 (orI IntKind.u64 (zD3 IntKind.u64 (orI IntKind.u64 (zD3 IntKind.u64 (orI IntKind.u64 (zD3 IntKind.u64 (orI IntKind.u64 (zD3 IntKind.u64 0 16) a) 16) b) 16) c) 16) d),Value.int IntKind.u64 (orI IntKind.u64 (zD3 IntKind.u64 (orI IntKind.u64 (zD3 IntKind.u64 (orI IntKind.u64 (zD3 IntKind.u64 (orI IntKind.u64 (zD3 IntKind.u64 0 16) e) 16) f) 16) g) 16) h)],Value.bool Bool.true])
abbrev yt (n:Int)(T:Prop):Prop:=(((0:Int)≤16)∧((((0:Int)≤0)∧(0 < n))∧(((0:Int)≤16)∧(((0≤IntKind.wrap IntKind.i64 (4+0))∧(IntKind.wrap IntKind.i64 (4+0) < n))∧((Bool.true=Bool.true)∧(((0:Int)≤16)∧(((0≤IntKind.wrap IntKind.i64 (0+1))∧(IntKind.wrap IntKind.i64 (0+1) < n))∧(((0:Int)≤16)∧(((0≤IntKind.wrap IntKind.i64 (4+IntKind.wrap IntKind.i64 (0+1)))∧(IntKind.wrap IntKind.i64 (4+IntKind.wrap IntKind.i64 (0+1)) < n))∧((Bool.true=Bool.true)∧(((0:Int)≤16)∧(((0≤IntKind.wrap IntKind.i64 (IntKind.wrap IntKind.i64 (0+1)+1))∧(IntKind.wrap IntKind.i64 (IntKind.wrap IntKind.i64 (0+1)+1) < n))∧(((0:Int)≤16)∧(((0≤IntKind.wrap IntKind.i64 (4+IntKind.wrap IntKind.i64 (IntKind.wrap IntKind.i64 (0+1)+1)))∧(IntKind.wrap IntKind.i64 (4+IntKind.wrap IntKind.i64 (IntKind.wrap IntKind.i64 (0+1)+1)) < n))∧((Bool.true=Bool.true)∧(((0:Int)≤16)∧(((0≤IntKind.wrap IntKind.i64 (IntKind.wrap IntKind.i64 (IntKind.wrap IntKind.i64 (0+1)+1)+1))∧(IntKind.wrap IntKind.i64 (IntKind.wrap IntKind.i64 (IntKind.wrap IntKind.i64 (0+1)+1)+1) < n))∧(((0:Int)≤16)∧(((0≤IntKind.wrap IntKind.i64 (4+IntKind.wrap IntKind.i64 (IntKind.wrap IntKind.i64 (IntKind.wrap IntKind.i64 (0+1)+1)+1)))∧(IntKind.wrap IntKind.i64 (4+IntKind.wrap IntKind.i64 (IntKind.wrap IntKind.i64 (IntKind.wrap IntKind.i64 (0+1)+1)+1)) < n))∧((Bool.true=Bool.true)∧T))))))))))))))))))))
abbrev yz (Q:Value→Prop):Prop:=Q (Value.tuple #[Value.agg #[Value.int IntKind.i64 0,Value.int IntKind.u64 0,Value.int IntKind.u64 0],Value.bool Bool.false])
def LpA:List (Nat×Con):=[(87,Con.optK zXq zI7 true zVh),(88,con88),(89,Con.rowB zBx 23)]
def LpT (h t:Nat):List (Nat×Con):=[(87,Con.optK zXq zI7 false zVh),(88,con88),(89,Con.rowS zBx 23 h t)]
def LpB:List (Nat×Con):=[(87,Con.optK zXq zI7 false zVh),(88,con88),(89,Con.rowB zBx 23)]
def Lp0:List (Nat×Own):=[(87,con87.own),(88,con88.own),(89,zP0 zBx 23)]
end Go.Proofs.YtfnacgojmdbjmaaGreatDoor
namespace Go.Proofs.YtfnacgojmdbjmaaGreatDoor
open Go.Det Go.RowKit  YtfnacgojmdbjmaaGreatDoorW.PrintWords
theorem vjA (s:ByteArray)(Q:Value→Prop):zBi Tryz.prog (cwC LpA) (oxJ Tryz.prog 28 false [46,54] [] []) 0 (zAd Tryz.f63) (zAn [.string s] 8) (zAo [] 64) (zA7 Tryz.prog Tryz.f63 fun v _=>Q v)=((∃ x0:Int,((zI7 s=some (x0,true))∧Q (Value.tuple #[Value.agg #[Value.int .i64 4,Value.int .u64 0,Value.int .u64 x0],Value.bool true])))):=by kernel_rfl
theorem yX9 (s:ByteArray)(Q:Value→Prop):zBi Tryz.prog (cwC LpB) (oxJ Tryz.prog 28 false [46,54] [] [73]) 0 (zAd Tryz.f63) (zAn [.string s] 8) (zAo [] 64) (zA7 Tryz.prog Tryz.f63 fun v _=>Q v)=((yh s fun x1=>(∃ x2:List Int×Bool,((zBx (ya s x1,false)=some x2)∧((((ya s x1).data.toList=[])∧(yo s x1 ((∃ x3:List Int×Bool,((zBx (yb s x1,true)=some x3)∧((((yb s x1).data.toList=[])∧zAm (!x2.2) (yz Q) (zAm (!x3.2) (yz Q) (zAm (zAl (7 < IntKind.wrap .i64 ((↑0:Int)+(↑0:Int)))) (yz Q) (False))))∨((((yb s x1).data.toList≠[])∧((x3.1=[])∧zAm (!x2.2) (yz Q) (zAm (!x3.2) (yz Q) (zAm (zAl (7 < IntKind.wrap .i64 ((↑0:Int)+(↑0:Int)))) (yz Q) (False)))))∨(((yb s x1).data.toList≠[])∧((x3.1≠[])∧zAm (!x2.2) (yz Q) (zAm (!x3.2) (yz Q) (zAm (zAl (7 < IntKind.wrap .i64 ((↑0:Int)+(↑(List.length (x3.1)):Int)))) (yz Q) (False))))))))))))∨((((ya s x1).data.toList≠[])∧((x2.1=[])∧(yo s x1 ((∃ x3:List Int×Bool,((zBx (yb s x1,true)=some x3)∧((((yb s x1).data.toList=[])∧zAm (!x2.2) (yz Q) (zAm (!x3.2) (yz Q) (zAm (zAl (7 < IntKind.wrap .i64 ((↑0:Int)+(↑0:Int)))) (yz Q) (False))))∨((((yb s x1).data.toList≠[])∧((x3.1=[])∧zAm (!x2.2) (yz Q) (zAm (!x3.2) (yz Q) (zAm (zAl (7 < IntKind.wrap .i64 ((↑0:Int)+(↑0:Int)))) (yz Q) (False)))))∨(((yb s x1).data.toList≠[])∧((x3.1≠[])∧zAm (!x2.2) (yz Q) (zAm (!x3.2) (yz Q) (zAm (zAl (7 < IntKind.wrap .i64 ((↑0:Int)+(↑(List.length (x3.1)):Int)))) (yz Q) (False)))))))))))))∨(((ya s x1).data.toList≠[])∧((x2.1≠[])∧(yo s x1 ((∃ x3:List Int×Bool,((zBx (yb s x1,true)=some x3)∧((((yb s x1).data.toList=[])∧zAm (!x2.2) (yz Q) (zAm (!x3.2) (yz Q) (zAm (zAl (7 < IntKind.wrap .i64 ((↑(List.length (x2.1)):Int)+(↑0:Int)))) (yz Q) (False))))∨((((yb s x1).data.toList≠[])∧((x3.1=[])∧zAm (!x2.2) (yz Q) (zAm (!x3.2) (yz Q) (zAm (zAl (7 < IntKind.wrap .i64 ((↑(List.length (x2.1)):Int)+(↑0:Int)))) (yz Q) (False)))))∨(((yb s x1).data.toList≠[])∧((x3.1≠[])∧zAm (!x2.2) (yz Q) (zAm (!x3.2) (yz Q) (zAm (zAl (7 < IntKind.wrap .i64 ((↑(List.length (x2.1)):Int)+(↑(List.length (x3.1)):Int)))) (yz Q) (False))))))))))))))))))):=by kernel_rfl
theorem yYa (s:ByteArray)(Q:Value→Prop):zBi Tryz.prog (cwC LpB) (oxJ Tryz.prog 28 true [46,54] [] [42]) 0 (zAd Tryz.f63) (zAn [.string s] 8) (zAo [] 64) (zA7 Tryz.prog Tryz.f63 fun v _=>Q v)=((∃ x0:Int,((zI7 s=some (x0,false))∧(∃ x1:Int,((zI8 s=some x1)∧((true=true)∧((zAl (x1 < 0)=true)∧(∃ x2:List Int×Bool,((zBx (s,true)=some x2)∧(((s.data.toList=[])∧zAm (!x2.2) (yz Q) (zAm (zAl ((↑0:Int)≠8)) (yz Q) (False)))∨(((s.data.toList≠[])∧((x2.1=[])∧zAm (!x2.2) (yz Q) (zAm (zAl ((↑0:Int)≠8)) (yz Q) (False))))∨((s.data.toList≠[])∧((x2.1≠[])∧zAm (!x2.2) (yz Q) (zAm (zAl ((↑(List.length (x2.1)):Int)≠8)) (yz Q) (False))))))))))))))):=by kernel_rfl
theorem vjw (s:ByteArray)(Q:Value→Prop):zBi Tryz.prog (cwC (LpT 0 8)) (oxJ Tryz.prog 28 true [46,54] [39,90] []) 5 (zAd Tryz.f63) (zAn [.string s] 8) (zAo [] 64) (zA7 Tryz.prog Tryz.f63 fun v _=>Q v)=((∃ x0:Int,((zI7 s=some (x0,false))∧(∃ x1:Int,((zI8 s=some x1)∧((true=true)∧((zAl (x1 < 0)=true)∧((s.data.toList≠[])∧(∃ x2:Int,(∃ x3:Int,(∃ x4:Int,(∃ x5:Int,(∃ x6:Int,(∃ x7:Int,(∃ x8:Int,(∃ x9:Int,((zBx (s,true)=some ([x2,x3,x4,x5,x6,x7,x8,x9],true))∧((true=true)∧((true=true)∧(yt (↑8:Int) (yq Q x2 x3 x4 x5 x6 x7 x8 x9))))))))))))))))))))):=by kernel_rfl
theorem yYb (s:ByteArray)(Q:Value→Prop):zBi Tryz.prog (cwC (LpT 0 0)) (oxJ Tryz.prog 28 false [46,54] [70,81,90] []) 9 (zAd Tryz.f63) (zAn [.string s] 8) (zAo [] 64) (zA7 Tryz.prog Tryz.f63 fun v _=>Q v)=((yh s fun x1=>(((ya s x1).data.toList=[])∧((zBx (ya s x1,false)=some ([],true))∧(yo s x1 ((((yb s x1).data.toList=[])∧((zBx (yb s x1,true)=some ([],true))∧((true=true)∧((true=true)∧((true=true)∧((true=true)∧((true=true)∧((true=true)∧((true=true)∧((true=true)∧((true=true)∧((true=true)∧((true=true)∧(yt (↑8:Int) (yq Q 0 0 0 0 0 0 0 0))))))))))))))))))))):=by kernel_rfl
theorem yYc (s:ByteArray)(Q:Value→Prop):zBi Tryz.prog (cwC (LpT 0 1)) (oxJ Tryz.prog 28 false [46,54] [70,81,90] []) 9 (zAd Tryz.f63) (zAn [.string s] 8) (zAo [] 64) (zA7 Tryz.prog Tryz.f63 fun v _=>Q v)=((yh s fun x1=>(((ya s x1).data.toList=[])∧((zBx (ya s x1,false)=some ([],true))∧(yo s x1 ((((yb s x1).data.toList≠[])∧(∃ x2:Int,((zBx (yb s x1,true)=some ([x2],true))∧((true=true)∧((true=true)∧((true=true)∧((true=true)∧((true=true)∧((true=true)∧((true=true)∧((true=true)∧((true=true)∧((true=true)∧(yt (↑8:Int) (yq Q 0 0 0 0 0 0 0 x2))))))))))))))))))))):=by kernel_rfl
theorem yYd (s:ByteArray)(Q:Value→Prop):zBi Tryz.prog (cwC (LpT 0 2)) (oxJ Tryz.prog 28 false [46,54] [70,81,90] []) 9 (zAd Tryz.f63) (zAn [.string s] 8) (zAo [] 64) (zA7 Tryz.prog Tryz.f63 fun v _=>Q v)=((yh s fun x1=>(((ya s x1).data.toList=[])∧((zBx (ya s x1,false)=some ([],true))∧(yo s x1 ((((yb s x1).data.toList≠[])∧(∃ x2:Int,(∃ x3:Int,((zBx (yb s x1,true)=some ([x2,x3],true))∧((true=true)∧((true=true)∧((true=true)∧((true=true)∧((true=true)∧((true=true)∧((true=true)∧((true=true)∧((true=true)∧(yt (↑8:Int) (yq Q 0 0 0 0 0 0 x2 x3))))))))))))))))))))):=by kernel_rfl
theorem yYe (s:ByteArray)(Q:Value→Prop):zBi Tryz.prog (cwC (LpT 0 3)) (oxJ Tryz.prog 28 false [46,54] [70,81,90] []) 9 (zAd Tryz.f63) (zAn [.string s] 8) (zAo [] 64) (zA7 Tryz.prog Tryz.f63 fun v _=>Q v)=((yh s fun x1=>(((ya s x1).data.toList=[])∧((zBx (ya s x1,false)=some ([],true))∧(yo s x1 ((((yb s x1).data.toList≠[])∧(∃ x2:Int,(∃ x3:Int,(∃ x4:Int,((zBx (yb s x1,true)=some ([x2,x3,x4],true))∧((true=true)∧((true=true)∧((true=true)∧((true=true)∧((true=true)∧((true=true)∧((true=true)∧((true=true)∧(yt (↑8:Int) (yq Q 0 0 0 0 0 x2 x3 x4))))))))))))))))))))):=by kernel_rfl
theorem yYf (s:ByteArray)(Q:Value→Prop):zBi Tryz.prog (cwC (LpT 0 4)) (oxJ Tryz.prog 28 false [46,54] [70,81,90] []) 9 (zAd Tryz.f63) (zAn [.string s] 8) (zAo [] 64) (zA7 Tryz.prog Tryz.f63 fun v _=>Q v)=((yh s fun x1=>(((ya s x1).data.toList=[])∧((zBx (ya s x1,false)=some ([],true))∧(yo s x1 ((((yb s x1).data.toList≠[])∧(∃ x2:Int,(∃ x3:Int,(∃ x4:Int,(∃ x5:Int,((zBx (yb s x1,true)=some ([x2,x3,x4,x5],true))∧((true=true)∧((true=true)∧((true=true)∧((true=true)∧((true=true)∧((true=true)∧((true=true)∧(yt (↑8:Int) (yq Q 0 0 0 0 x2 x3 x4 x5))))))))))))))))))))):=by kernel_rfl
theorem yYg (s:ByteArray)(Q:Value→Prop):zBi Tryz.prog (cwC (LpT 0 5)) (oxJ Tryz.prog 28 false [46,54] [70,81,90] []) 9 (zAd Tryz.f63) (zAn [.string s] 8) (zAo [] 64) (zA7 Tryz.prog Tryz.f63 fun v _=>Q v)=((yh s fun x1=>(((ya s x1).data.toList=[])∧((zBx (ya s x1,false)=some ([],true))∧(yo s x1 ((((yb s x1).data.toList≠[])∧(∃ x2:Int,(∃ x3:Int,(∃ x4:Int,(∃ x5:Int,(∃ x6:Int,((zBx (yb s x1,true)=some ([x2,x3,x4,x5,x6],true))∧((true=true)∧((true=true)∧((true=true)∧((true=true)∧((true=true)∧((true=true)∧(yt (↑8:Int) (yq Q 0 0 0 x2 x3 x4 x5 x6))))))))))))))))))))):=by kernel_rfl
theorem yYh (s:ByteArray)(Q:Value→Prop):zBi Tryz.prog (cwC (LpT 0 6)) (oxJ Tryz.prog 28 false [46,54] [70,81,90] []) 9 (zAd Tryz.f63) (zAn [.string s] 8) (zAo [] 64) (zA7 Tryz.prog Tryz.f63 fun v _=>Q v)=((yh s fun x1=>(((ya s x1).data.toList=[])∧((zBx (ya s x1,false)=some ([],true))∧(yo s x1 ((((yb s x1).data.toList≠[])∧(∃ x2:Int,(∃ x3:Int,(∃ x4:Int,(∃ x5:Int,(∃ x6:Int,(∃ x7:Int,((zBx (yb s x1,true)=some ([x2,x3,x4,x5,x6,x7],true))∧((true=true)∧((true=true)∧((true=true)∧((true=true)∧((true=true)∧(yt (↑8:Int) (yq Q 0 0 x2 x3 x4 x5 x6 x7))))))))))))))))))))):=by kernel_rfl
theorem yYi (s:ByteArray)(Q:Value→Prop):zBi Tryz.prog (cwC (LpT 0 7)) (oxJ Tryz.prog 28 false [46,54] [70,81,90] []) 9 (zAd Tryz.f63) (zAn [.string s] 8) (zAo [] 64) (zA7 Tryz.prog Tryz.f63 fun v _=>Q v)=((yh s fun x1=>(((ya s x1).data.toList=[])∧((zBx (ya s x1,false)=some ([],true))∧(yo s x1 ((((yb s x1).data.toList≠[])∧(∃ x2:Int,(∃ x3:Int,(∃ x4:Int,(∃ x5:Int,(∃ x6:Int,(∃ x7:Int,(∃ x8:Int,((zBx (yb s x1,true)=some ([x2,x3,x4,x5,x6,x7,x8],true))∧((true=true)∧((true=true)∧((true=true)∧((true=true)∧(yt (↑8:Int) (yq Q 0 x2 x3 x4 x5 x6 x7 x8))))))))))))))))))))):=by kernel_rfl
theorem yYj (s:ByteArray)(Q:Value→Prop):zBi Tryz.prog (cwC (LpT 1 0)) (oxJ Tryz.prog 28 false [46,54] [70,81,90] []) 9 (zAd Tryz.f63) (zAn [.string s] 8) (zAo [] 64) (zA7 Tryz.prog Tryz.f63 fun v _=>Q v)=((yh s fun x1=>(((ya s x1).data.toList≠[])∧(∃ x2:Int,((zBx (ya s x1,false)=some ([x2],true))∧(yo s x1 ((((yb s x1).data.toList=[])∧((zBx (yb s x1,true)=some ([],true))∧((true=true)∧((true=true)∧((true=true)∧((true=true)∧((true=true)∧((true=true)∧((true=true)∧((true=true)∧((true=true)∧((true=true)∧(yt (↑8:Int) (yq Q x2 0 0 0 0 0 0 0))))))))))))))))))))):=by kernel_rfl
theorem yYk (s:ByteArray)(Q:Value→Prop):zBi Tryz.prog (cwC (LpT 1 1)) (oxJ Tryz.prog 28 false [46,54] [70,81,90] []) 9 (zAd Tryz.f63) (zAn [.string s] 8) (zAo [] 64) (zA7 Tryz.prog Tryz.f63 fun v _=>Q v)=((yh s fun x1=>(((ya s x1).data.toList≠[])∧(∃ x2:Int,((zBx (ya s x1,false)=some ([x2],true))∧(yo s x1 ((((yb s x1).data.toList≠[])∧(∃ x3:Int,((zBx (yb s x1,true)=some ([x3],true))∧((true=true)∧((true=true)∧((true=true)∧((true=true)∧((true=true)∧((true=true)∧((true=true)∧((true=true)∧((true=true)∧(yt (↑8:Int) (yq Q x2 0 0 0 0 0 0 x3))))))))))))))))))))):=by kernel_rfl
theorem yYl (s:ByteArray)(Q:Value→Prop):zBi Tryz.prog (cwC (LpT 1 2)) (oxJ Tryz.prog 28 false [46,54] [70,81,90] []) 9 (zAd Tryz.f63) (zAn [.string s] 8) (zAo [] 64) (zA7 Tryz.prog Tryz.f63 fun v _=>Q v)=((yh s fun x1=>(((ya s x1).data.toList≠[])∧(∃ x2:Int,((zBx (ya s x1,false)=some ([x2],true))∧(yo s x1 ((((yb s x1).data.toList≠[])∧(∃ x3:Int,(∃ x4:Int,((zBx (yb s x1,true)=some ([x3,x4],true))∧((true=true)∧((true=true)∧((true=true)∧((true=true)∧((true=true)∧((true=true)∧((true=true)∧((true=true)∧(yt (↑8:Int) (yq Q x2 0 0 0 0 0 x3 x4))))))))))))))))))))):=by kernel_rfl
theorem yYm (s:ByteArray)(Q:Value→Prop):zBi Tryz.prog (cwC (LpT 1 3)) (oxJ Tryz.prog 28 false [46,54] [70,81,90] []) 9 (zAd Tryz.f63) (zAn [.string s] 8) (zAo [] 64) (zA7 Tryz.prog Tryz.f63 fun v _=>Q v)=((yh s fun x1=>(((ya s x1).data.toList≠[])∧(∃ x2:Int,((zBx (ya s x1,false)=some ([x2],true))∧(yo s x1 ((((yb s x1).data.toList≠[])∧(∃ x3:Int,(∃ x4:Int,(∃ x5:Int,((zBx (yb s x1,true)=some ([x3,x4,x5],true))∧((true=true)∧((true=true)∧((true=true)∧((true=true)∧((true=true)∧((true=true)∧((true=true)∧(yt (↑8:Int) (yq Q x2 0 0 0 0 x3 x4 x5))))))))))))))))))))):=by kernel_rfl
theorem yYn (s:ByteArray)(Q:Value→Prop):zBi Tryz.prog (cwC (LpT 1 4)) (oxJ Tryz.prog 28 false [46,54] [70,81,90] []) 9 (zAd Tryz.f63) (zAn [.string s] 8) (zAo [] 64) (zA7 Tryz.prog Tryz.f63 fun v _=>Q v)=((yh s fun x1=>(((ya s x1).data.toList≠[])∧(∃ x2:Int,((zBx (ya s x1,false)=some ([x2],true))∧(yo s x1 ((((yb s x1).data.toList≠[])∧(∃ x3:Int,(∃ x4:Int,(∃ x5:Int,(∃ x6:Int,((zBx (yb s x1,true)=some ([x3,x4,x5,x6],true))∧((true=true)∧((true=true)∧((true=true)∧((true=true)∧((true=true)∧((true=true)∧(yt (↑8:Int) (yq Q x2 0 0 0 x3 x4 x5 x6))))))))))))))))))))):=by kernel_rfl
theorem yYo (s:ByteArray)(Q:Value→Prop):zBi Tryz.prog (cwC (LpT 1 5)) (oxJ Tryz.prog 28 false [46,54] [70,81,90] []) 9 (zAd Tryz.f63) (zAn [.string s] 8) (zAo [] 64) (zA7 Tryz.prog Tryz.f63 fun v _=>Q v)=((yh s fun x1=>(((ya s x1).data.toList≠[])∧(∃ x2:Int,((zBx (ya s x1,false)=some ([x2],true))∧(yo s x1 ((((yb s x1).data.toList≠[])∧(∃ x3:Int,(∃ x4:Int,(∃ x5:Int,(∃ x6:Int,(∃ x7:Int,((zBx (yb s x1,true)=some ([x3,x4,x5,x6,x7],true))∧((true=true)∧((true=true)∧((true=true)∧((true=true)∧((true=true)∧(yt (↑8:Int) (yq Q x2 0 0 x3 x4 x5 x6 x7))))))))))))))))))))):=by kernel_rfl
theorem yYp (s:ByteArray)(Q:Value→Prop):zBi Tryz.prog (cwC (LpT 1 6)) (oxJ Tryz.prog 28 false [46,54] [70,81,90] []) 9 (zAd Tryz.f63) (zAn [.string s] 8) (zAo [] 64) (zA7 Tryz.prog Tryz.f63 fun v _=>Q v)=((yh s fun x1=>(((ya s x1).data.toList≠[])∧(∃ x2:Int,((zBx (ya s x1,false)=some ([x2],true))∧(yo s x1 ((((yb s x1).data.toList≠[])∧(∃ x3:Int,(∃ x4:Int,(∃ x5:Int,(∃ x6:Int,(∃ x7:Int,(∃ x8:Int,((zBx (yb s x1,true)=some ([x3,x4,x5,x6,x7,x8],true))∧((true=true)∧((true=true)∧((true=true)∧((true=true)∧(yt (↑8:Int) (yq Q x2 0 x3 x4 x5 x6 x7 x8))))))))))))))))))))):=by kernel_rfl
theorem yYq (s:ByteArray)(Q:Value→Prop):zBi Tryz.prog (cwC (LpT 2 0)) (oxJ Tryz.prog 28 false [46,54] [70,81,90] []) 9 (zAd Tryz.f63) (zAn [.string s] 8) (zAo [] 64) (zA7 Tryz.prog Tryz.f63 fun v _=>Q v)=((yh s fun x1=>(((ya s x1).data.toList≠[])∧(∃ x2:Int,(∃ x3:Int,((zBx (ya s x1,false)=some ([x2,x3],true))∧(yo s x1 ((((yb s x1).data.toList=[])∧((zBx (yb s x1,true)=some ([],true))∧((true=true)∧((true=true)∧((true=true)∧((true=true)∧((true=true)∧((true=true)∧((true=true)∧((true=true)∧((true=true)∧(yt (↑8:Int) (yq Q x2 x3 0 0 0 0 0 0))))))))))))))))))))):=by kernel_rfl
theorem yYr (s:ByteArray)(Q:Value→Prop):zBi Tryz.prog (cwC (LpT 2 1)) (oxJ Tryz.prog 28 false [46,54] [70,81,90] []) 9 (zAd Tryz.f63) (zAn [.string s] 8) (zAo [] 64) (zA7 Tryz.prog Tryz.f63 fun v _=>Q v)=((yh s fun x1=>(((ya s x1).data.toList≠[])∧(∃ x2:Int,(∃ x3:Int,((zBx (ya s x1,false)=some ([x2,x3],true))∧(yo s x1 ((((yb s x1).data.toList≠[])∧(∃ x4:Int,((zBx (yb s x1,true)=some ([x4],true))∧((true=true)∧((true=true)∧((true=true)∧((true=true)∧((true=true)∧((true=true)∧((true=true)∧((true=true)∧(yt (↑8:Int) (yq Q x2 x3 0 0 0 0 0 x4))))))))))))))))))))):=by kernel_rfl
theorem yYs (s:ByteArray)(Q:Value→Prop):zBi Tryz.prog (cwC (LpT 2 2)) (oxJ Tryz.prog 28 false [46,54] [70,81,90] []) 9 (zAd Tryz.f63) (zAn [.string s] 8) (zAo [] 64) (zA7 Tryz.prog Tryz.f63 fun v _=>Q v)=((yh s fun x1=>(((ya s x1).data.toList≠[])∧(∃ x2:Int,(∃ x3:Int,((zBx (ya s x1,false)=some ([x2,x3],true))∧(yo s x1 ((((yb s x1).data.toList≠[])∧(∃ x4:Int,(∃ x5:Int,((zBx (yb s x1,true)=some ([x4,x5],true))∧((true=true)∧((true=true)∧((true=true)∧((true=true)∧((true=true)∧((true=true)∧((true=true)∧(yt (↑8:Int) (yq Q x2 x3 0 0 0 0 x4 x5))))))))))))))))))))):=by kernel_rfl
theorem yYt (s:ByteArray)(Q:Value→Prop):zBi Tryz.prog (cwC (LpT 2 3)) (oxJ Tryz.prog 28 false [46,54] [70,81,90] []) 9 (zAd Tryz.f63) (zAn [.string s] 8) (zAo [] 64) (zA7 Tryz.prog Tryz.f63 fun v _=>Q v)=((yh s fun x1=>(((ya s x1).data.toList≠[])∧(∃ x2:Int,(∃ x3:Int,((zBx (ya s x1,false)=some ([x2,x3],true))∧(yo s x1 ((((yb s x1).data.toList≠[])∧(∃ x4:Int,(∃ x5:Int,(∃ x6:Int,((zBx (yb s x1,true)=some ([x4,x5,x6],true))∧((true=true)∧((true=true)∧((true=true)∧((true=true)∧((true=true)∧((true=true)∧(yt (↑8:Int) (yq Q x2 x3 0 0 0 x4 x5 x6))))))))))))))))))))):=by kernel_rfl
theorem yYu (s:ByteArray)(Q:Value→Prop):zBi Tryz.prog (cwC (LpT 2 4)) (oxJ Tryz.prog 28 false [46,54] [70,81,90] []) 9 (zAd Tryz.f63) (zAn [.string s] 8) (zAo [] 64) (zA7 Tryz.prog Tryz.f63 fun v _=>Q v)=((yh s fun x1=>(((ya s x1).data.toList≠[])∧(∃ x2:Int,(∃ x3:Int,((zBx (ya s x1,false)=some ([x2,x3],true))∧(yo s x1 ((((yb s x1).data.toList≠[])∧(∃ x4:Int,(∃ x5:Int,(∃ x6:Int,(∃ x7:Int,((zBx (yb s x1,true)=some ([x4,x5,x6,x7],true))∧((true=true)∧((true=true)∧((true=true)∧((true=true)∧((true=true)∧(yt (↑8:Int) (yq Q x2 x3 0 0 x4 x5 x6 x7))))))))))))))))))))):=by kernel_rfl
theorem yYv (s:ByteArray)(Q:Value→Prop):zBi Tryz.prog (cwC (LpT 2 5)) (oxJ Tryz.prog 28 false [46,54] [70,81,90] []) 9 (zAd Tryz.f63) (zAn [.string s] 8) (zAo [] 64) (zA7 Tryz.prog Tryz.f63 fun v _=>Q v)=((yh s fun x1=>(((ya s x1).data.toList≠[])∧(∃ x2:Int,(∃ x3:Int,((zBx (ya s x1,false)=some ([x2,x3],true))∧(yo s x1 ((((yb s x1).data.toList≠[])∧(∃ x4:Int,(∃ x5:Int,(∃ x6:Int,(∃ x7:Int,(∃ x8:Int,((zBx (yb s x1,true)=some ([x4,x5,x6,x7,x8],true))∧((true=true)∧((true=true)∧((true=true)∧((true=true)∧(yt (↑8:Int) (yq Q x2 x3 0 x4 x5 x6 x7 x8))))))))))))))))))))):=by kernel_rfl
theorem yYw (s:ByteArray)(Q:Value→Prop):zBi Tryz.prog (cwC (LpT 3 0)) (oxJ Tryz.prog 28 false [46,54] [70,81,90] []) 9 (zAd Tryz.f63) (zAn [.string s] 8) (zAo [] 64) (zA7 Tryz.prog Tryz.f63 fun v _=>Q v)=((yh s fun x1=>(((ya s x1).data.toList≠[])∧(∃ x2:Int,(∃ x3:Int,(∃ x4:Int,((zBx (ya s x1,false)=some ([x2,x3,x4],true))∧(yo s x1 ((((yb s x1).data.toList=[])∧((zBx (yb s x1,true)=some ([],true))∧((true=true)∧((true=true)∧((true=true)∧((true=true)∧((true=true)∧((true=true)∧((true=true)∧((true=true)∧(yt (↑8:Int) (yq Q x2 x3 x4 0 0 0 0 0))))))))))))))))))))):=by kernel_rfl
theorem yYx (s:ByteArray)(Q:Value→Prop):zBi Tryz.prog (cwC (LpT 3 1)) (oxJ Tryz.prog 28 false [46,54] [70,81,90] []) 9 (zAd Tryz.f63) (zAn [.string s] 8) (zAo [] 64) (zA7 Tryz.prog Tryz.f63 fun v _=>Q v)=((yh s fun x1=>(((ya s x1).data.toList≠[])∧(∃ x2:Int,(∃ x3:Int,(∃ x4:Int,((zBx (ya s x1,false)=some ([x2,x3,x4],true))∧(yo s x1 ((((yb s x1).data.toList≠[])∧(∃ x5:Int,((zBx (yb s x1,true)=some ([x5],true))∧((true=true)∧((true=true)∧((true=true)∧((true=true)∧((true=true)∧((true=true)∧((true=true)∧(yt (↑8:Int) (yq Q x2 x3 x4 0 0 0 0 x5))))))))))))))))))))):=by kernel_rfl
theorem yYy (s:ByteArray)(Q:Value→Prop):zBi Tryz.prog (cwC (LpT 3 2)) (oxJ Tryz.prog 28 false [46,54] [70,81,90] []) 9 (zAd Tryz.f63) (zAn [.string s] 8) (zAo [] 64) (zA7 Tryz.prog Tryz.f63 fun v _=>Q v)=((yh s fun x1=>(((ya s x1).data.toList≠[])∧(∃ x2:Int,(∃ x3:Int,(∃ x4:Int,((zBx (ya s x1,false)=some ([x2,x3,x4],true))∧(yo s x1 ((((yb s x1).data.toList≠[])∧(∃ x5:Int,(∃ x6:Int,((zBx (yb s x1,true)=some ([x5,x6],true))∧((true=true)∧((true=true)∧((true=true)∧((true=true)∧((true=true)∧((true=true)∧(yt (↑8:Int) (yq Q x2 x3 x4 0 0 0 x5 x6))))))))))))))))))))):=by kernel_rfl
theorem yYz (s:ByteArray)(Q:Value→Prop):zBi Tryz.prog (cwC (LpT 3 3)) (oxJ Tryz.prog 28 false [46,54] [70,81,90] []) 9 (zAd Tryz.f63) (zAn [.string s] 8) (zAo [] 64) (zA7 Tryz.prog Tryz.f63 fun v _=>Q v)=((yh s fun x1=>(((ya s x1).data.toList≠[])∧(∃ x2:Int,(∃ x3:Int,(∃ x4:Int,((zBx (ya s x1,false)=some ([x2,x3,x4],true))∧(yo s x1 ((((yb s x1).data.toList≠[])∧(∃ x5:Int,(∃ x6:Int,(∃ x7:Int,((zBx (yb s x1,true)=some ([x5,x6,x7],true))∧((true=true)∧((true=true)∧((true=true)∧((true=true)∧((true=true)∧(yt (↑8:Int) (yq Q x2 x3 x4 0 0 x5 x6 x7))))))))))))))))))))):=by kernel_rfl
theorem yY0 (s:ByteArray)(Q:Value→Prop):zBi Tryz.prog (cwC (LpT 3 4)) (oxJ Tryz.prog 28 false [46,54] [70,81,90] []) 9 (zAd Tryz.f63) (zAn [.string s] 8) (zAo [] 64) (zA7 Tryz.prog Tryz.f63 fun v _=>Q v)=((yh s fun x1=>(((ya s x1).data.toList≠[])∧(∃ x2:Int,(∃ x3:Int,(∃ x4:Int,((zBx (ya s x1,false)=some ([x2,x3,x4],true))∧(yo s x1 ((((yb s x1).data.toList≠[])∧(∃ x5:Int,(∃ x6:Int,(∃ x7:Int,(∃ x8:Int,((zBx (yb s x1,true)=some ([x5,x6,x7,x8],true))∧((true=true)∧((true=true)∧((true=true)∧((true=true)∧(yt (↑8:Int) (yq Q x2 x3 x4 0 x5 x6 x7 x8))))))))))))))))))))):=by kernel_rfl
theorem yY1 (s:ByteArray)(Q:Value→Prop):zBi Tryz.prog (cwC (LpT 4 0)) (oxJ Tryz.prog 28 false [46,54] [70,81,90] []) 9 (zAd Tryz.f63) (zAn [.string s] 8) (zAo [] 64) (zA7 Tryz.prog Tryz.f63 fun v _=>Q v)=((yh s fun x1=>(((ya s x1).data.toList≠[])∧(∃ x2:Int,(∃ x3:Int,(∃ x4:Int,(∃ x5:Int,((zBx (ya s x1,false)=some ([x2,x3,x4,x5],true))∧(yo s x1 ((((yb s x1).data.toList=[])∧((zBx (yb s x1,true)=some ([],true))∧((true=true)∧((true=true)∧((true=true)∧((true=true)∧((true=true)∧((true=true)∧((true=true)∧(yt (↑8:Int) (yq Q x2 x3 x4 x5 0 0 0 0))))))))))))))))))))):=by kernel_rfl
theorem yY2 (s:ByteArray)(Q:Value→Prop):zBi Tryz.prog (cwC (LpT 4 1)) (oxJ Tryz.prog 28 false [46,54] [70,81,90] []) 9 (zAd Tryz.f63) (zAn [.string s] 8) (zAo [] 64) (zA7 Tryz.prog Tryz.f63 fun v _=>Q v)=((yh s fun x1=>(((ya s x1).data.toList≠[])∧(∃ x2:Int,(∃ x3:Int,(∃ x4:Int,(∃ x5:Int,((zBx (ya s x1,false)=some ([x2,x3,x4,x5],true))∧(yo s x1 ((((yb s x1).data.toList≠[])∧(∃ x6:Int,((zBx (yb s x1,true)=some ([x6],true))∧((true=true)∧((true=true)∧((true=true)∧((true=true)∧((true=true)∧((true=true)∧(yt (↑8:Int) (yq Q x2 x3 x4 x5 0 0 0 x6))))))))))))))))))))):=by kernel_rfl
theorem yY3 (s:ByteArray)(Q:Value→Prop):zBi Tryz.prog (cwC (LpT 4 2)) (oxJ Tryz.prog 28 false [46,54] [70,81,90] []) 9 (zAd Tryz.f63) (zAn [.string s] 8) (zAo [] 64) (zA7 Tryz.prog Tryz.f63 fun v _=>Q v)=((yh s fun x1=>(((ya s x1).data.toList≠[])∧(∃ x2:Int,(∃ x3:Int,(∃ x4:Int,(∃ x5:Int,((zBx (ya s x1,false)=some ([x2,x3,x4,x5],true))∧(yo s x1 ((((yb s x1).data.toList≠[])∧(∃ x6:Int,(∃ x7:Int,((zBx (yb s x1,true)=some ([x6,x7],true))∧((true=true)∧((true=true)∧((true=true)∧((true=true)∧((true=true)∧(yt (↑8:Int) (yq Q x2 x3 x4 x5 0 0 x6 x7))))))))))))))))))))):=by kernel_rfl
theorem yY4 (s:ByteArray)(Q:Value→Prop):zBi Tryz.prog (cwC (LpT 4 3)) (oxJ Tryz.prog 28 false [46,54] [70,81,90] []) 9 (zAd Tryz.f63) (zAn [.string s] 8) (zAo [] 64) (zA7 Tryz.prog Tryz.f63 fun v _=>Q v)=((yh s fun x1=>(((ya s x1).data.toList≠[])∧(∃ x2:Int,(∃ x3:Int,(∃ x4:Int,(∃ x5:Int,((zBx (ya s x1,false)=some ([x2,x3,x4,x5],true))∧(yo s x1 ((((yb s x1).data.toList≠[])∧(∃ x6:Int,(∃ x7:Int,(∃ x8:Int,((zBx (yb s x1,true)=some ([x6,x7,x8],true))∧((true=true)∧((true=true)∧((true=true)∧((true=true)∧(yt (↑8:Int) (yq Q x2 x3 x4 x5 0 x6 x7 x8))))))))))))))))))))):=by kernel_rfl
theorem yY5 (s:ByteArray)(Q:Value→Prop):zBi Tryz.prog (cwC (LpT 5 0)) (oxJ Tryz.prog 28 false [46,54] [70,81,90] []) 9 (zAd Tryz.f63) (zAn [.string s] 8) (zAo [] 64) (zA7 Tryz.prog Tryz.f63 fun v _=>Q v)=((yh s fun x1=>(((ya s x1).data.toList≠[])∧(∃ x2:Int,(∃ x3:Int,(∃ x4:Int,(∃ x5:Int,(∃ x6:Int,((zBx (ya s x1,false)=some ([x2,x3,x4,x5,x6],true))∧(yo s x1 ((((yb s x1).data.toList=[])∧((zBx (yb s x1,true)=some ([],true))∧((true=true)∧((true=true)∧((true=true)∧((true=true)∧((true=true)∧((true=true)∧(yt (↑8:Int) (yq Q x2 x3 x4 x5 x6 0 0 0))))))))))))))))))))):=by kernel_rfl
theorem yY6 (s:ByteArray)(Q:Value→Prop):zBi Tryz.prog (cwC (LpT 5 1)) (oxJ Tryz.prog 28 false [46,54] [70,81,90] []) 9 (zAd Tryz.f63) (zAn [.string s] 8) (zAo [] 64) (zA7 Tryz.prog Tryz.f63 fun v _=>Q v)=((yh s fun x1=>(((ya s x1).data.toList≠[])∧(∃ x2:Int,(∃ x3:Int,(∃ x4:Int,(∃ x5:Int,(∃ x6:Int,((zBx (ya s x1,false)=some ([x2,x3,x4,x5,x6],true))∧(yo s x1 ((((yb s x1).data.toList≠[])∧(∃ x7:Int,((zBx (yb s x1,true)=some ([x7],true))∧((true=true)∧((true=true)∧((true=true)∧((true=true)∧((true=true)∧(yt (↑8:Int) (yq Q x2 x3 x4 x5 x6 0 0 x7))))))))))))))))))))):=by kernel_rfl
theorem yY7 (s:ByteArray)(Q:Value→Prop):zBi Tryz.prog (cwC (LpT 5 2)) (oxJ Tryz.prog 28 false [46,54] [70,81,90] []) 9 (zAd Tryz.f63) (zAn [.string s] 8) (zAo [] 64) (zA7 Tryz.prog Tryz.f63 fun v _=>Q v)=((yh s fun x1=>(((ya s x1).data.toList≠[])∧(∃ x2:Int,(∃ x3:Int,(∃ x4:Int,(∃ x5:Int,(∃ x6:Int,((zBx (ya s x1,false)=some ([x2,x3,x4,x5,x6],true))∧(yo s x1 ((((yb s x1).data.toList≠[])∧(∃ x7:Int,(∃ x8:Int,((zBx (yb s x1,true)=some ([x7,x8],true))∧((true=true)∧((true=true)∧((true=true)∧((true=true)∧(yt (↑8:Int) (yq Q x2 x3 x4 x5 x6 0 x7 x8))))))))))))))))))))):=by kernel_rfl
theorem yY8 (s:ByteArray)(Q:Value→Prop):zBi Tryz.prog (cwC (LpT 6 0)) (oxJ Tryz.prog 28 false [46,54] [70,81,90] []) 9 (zAd Tryz.f63) (zAn [.string s] 8) (zAo [] 64) (zA7 Tryz.prog Tryz.f63 fun v _=>Q v)=((yh s fun x1=>(((ya s x1).data.toList≠[])∧(∃ x2:Int,(∃ x3:Int,(∃ x4:Int,(∃ x5:Int,(∃ x6:Int,(∃ x7:Int,((zBx (ya s x1,false)=some ([x2,x3,x4,x5,x6,x7],true))∧(yo s x1 ((((yb s x1).data.toList=[])∧((zBx (yb s x1,true)=some ([],true))∧((true=true)∧((true=true)∧((true=true)∧((true=true)∧((true=true)∧(yt (↑8:Int) (yq Q x2 x3 x4 x5 x6 x7 0 0))))))))))))))))))))):=by kernel_rfl
theorem yY9 (s:ByteArray)(Q:Value→Prop):zBi Tryz.prog (cwC (LpT 6 1)) (oxJ Tryz.prog 28 false [46,54] [70,81,90] []) 9 (zAd Tryz.f63) (zAn [.string s] 8) (zAo [] 64) (zA7 Tryz.prog Tryz.f63 fun v _=>Q v)=((yh s fun x1=>(((ya s x1).data.toList≠[])∧(∃ x2:Int,(∃ x3:Int,(∃ x4:Int,(∃ x5:Int,(∃ x6:Int,(∃ x7:Int,((zBx (ya s x1,false)=some ([x2,x3,x4,x5,x6,x7],true))∧(yo s x1 ((((yb s x1).data.toList≠[])∧(∃ x8:Int,((zBx (yb s x1,true)=some ([x8],true))∧((true=true)∧((true=true)∧((true=true)∧((true=true)∧(yt (↑8:Int) (yq Q x2 x3 x4 x5 x6 x7 0 x8))))))))))))))))))))):=by kernel_rfl
theorem yZa (s:ByteArray)(Q:Value→Prop):zBi Tryz.prog (cwC (LpT 7 0)) (oxJ Tryz.prog 28 false [46,54] [70,81,90] []) 9 (zAd Tryz.f63) (zAn [.string s] 8) (zAo [] 64) (zA7 Tryz.prog Tryz.f63 fun v _=>Q v)=((yh s fun x1=>(((ya s x1).data.toList≠[])∧(∃ x2:Int,(∃ x3:Int,(∃ x4:Int,(∃ x5:Int,(∃ x6:Int,(∃ x7:Int,(∃ x8:Int,((zBx (ya s x1,false)=some ([x2,x3,x4,x5,x6,x7,x8],true))∧(yo s x1 ((((yb s x1).data.toList=[])∧((zBx (yb s x1,true)=some ([],true))∧((true=true)∧((true=true)∧((true=true)∧((true=true)∧(yt (↑8:Int) (yq Q x2 x3 x4 x5 x6 x7 x8 0))))))))))))))))))))):=by kernel_rfl
end Go.Proofs.YtfnacgojmdbjmaaGreatDoor
namespace Go.Proofs.YtfnacgojmdbjmaaGreatDoor
open Go.Det Go.RowKit YtfnacgojmdbjmaaGreatDoorW.PrintWords
theorem zA4 {x:ByteArray}{l b:Bool}{r:List Int}(hr:r≠[])(h:zBx (x,l)=some (r,b)):x.data.toList≠[]:=by
 intro hx
 obtain⟨⟨t⟩⟩:=x
 have:t=[]:=hx
 subst this
 have:=yMb h
 cases this
 exact hr rfl
theorem zD5 {x:ByteArray}{l:Bool}(hs:x.size≤200)(h:zBx (x,l)=some ([],true)):x.data.toList=[]:=by
 obtain⟨r,r',e1,e2,e3⟩:=zOn hs l (k:=7000) (by omega)
 have e2':zBx (x,l)=some r':=e2
 rw[h] at e2'
 cases e2'
 have h2:r.2=true:=e3.1.symm
 have:=e3.2 h2
 rw[← this] at e1
 exact(zF9 e1).2 rfl rfl
def zFc (cw:Cw)(s:ByteArray)(y:Int×Int×Int×Bool):Prop:=zAx Tryz.prog cw (zAd Tryz.f63) (zAn [.string s] 8) (zAo [] 64) (zA7 Tryz.prog Tryz.f63 fun v' _=>v'=yC5 y)
structure ParH (s:ByteArray) (j:Int) (a b:List Int):Prop where
 f:∃ n,zI7 s=some (n,false)
 jo:zI8 s=some j
 lo:0≤j
 hi:j≤(s.size:Int)
 w0:0≤IntKind.wrap IntKind.i64 (j+2)
 w1:IntKind.wrap IntKind.i64 (j+2)≤(s.size:Int)
 a:zBx (ya s j,false)=some (a,true)
 b:zBx (yb s j,true)=some (b,true)
 sa:(ya s j).size≤200
 sb:(yb s j).size≤200
theorem ParH.c {s:ByteArray}{j:Int}{a b:List Int}(k:ParH s j a b):zAl (j < 0)=false:=zDq.2 (by have:=k.lo;omega)
theorem zCo {h t:Nat}{s:ByteArray}{y:Int×Int×Int×Bool}(k:zBi Tryz.prog (cwC (LpT h t)) (oxJ Tryz.prog 28 false [46,54] [70,81,90] []) 9 (zAd Tryz.f63) (zAn [.string s] 8) (zAo [] 64) (zA7 Tryz.prog Tryz.f63 fun v' _=>v'=yC5 y)):zFc (cwC (LpT h t)) s y:=
 zAv (zA0 _) (zOp _ _ _ _ _) (n:=9) (by kernel_rfl) k
variable {s:ByteArray} {j:Int}
theorem yZb (k:ParH s j [] []):zFc (cwC (LpT 0 0)) s (zCm [] []):=by
 obtain⟨n,hn⟩:=k.f
 refine zCo ((yYb s _).mpr ⟨n,hn,j,k.jo,rfl,k.c,k.lo,k.hi,zD5 k.sa k.a,k.a,k.w0,k.w1,zD5 k.sb k.b,k.b,?_⟩)
 repeat'(first|rfl|decide|refine And.intro ?_ ?_)
theorem yZc {b0:Int}(k:ParH s j [] [b0]):zFc (cwC (LpT 0 1)) s (zCm [] [b0]):=by
 obtain⟨n,hn⟩:=k.f
 refine zCo ((yYc s _).mpr ⟨n,hn,j,k.jo,rfl,k.c,k.lo,k.hi,zD5 k.sa k.a,k.a,k.w0,k.w1,zA4 (by simp) k.b,b0,k.b,?_⟩)
 repeat'(first|rfl|decide|refine And.intro ?_ ?_)
theorem yZd {b0 b1:Int}(k:ParH s j [] [b0,b1]):zFc (cwC (LpT 0 2)) s (zCm [] [b0,b1]):=by
 obtain⟨n,hn⟩:=k.f
 refine zCo ((yYd s _).mpr ⟨n,hn,j,k.jo,rfl,k.c,k.lo,k.hi,zD5 k.sa k.a,k.a,k.w0,k.w1,zA4 (by simp) k.b,b0,b1,k.b,?_⟩)
 repeat'(first|rfl|decide|refine And.intro ?_ ?_)
theorem yZe {b0 b1 b2:Int}(k:ParH s j [] [b0,b1,b2]):zFc (cwC (LpT 0 3)) s (zCm [] [b0,b1,b2]):=by
 obtain⟨n,hn⟩:=k.f
 refine zCo ((yYe s _).mpr ⟨n,hn,j,k.jo,rfl,k.c,k.lo,k.hi,zD5 k.sa k.a,k.a,k.w0,k.w1,zA4 (by simp) k.b,b0,b1,b2,k.b,?_⟩)
 repeat'(first|rfl|decide|refine And.intro ?_ ?_)
theorem yZf {b0 b1 b2 b3:Int}(k:ParH s j [] [b0,b1,b2,b3]):zFc (cwC (LpT 0 4)) s (zCm [] [b0,b1,b2,b3]):=by
 obtain⟨n,hn⟩:=k.f
 refine zCo ((yYf s _).mpr ⟨n,hn,j,k.jo,rfl,k.c,k.lo,k.hi,zD5 k.sa k.a,k.a,k.w0,k.w1,zA4 (by simp) k.b,b0,b1,b2,b3,k.b,?_⟩)
 repeat'(first|rfl|decide|refine And.intro ?_ ?_)
theorem yZg {b0 b1 b2 b3 b4:Int}(k:ParH s j [] [b0,b1,b2,b3,b4]):zFc (cwC (LpT 0 5)) s (zCm [] [b0,b1,b2,b3,b4]):=by
 obtain⟨n,hn⟩:=k.f
 refine zCo ((yYg s _).mpr ⟨n,hn,j,k.jo,rfl,k.c,k.lo,k.hi,zD5 k.sa k.a,k.a,k.w0,k.w1,zA4 (by simp) k.b,b0,b1,b2,b3,b4,k.b,?_⟩)
 repeat'(first|rfl|decide|refine And.intro ?_ ?_)
theorem yZh {b0 b1 b2 b3 b4 b5:Int}(k:ParH s j [] [b0,b1,b2,b3,b4,b5]):zFc (cwC (LpT 0 6)) s (zCm [] [b0,b1,b2,b3,b4,b5]):=by
 obtain⟨n,hn⟩:=k.f
 refine zCo ((yYh s _).mpr ⟨n,hn,j,k.jo,rfl,k.c,k.lo,k.hi,zD5 k.sa k.a,k.a,k.w0,k.w1,zA4 (by simp) k.b,b0,b1,b2,b3,b4,b5,k.b,?_⟩)
 repeat'(first|rfl|decide|refine And.intro ?_ ?_)
theorem yZi {b0 b1 b2 b3 b4 b5 b6:Int}(k:ParH s j [] [b0,b1,b2,b3,b4,b5,b6]):zFc (cwC (LpT 0 7)) s (zCm [] [b0,b1,b2,b3,b4,b5,b6]):=by
 obtain⟨n,hn⟩:=k.f
 refine zCo ((yYi s _).mpr ⟨n,hn,j,k.jo,rfl,k.c,k.lo,k.hi,zD5 k.sa k.a,k.a,k.w0,k.w1,zA4 (by simp) k.b,b0,b1,b2,b3,b4,b5,b6,k.b,?_⟩)
 repeat'(first|rfl|decide|refine And.intro ?_ ?_)
theorem yZj {a0:Int}(k:ParH s j [a0] []):zFc (cwC (LpT 1 0)) s (zCm [a0] []):=by
 obtain⟨n,hn⟩:=k.f
 refine zCo ((yYj s _).mpr ⟨n,hn,j,k.jo,rfl,k.c,k.lo,k.hi,zA4 (by simp) k.a,a0,k.a,k.w0,k.w1,zD5 k.sb k.b,k.b,?_⟩)
 repeat'(first|rfl|decide|refine And.intro ?_ ?_)
theorem yZk {a0 b0:Int}(k:ParH s j [a0] [b0]):zFc (cwC (LpT 1 1)) s (zCm [a0] [b0]):=by
 obtain⟨n,hn⟩:=k.f
 refine zCo ((yYk s _).mpr ⟨n,hn,j,k.jo,rfl,k.c,k.lo,k.hi,zA4 (by simp) k.a,a0,k.a,k.w0,k.w1,zA4 (by simp) k.b,b0,k.b,?_⟩)
 repeat'(first|rfl|decide|refine And.intro ?_ ?_)
theorem yZl {a0 b0 b1:Int}(k:ParH s j [a0] [b0,b1]):zFc (cwC (LpT 1 2)) s (zCm [a0] [b0,b1]):=by
 obtain⟨n,hn⟩:=k.f
 refine zCo ((yYl s _).mpr ⟨n,hn,j,k.jo,rfl,k.c,k.lo,k.hi,zA4 (by simp) k.a,a0,k.a,k.w0,k.w1,zA4 (by simp) k.b,b0,b1,k.b,?_⟩)
 repeat'(first|rfl|decide|refine And.intro ?_ ?_)
theorem yZm {a0 b0 b1 b2:Int}(k:ParH s j [a0] [b0,b1,b2]):zFc (cwC (LpT 1 3)) s (zCm [a0] [b0,b1,b2]):=by
 obtain⟨n,hn⟩:=k.f
 refine zCo ((yYm s _).mpr ⟨n,hn,j,k.jo,rfl,k.c,k.lo,k.hi,zA4 (by simp) k.a,a0,k.a,k.w0,k.w1,zA4 (by simp) k.b,b0,b1,b2,k.b,?_⟩)
 repeat'(first|rfl|decide|refine And.intro ?_ ?_)
theorem yZn {a0 b0 b1 b2 b3:Int}(k:ParH s j [a0] [b0,b1,b2,b3]):zFc (cwC (LpT 1 4)) s (zCm [a0] [b0,b1,b2,b3]):=by
 obtain⟨n,hn⟩:=k.f
 refine zCo ((yYn s _).mpr ⟨n,hn,j,k.jo,rfl,k.c,k.lo,k.hi,zA4 (by simp) k.a,a0,k.a,k.w0,k.w1,zA4 (by simp) k.b,b0,b1,b2,b3,k.b,?_⟩)
 repeat'(first|rfl|decide|refine And.intro ?_ ?_)
theorem yZo {a0 b0 b1 b2 b3 b4:Int}(k:ParH s j [a0] [b0,b1,b2,b3,b4]):zFc (cwC (LpT 1 5)) s (zCm [a0] [b0,b1,b2,b3,b4]):=by
 obtain⟨n,hn⟩:=k.f
 refine zCo ((yYo s _).mpr ⟨n,hn,j,k.jo,rfl,k.c,k.lo,k.hi,zA4 (by simp) k.a,a0,k.a,k.w0,k.w1,zA4 (by simp) k.b,b0,b1,b2,b3,b4,k.b,?_⟩)
 repeat'(first|rfl|decide|refine And.intro ?_ ?_)
theorem yZp {a0 b0 b1 b2 b3 b4 b5:Int}(k:ParH s j [a0] [b0,b1,b2,b3,b4,b5]):zFc (cwC (LpT 1 6)) s (zCm [a0] [b0,b1,b2,b3,b4,b5]):=by
 obtain⟨n,hn⟩:=k.f
 refine zCo ((yYp s _).mpr ⟨n,hn,j,k.jo,rfl,k.c,k.lo,k.hi,zA4 (by simp) k.a,a0,k.a,k.w0,k.w1,zA4 (by simp) k.b,b0,b1,b2,b3,b4,b5,k.b,?_⟩)
 repeat'(first|rfl|decide|refine And.intro ?_ ?_)
theorem yZq {a0 a1:Int}(k:ParH s j [a0,a1] []):zFc (cwC (LpT 2 0)) s (zCm [a0,a1] []):=by
 obtain⟨n,hn⟩:=k.f
 refine zCo ((yYq s _).mpr ⟨n,hn,j,k.jo,rfl,k.c,k.lo,k.hi,zA4 (by simp) k.a,a0,a1,k.a,k.w0,k.w1,zD5 k.sb k.b,k.b,?_⟩)
 repeat'(first|rfl|decide|refine And.intro ?_ ?_)
theorem yZr {a0 a1 b0:Int}(k:ParH s j [a0,a1] [b0]):zFc (cwC (LpT 2 1)) s (zCm [a0,a1] [b0]):=by
 obtain⟨n,hn⟩:=k.f
 refine zCo ((yYr s _).mpr ⟨n,hn,j,k.jo,rfl,k.c,k.lo,k.hi,zA4 (by simp) k.a,a0,a1,k.a,k.w0,k.w1,zA4 (by simp) k.b,b0,k.b,?_⟩)
 repeat'(first|rfl|decide|refine And.intro ?_ ?_)
theorem yZs {a0 a1 b0 b1:Int}(k:ParH s j [a0,a1] [b0,b1]):zFc (cwC (LpT 2 2)) s (zCm [a0,a1] [b0,b1]):=by
 obtain⟨n,hn⟩:=k.f
 refine zCo ((yYs s _).mpr ⟨n,hn,j,k.jo,rfl,k.c,k.lo,k.hi,zA4 (by simp) k.a,a0,a1,k.a,k.w0,k.w1,zA4 (by simp) k.b,b0,b1,k.b,?_⟩)
 repeat'(first|rfl|decide|refine And.intro ?_ ?_)
theorem yZt {a0 a1 b0 b1 b2:Int}(k:ParH s j [a0,a1] [b0,b1,b2]):zFc (cwC (LpT 2 3)) s (zCm [a0,a1] [b0,b1,b2]):=by
 obtain⟨n,hn⟩:=k.f
 refine zCo ((yYt s _).mpr ⟨n,hn,j,k.jo,rfl,k.c,k.lo,k.hi,zA4 (by simp) k.a,a0,a1,k.a,k.w0,k.w1,zA4 (by simp) k.b,b0,b1,b2,k.b,?_⟩)
 repeat'(first|rfl|decide|refine And.intro ?_ ?_)
theorem yZu {a0 a1 b0 b1 b2 b3:Int}(k:ParH s j [a0,a1] [b0,b1,b2,b3]):zFc (cwC (LpT 2 4)) s (zCm [a0,a1] [b0,b1,b2,b3]):=by
 obtain⟨n,hn⟩:=k.f
 refine zCo ((yYu s _).mpr ⟨n,hn,j,k.jo,rfl,k.c,k.lo,k.hi,zA4 (by simp) k.a,a0,a1,k.a,k.w0,k.w1,zA4 (by simp) k.b,b0,b1,b2,b3,k.b,?_⟩)
 repeat'(first|rfl|decide|refine And.intro ?_ ?_)
theorem yZv {a0 a1 b0 b1 b2 b3 b4:Int}(k:ParH s j [a0,a1] [b0,b1,b2,b3,b4]):zFc (cwC (LpT 2 5)) s (zCm [a0,a1] [b0,b1,b2,b3,b4]):=by
 obtain⟨n,hn⟩:=k.f
 refine zCo ((yYv s _).mpr ⟨n,hn,j,k.jo,rfl,k.c,k.lo,k.hi,zA4 (by simp) k.a,a0,a1,k.a,k.w0,k.w1,zA4 (by simp) k.b,b0,b1,b2,b3,b4,k.b,?_⟩)
 repeat'(first|rfl|decide|refine And.intro ?_ ?_)
theorem yZw {a0 a1 a2:Int}(k:ParH s j [a0,a1,a2] []):zFc (cwC (LpT 3 0)) s (zCm [a0,a1,a2] []):=by
 obtain⟨n,hn⟩:=k.f
 refine zCo ((yYw s _).mpr ⟨n,hn,j,k.jo,rfl,k.c,k.lo,k.hi,zA4 (by simp) k.a,a0,a1,a2,k.a,k.w0,k.w1,zD5 k.sb k.b,k.b,?_⟩)
 repeat'(first|rfl|decide|refine And.intro ?_ ?_)
theorem yZx {a0 a1 a2 b0:Int}(k:ParH s j [a0,a1,a2] [b0]):zFc (cwC (LpT 3 1)) s (zCm [a0,a1,a2] [b0]):=by
 obtain⟨n,hn⟩:=k.f
 refine zCo ((yYx s _).mpr ⟨n,hn,j,k.jo,rfl,k.c,k.lo,k.hi,zA4 (by simp) k.a,a0,a1,a2,k.a,k.w0,k.w1,zA4 (by simp) k.b,b0,k.b,?_⟩)
 repeat'(first|rfl|decide|refine And.intro ?_ ?_)
theorem yZy {a0 a1 a2 b0 b1:Int}(k:ParH s j [a0,a1,a2] [b0,b1]):zFc (cwC (LpT 3 2)) s (zCm [a0,a1,a2] [b0,b1]):=by
 obtain⟨n,hn⟩:=k.f
 refine zCo ((yYy s _).mpr ⟨n,hn,j,k.jo,rfl,k.c,k.lo,k.hi,zA4 (by simp) k.a,a0,a1,a2,k.a,k.w0,k.w1,zA4 (by simp) k.b,b0,b1,k.b,?_⟩)
 repeat'(first|rfl|decide|refine And.intro ?_ ?_)
theorem yZz {a0 a1 a2 b0 b1 b2:Int}(k:ParH s j [a0,a1,a2] [b0,b1,b2]):zFc (cwC (LpT 3 3)) s (zCm [a0,a1,a2] [b0,b1,b2]):=by
 obtain⟨n,hn⟩:=k.f
 refine zCo ((yYz s _).mpr ⟨n,hn,j,k.jo,rfl,k.c,k.lo,k.hi,zA4 (by simp) k.a,a0,a1,a2,k.a,k.w0,k.w1,zA4 (by simp) k.b,b0,b1,b2,k.b,?_⟩)
 repeat'(first|rfl|decide|refine And.intro ?_ ?_)
theorem yZ0 {a0 a1 a2 b0 b1 b2 b3:Int}(k:ParH s j [a0,a1,a2] [b0,b1,b2,b3]):zFc (cwC (LpT 3 4)) s (zCm [a0,a1,a2] [b0,b1,b2,b3]):=by
 obtain⟨n,hn⟩:=k.f
 refine zCo ((yY0 s _).mpr ⟨n,hn,j,k.jo,rfl,k.c,k.lo,k.hi,zA4 (by simp) k.a,a0,a1,a2,k.a,k.w0,k.w1,zA4 (by simp) k.b,b0,b1,b2,b3,k.b,?_⟩)
 repeat'(first|rfl|decide|refine And.intro ?_ ?_)
theorem yZ1 {a0 a1 a2 a3:Int}(k:ParH s j [a0,a1,a2,a3] []):zFc (cwC (LpT 4 0)) s (zCm [a0,a1,a2,a3] []):=by
 obtain⟨n,hn⟩:=k.f
 refine zCo ((yY1 s _).mpr ⟨n,hn,j,k.jo,rfl,k.c,k.lo,k.hi,zA4 (by simp) k.a,a0,a1,a2,a3,k.a,k.w0,k.w1,zD5 k.sb k.b,k.b,?_⟩)
 repeat'(first|rfl|decide|refine And.intro ?_ ?_)
theorem yZ2 {a0 a1 a2 a3 b0:Int}(k:ParH s j [a0,a1,a2,a3] [b0]):zFc (cwC (LpT 4 1)) s (zCm [a0,a1,a2,a3] [b0]):=by
 obtain⟨n,hn⟩:=k.f
 refine zCo ((yY2 s _).mpr ⟨n,hn,j,k.jo,rfl,k.c,k.lo,k.hi,zA4 (by simp) k.a,a0,a1,a2,a3,k.a,k.w0,k.w1,zA4 (by simp) k.b,b0,k.b,?_⟩)
 repeat'(first|rfl|decide|refine And.intro ?_ ?_)
theorem yZ3 {a0 a1 a2 a3 b0 b1:Int}(k:ParH s j [a0,a1,a2,a3] [b0,b1]):zFc (cwC (LpT 4 2)) s (zCm [a0,a1,a2,a3] [b0,b1]):=by
 obtain⟨n,hn⟩:=k.f
 refine zCo ((yY3 s _).mpr ⟨n,hn,j,k.jo,rfl,k.c,k.lo,k.hi,zA4 (by simp) k.a,a0,a1,a2,a3,k.a,k.w0,k.w1,zA4 (by simp) k.b,b0,b1,k.b,?_⟩)
 repeat'(first|rfl|decide|refine And.intro ?_ ?_)
theorem yZ4 {a0 a1 a2 a3 b0 b1 b2:Int}(k:ParH s j [a0,a1,a2,a3] [b0,b1,b2]):zFc (cwC (LpT 4 3)) s (zCm [a0,a1,a2,a3] [b0,b1,b2]):=by
 obtain⟨n,hn⟩:=k.f
 refine zCo ((yY4 s _).mpr ⟨n,hn,j,k.jo,rfl,k.c,k.lo,k.hi,zA4 (by simp) k.a,a0,a1,a2,a3,k.a,k.w0,k.w1,zA4 (by simp) k.b,b0,b1,b2,k.b,?_⟩)
 repeat'(first|rfl|decide|refine And.intro ?_ ?_)
theorem yZ5 {a0 a1 a2 a3 a4:Int}(k:ParH s j [a0,a1,a2,a3,a4] []):zFc (cwC (LpT 5 0)) s (zCm [a0,a1,a2,a3,a4] []):=by
 obtain⟨n,hn⟩:=k.f
 refine zCo ((yY5 s _).mpr ⟨n,hn,j,k.jo,rfl,k.c,k.lo,k.hi,zA4 (by simp) k.a,a0,a1,a2,a3,a4,k.a,k.w0,k.w1,zD5 k.sb k.b,k.b,?_⟩)
 repeat'(first|rfl|decide|refine And.intro ?_ ?_)
theorem yZ6 {a0 a1 a2 a3 a4 b0:Int}(k:ParH s j [a0,a1,a2,a3,a4] [b0]):zFc (cwC (LpT 5 1)) s (zCm [a0,a1,a2,a3,a4] [b0]):=by
 obtain⟨n,hn⟩:=k.f
 refine zCo ((yY6 s _).mpr ⟨n,hn,j,k.jo,rfl,k.c,k.lo,k.hi,zA4 (by simp) k.a,a0,a1,a2,a3,a4,k.a,k.w0,k.w1,zA4 (by simp) k.b,b0,k.b,?_⟩)
 repeat'(first|rfl|decide|refine And.intro ?_ ?_)
theorem yZ7 {a0 a1 a2 a3 a4 b0 b1:Int}(k:ParH s j [a0,a1,a2,a3,a4] [b0,b1]):zFc (cwC (LpT 5 2)) s (zCm [a0,a1,a2,a3,a4] [b0,b1]):=by
 obtain⟨n,hn⟩:=k.f
 refine zCo ((yY7 s _).mpr ⟨n,hn,j,k.jo,rfl,k.c,k.lo,k.hi,zA4 (by simp) k.a,a0,a1,a2,a3,a4,k.a,k.w0,k.w1,zA4 (by simp) k.b,b0,b1,k.b,?_⟩)
 repeat'(first|rfl|decide|refine And.intro ?_ ?_)
theorem yZ8 {a0 a1 a2 a3 a4 a5:Int}(k:ParH s j [a0,a1,a2,a3,a4,a5] []):zFc (cwC (LpT 6 0)) s (zCm [a0,a1,a2,a3,a4,a5] []):=by
 obtain⟨n,hn⟩:=k.f
 refine zCo ((yY8 s _).mpr ⟨n,hn,j,k.jo,rfl,k.c,k.lo,k.hi,zA4 (by simp) k.a,a0,a1,a2,a3,a4,a5,k.a,k.w0,k.w1,zD5 k.sb k.b,k.b,?_⟩)
 repeat'(first|rfl|decide|refine And.intro ?_ ?_)
theorem yZ9 {a0 a1 a2 a3 a4 a5 b0:Int}(k:ParH s j [a0,a1,a2,a3,a4,a5] [b0]):zFc (cwC (LpT 6 1)) s (zCm [a0,a1,a2,a3,a4,a5] [b0]):=by
 obtain⟨n,hn⟩:=k.f
 refine zCo ((yY9 s _).mpr ⟨n,hn,j,k.jo,rfl,k.c,k.lo,k.hi,zA4 (by simp) k.a,a0,a1,a2,a3,a4,a5,k.a,k.w0,k.w1,zA4 (by simp) k.b,b0,k.b,?_⟩)
 repeat'(first|rfl|decide|refine And.intro ?_ ?_)
theorem xAa {a0 a1 a2 a3 a4 a5 a6:Int}(k:ParH s j [a0,a1,a2,a3,a4,a5,a6] []):zFc (cwC (LpT 7 0)) s (zCm [a0,a1,a2,a3,a4,a5,a6] []):=by
 obtain⟨n,hn⟩:=k.f
 refine zCo ((yZa s _).mpr ⟨n,hn,j,k.jo,rfl,k.c,k.lo,k.hi,zA4 (by simp) k.a,a0,a1,a2,a3,a4,a5,a6,k.a,k.w0,k.w1,zD5 k.sb k.b,k.b,?_⟩)
 repeat'(first|rfl|decide|refine And.intro ?_ ?_)
end Go.Proofs.YtfnacgojmdbjmaaGreatDoor
namespace Go.Proofs.YtfnacgojmdbjmaaGreatDoor
open Go.Det Go.RowKit YtfnacgojmdbjmaaGreatDoorW.PrintWords
theorem yMc {b2 b3:Bool}{p q:Nat}{Q0:Prop}(hQ:Q0)(hp:b2=true→p≤1002)(hq:b3=true→q≤1002)(H:b2=false∨b3=false∨8≤p+q):
  zAm (!b2) Q0 (zAm (!b3) Q0 (zAm (zAl (7 < IntKind.wrap .i64 ((p:Int)+(q:Int)))) Q0 False)):=by
 refine bifW_n (fun h2=>bifW_n (fun h3=>?_) fun _=>hQ) fun _=>hQ
 have:=hp h2
 have:=hq h3
 rw[wrap_i64 ⟨by omega,by omega⟩]
 refine bifW_c (fun _=>hQ) fun h5=>?_
 rcases H with H|H|H
 ·rw[H] at h2;cases h2
 ·rw[H] at h3;cases h3
 ·omega
theorem zUe {x:ByteArray}{l:Bool}{r:List Int×Bool}(hx:x.data.toList=[])(h:zBx (x,l)=some r):r=([],true):=by
 obtain⟨⟨t⟩⟩:=x
 have:t=[]:=hx
 subst this
 exact yMb h
theorem yG4 {x:ByteArray}{l:Bool}{r:List Int×Bool}(hs:x.size≤200)(h:zBx (x,l)=some r)(hr:r.2=true):r.1.length≤1002:=by
 obtain⟨q,r',e1,e2,e3⟩:=zOn hs l (k:=7000) (by omega)
 have e2':zBx (x,l)=some r':=e2
 rw[h] at e2'
 cases e2'
 have h2:q.2=true:=e3.1.symm.trans hr
 have:=e3.2 h2
 rw[← this] at e1
 exact(zF9 (r:=r.1) (b:=r.2) e1).1
theorem yMd {x:ByteArray}(hs:x.size≤200){b:List Int×Bool}(hb:zBx (x,true)=some b){p:Nat}{a2:Bool}{Q0:Prop}(hQ:Q0)(hp:a2=true→p≤1002)(H:a2=false∨b.2=false∨8≤p+b.1.length):
  ∃ x3:List Int×Bool,((zBx (x,true)=some x3)∧(((x.data.toList=[])∧zAm (!a2) Q0 (zAm (!x3.2) Q0 (zAm (zAl (7 < IntKind.wrap .i64 ((p:Int)+((0:Nat):Int)))) Q0 False)))∨
   (((x.data.toList≠[])∧((x3.1=[])∧zAm (!a2) Q0 (zAm (!x3.2) Q0 (zAm (zAl (7 < IntKind.wrap .i64 ((p:Int)+((0:Nat):Int)))) Q0 False))))∨
   ((x.data.toList≠[])∧((x3.1≠[])∧zAm (!a2) Q0 (zAm (!x3.2) Q0 (zAm (zAl (7 < IntKind.wrap .i64 ((p:Int)+((x3.1.length:Nat):Int)))) Q0 False))))))):=by
 refine⟨b,hb,?_⟩
 by_cases h1:x.data.toList=[]
 ·have e1:=zUe h1 hb
  subst e1
  exact .inl ⟨h1,yMc (q:=0) hQ hp (fun _=>by omega) H⟩
 ·by_cases h3:b.1=[]
  ·exact .inr (.inl ⟨h1,h3,yMc (q:=0) hQ hp (fun _=>by omega) (by rw[h3] at H;exact H)⟩)
  ·exact .inr (.inr ⟨h1,h3,yMc hQ hp (fun h=>yG4 hs hb h) H⟩)
theorem yO1 {s:ByteArray}{j n:Int}{a b:List Int×Bool}(hn:zI7 s=some (n,false))(hj:zI8 s=some j)(lo:0≤j)(hi:j≤(s.size:Int))(w0:0≤IntKind.wrap IntKind.i64 (j+2))(w1:IntKind.wrap IntKind.i64 (j+2)≤(s.size:Int))
  (ha:zBx (ya s j,false)=some a) (hb:zBx (yb s j,true)=some b) (sa:(ya s j).size≤200) (sb:(yb s j).size≤200) (H:a.2=false∨b.2=false∨8≤a.1.length+b.1.length):zFc (cwC LpB) s (0,0,0,false):=by
 refine zAv (zA0 _) (zOp _ _ _ _ _) (n:=0) (by kernel_rfl) ((yX9 s _).mpr ⟨n,hn,j,hj,rfl,zDq.2 (by omega),lo,hi,a,ha,?_⟩)
 by_cases h0:(ya s j).data.toList=[]
 ·have e0:=zUe h0 ha
  subst e0
  exact .inl ⟨h0,w0,w1,yMd sb hb (p:=0) rfl (fun _=>by omega) H⟩
 ·by_cases h2:a.1=[]
  ·exact .inr (.inl ⟨h0,h2,w0,w1,yMd sb hb (p:=0) rfl (fun _=>by omega) (by rw[h2] at H;exact H)⟩)
  ·exact .inr (.inr ⟨h0,h2,w0,w1,yMd sb hb rfl (fun h=>yG4 sa ha h) H⟩)
theorem yMe {b2:Bool}{p:Nat}{Q0:Prop}(hQ:Q0)(H:b2=false∨p≠8):zAm (!b2) Q0 (zAm (zAl ((p:Int)≠8)) Q0 False):=by
 refine bifW_n (fun h2=>bifW_c (fun _=>hQ) fun h5=>?_) fun _=>hQ
 rcases H with H|H
 ·rw[H] at h2;cases h2
 ·omega
theorem yMf {s:ByteArray}{j n:Int}{a:List Int×Bool}(hn:zI7 s=some (n,false))(hj:zI8 s=some j)(lo:j < 0)(ha:zBx (s,true)=some a)(H:a.2=false∨a.1.length≠8):zFc (cwC LpB) s (0,0,0,false):=by
 refine zAv (zA0 _) (zOp _ _ _ _ _) (n:=0) (by kernel_rfl) ((yYa s _).mpr ⟨n,hn,j,hj,rfl,zCg.2 lo,a,ha,?_⟩)
 by_cases h0:s.data.toList=[]
 ·have e0:=zUe h0 ha
  subst e0
  exact .inl ⟨h0,yMe (p:=0) rfl (.inr (by decide))⟩
 ·by_cases h2:a.1=[]
  ·exact .inr (.inl ⟨h0,h2,yMe (p:=0) rfl (.inr (by decide))⟩)
  ·exact .inr (.inr ⟨h0,h2,yMe rfl H⟩)
theorem ySa {s:ByteArray}{j n:Int}{a0 a1 a2 a3 a4 a5 a6 a7:Int}(hn:zI7 s=some (n,false))(hj:zI8 s=some j)(lo:j < 0)(ha:zBx (s,true)=some ([a0,a1,a2,a3,a4,a5,a6,a7],true)):
  zFc (cwC (LpT 0 8)) s (6,(zFb [a0,a1,a2,a3,a4,a5,a6,a7]).1,(zFb [a0,a1,a2,a3,a4,a5,a6,a7]).2,true):=by
 refine zAv (zA0 _) (zOp _ _ _ _ _) (n:=5) (by kernel_rfl) ((vjw s _).mpr ⟨n,hn,j,hj,rfl,zCg.2 lo,zA4 (by simp) ha,a0,a1,a2,a3,a4,a5,a6,a7,ha,?_⟩)
 repeat'(first|rfl|decide|refine And.intro ?_ ?_)
theorem ySb {s:ByteArray}{n:Int}(hn:zI7 s=some (n,true)):zFc (cwC LpA) s (4,0,n,true):=
 zAv (zA0 _) (zOp _ _ _ _ _) (n:=0) (by kernel_rfl) ((vjA s _).mpr ⟨n,hn,rfl⟩)
theorem yMg {s:ByteArray}{j:Int}{la lb:List Int}(k:ParH s j la lb)(hl:la.length+lb.length≤7):∃ cw,CwOk (zDr Lp0) cw∧zFc cw s (zCm la lb):=by
 obtain hh|hh|hh|hh|hh|hh|hh|hh:la.length=0∨la.length=1∨la.length=2∨la.length=3∨la.length=4∨la.length=5∨la.length=6∨la.length=7:=by omega
 ·obtain rfl:=ex0 hh
  obtain ht|ht|ht|ht|ht|ht|ht|ht:lb.length=0∨lb.length=1∨lb.length=2∨lb.length=3∨lb.length=4∨lb.length=5∨lb.length=6∨lb.length=7:=by simp only[List.length_cons,List.length_nil] at hl;omega
  ·obtain rfl:=ex0 ht
   exact⟨_,zAt (LpT 0 0),yZb k⟩
  ·obtain⟨b0,rfl⟩:=ex1 ht
   exact⟨_,zAt (LpT 0 1),yZc k⟩
  ·obtain⟨b0,b1,rfl⟩:=ex2 ht
   exact⟨_,zAt (LpT 0 2),yZd k⟩
  ·obtain⟨b0,b1,b2,rfl⟩:=ex3 ht
   exact⟨_,zAt (LpT 0 3),yZe k⟩
  ·obtain⟨b0,b1,b2,b3,rfl⟩:=ex4 ht
   exact⟨_,zAt (LpT 0 4),yZf k⟩
  ·obtain⟨b0,b1,b2,b3,b4,rfl⟩:=ex5 ht
   exact⟨_,zAt (LpT 0 5),yZg k⟩
  ·obtain⟨b0,b1,b2,b3,b4,b5,rfl⟩:=ex6 ht
   exact⟨_,zAt (LpT 0 6),yZh k⟩
  ·obtain⟨b0,b1,b2,b3,b4,b5,b6,rfl⟩:=ex7 ht
   exact⟨_,zAt (LpT 0 7),yZi k⟩
 ·obtain⟨a0,rfl⟩:=ex1 hh
  obtain ht|ht|ht|ht|ht|ht|ht:lb.length=0∨lb.length=1∨lb.length=2∨lb.length=3∨lb.length=4∨lb.length=5∨lb.length=6:=by simp only[List.length_cons,List.length_nil] at hl;omega
  ·obtain rfl:=ex0 ht
   exact⟨_,zAt (LpT 1 0),yZj k⟩
  ·obtain⟨b0,rfl⟩:=ex1 ht
   exact⟨_,zAt (LpT 1 1),yZk k⟩
  ·obtain⟨b0,b1,rfl⟩:=ex2 ht
   exact⟨_,zAt (LpT 1 2),yZl k⟩
  ·obtain⟨b0,b1,b2,rfl⟩:=ex3 ht
   exact⟨_,zAt (LpT 1 3),yZm k⟩
  ·obtain⟨b0,b1,b2,b3,rfl⟩:=ex4 ht
   exact⟨_,zAt (LpT 1 4),yZn k⟩
  ·obtain⟨b0,b1,b2,b3,b4,rfl⟩:=ex5 ht
   exact⟨_,zAt (LpT 1 5),yZo k⟩
  ·obtain⟨b0,b1,b2,b3,b4,b5,rfl⟩:=ex6 ht
   exact⟨_,zAt (LpT 1 6),yZp k⟩
 ·obtain⟨a0,a1,rfl⟩:=ex2 hh
  obtain ht|ht|ht|ht|ht|ht:lb.length=0∨lb.length=1∨lb.length=2∨lb.length=3∨lb.length=4∨lb.length=5:=by simp only[List.length_cons,List.length_nil] at hl;omega
  ·obtain rfl:=ex0 ht
   exact⟨_,zAt (LpT 2 0),yZq k⟩
  ·obtain⟨b0,rfl⟩:=ex1 ht
   exact⟨_,zAt (LpT 2 1),yZr k⟩
  ·obtain⟨b0,b1,rfl⟩:=ex2 ht
   exact⟨_,zAt (LpT 2 2),yZs k⟩
  ·obtain⟨b0,b1,b2,rfl⟩:=ex3 ht
   exact⟨_,zAt (LpT 2 3),yZt k⟩
  ·obtain⟨b0,b1,b2,b3,rfl⟩:=ex4 ht
   exact⟨_,zAt (LpT 2 4),yZu k⟩
  ·obtain⟨b0,b1,b2,b3,b4,rfl⟩:=ex5 ht
   exact⟨_,zAt (LpT 2 5),yZv k⟩
 ·obtain⟨a0,a1,a2,rfl⟩:=ex3 hh
  obtain ht|ht|ht|ht|ht:lb.length=0∨lb.length=1∨lb.length=2∨lb.length=3∨lb.length=4:=by simp only[List.length_cons,List.length_nil] at hl;omega
  ·obtain rfl:=ex0 ht
   exact⟨_,zAt (LpT 3 0),yZw k⟩
  ·obtain⟨b0,rfl⟩:=ex1 ht
   exact⟨_,zAt (LpT 3 1),yZx k⟩
  ·obtain⟨b0,b1,rfl⟩:=ex2 ht
   exact⟨_,zAt (LpT 3 2),yZy k⟩
  ·obtain⟨b0,b1,b2,rfl⟩:=ex3 ht
   exact⟨_,zAt (LpT 3 3),yZz k⟩
  ·obtain⟨b0,b1,b2,b3,rfl⟩:=ex4 ht
   exact⟨_,zAt (LpT 3 4),yZ0 k⟩
 ·obtain⟨a0,a1,a2,a3,rfl⟩:=ex4 hh
  obtain ht|ht|ht|ht:lb.length=0∨lb.length=1∨lb.length=2∨lb.length=3:=by simp only[List.length_cons,List.length_nil] at hl;omega
  ·obtain rfl:=ex0 ht
   exact⟨_,zAt (LpT 4 0),yZ1 k⟩
  ·obtain⟨b0,rfl⟩:=ex1 ht
   exact⟨_,zAt (LpT 4 1),yZ2 k⟩
  ·obtain⟨b0,b1,rfl⟩:=ex2 ht
   exact⟨_,zAt (LpT 4 2),yZ3 k⟩
  ·obtain⟨b0,b1,b2,rfl⟩:=ex3 ht
   exact⟨_,zAt (LpT 4 3),yZ4 k⟩
 ·obtain⟨a0,a1,a2,a3,a4,rfl⟩:=ex5 hh
  obtain ht|ht|ht:lb.length=0∨lb.length=1∨lb.length=2:=by simp only[List.length_cons,List.length_nil] at hl;omega
  ·obtain rfl:=ex0 ht
   exact⟨_,zAt (LpT 5 0),yZ5 k⟩
  ·obtain⟨b0,rfl⟩:=ex1 ht
   exact⟨_,zAt (LpT 5 1),yZ6 k⟩
  ·obtain⟨b0,b1,rfl⟩:=ex2 ht
   exact⟨_,zAt (LpT 5 2),yZ7 k⟩
 ·obtain⟨a0,a1,a2,a3,a4,a5,rfl⟩:=ex6 hh
  obtain ht|ht:lb.length=0∨lb.length=1:=by simp only[List.length_cons,List.length_nil] at hl;omega
  ·obtain rfl:=ex0 ht
   exact⟨_,zAt (LpT 6 0),yZ8 k⟩
  ·obtain⟨b0,rfl⟩:=ex1 ht
   exact⟨_,zAt (LpT 6 1),yZ9 k⟩
 ·obtain⟨a0,a1,a2,a3,a4,a5,a6,rfl⟩:=ex7 hh
  have ht:lb.length=0:=by simp only[List.length_cons,List.length_nil] at hl;omega
  obtain rfl:=ex0 ht
  exact⟨_,zAt (LpT 7 0),xAa k⟩
theorem xAb (s:ByteArray)(y:Int×Int×Int×Bool)(hx:zUc s=some y):∃ cw,CwOk (zDr Lp0) cw∧zFc cw s y:=by
 unfold zUc at hx
 split at hx
 case isFalse=>cases hx
 rename_i hs
 unfold yFf at hx
 obtain⟨⟨n,o⟩,e4,hx⟩:=Option.bind_eq_some_iff.1 hx
 have e4:zI7 s=some (n,o):=e4
 cases o with
 |true=>
  rw[if_pos rfl] at hx
  cases hx
  exact⟨_,zAt LpA,ySb e4⟩
 |false=>
  rw[if_neg (fun q=>by cases q)] at hx
  obtain⟨j,ej,hx⟩:=Option.bind_eq_some_iff.1 hx
  have hj:zI8 s=some j:=ej
  have hjn:j=jn s.data.toList 0:=by
   have:=zVx (s:=s) (by omega) (k:=7000) (by omega)
   rw[ej] at this
   exact Option.some.inj this
  by_cases hlo:j < 0
  ·rw[if_pos hlo] at hx
   obtain⟨g,eg,hx⟩:=Option.bind_eq_some_iff.1 hx
   have hg:zBx (s,true)=some g:=eg
   split at hx
   ·rename_i h8
    cases hx
    obtain⟨gl,gb⟩:=g
    obtain⟨h8a,h8b⟩:=h8
    have h8a:gb=true:=h8a
    have h8b:gl.length=8:=h8b
    subst h8a
    obtain⟨a0,a1,a2,a3,a4,a5,a6,a7,rfl⟩:=ex8 h8b
    exact⟨_,zAt (LpT 0 8),ySa e4 hj hlo hg⟩
   ·rename_i h8
    cases hx
    refine⟨_,zAt LpB,yMf e4 hj hlo hg ?_⟩
    by_cases h9:g.2=true
    ·exact .inr fun q=>h8 ⟨h9,q⟩
    ·exact .inl (Bool.eq_false_iff.2 h9)
  ·rw[if_neg hlo] at hx
   obtain⟨a,ea,hx⟩:=Option.bind_eq_some_iff.1 hx
   obtain⟨b,eb,hx⟩:=Option.bind_eq_some_iff.1 hx
   have hl:s.data.toList.length=s.size:=rfl
   have hle:j+2≤(s.size:Int):=by
    rcases zI6 s.data.toList 0 with⟨e1,e2⟩|⟨x,z,e1,e2,e3⟩
    ·omega
    ·rw[hjn,e2,← hl,e1]
     simp
     omega
   have hw:IntKind.wrap IntKind.i64 (j+2)=j+2:=wrap_i64 ⟨by omega,by omega⟩
   have ha:zBx (ya s j,false)=some a:=ea
   have hb:zBx (yb s j,true)=some b:=by unfold yb;rw[hw];exact eb
   have sa:(ya s j).size≤200:=by unfold ya;rw[ByteArray.size_extract];omega
   have sb:(yb s j).size≤200:=by unfold yb;rw[ByteArray.size_extract];omega
   split at hx
   ·rename_i h8
    cases hx
    obtain⟨al,ab⟩:=a
    obtain⟨bl,bb⟩:=b
    obtain⟨h8a,h8b,h8c⟩:=h8
    have h8a:ab=true:=h8a
    have h8b:bb=true:=h8b
    subst h8a
    subst h8b
    exact yMg (j:=j) ⟨⟨n,e4⟩,hj,by omega,by omega,by rw[hw];omega,by rw[hw];omega,ha,hb,sa,sb⟩ h8c
   ·rename_i h8
    cases hx
    refine⟨_,zAt LpB,yO1 e4 hj (by omega) (by omega) (by rw[hw];omega) (by rw[hw];omega) ha hb sa sb ?_⟩
    by_cases h9:a.2=true
    ·by_cases h10:b.2=true
     ·exact .inr (.inr (by have:¬ a.1.length+b.1.length≤7:=fun q=>h8 ⟨h9,h10,q⟩;omega))
     ·exact .inr (.inl (Bool.eq_false_iff.2 h10))
    ·exact .inl (Bool.eq_false_iff.2 h9)
theorem xAc {W:World}(hW:GoodW W):zAr Tryz.prog W 6 63 con63.own:=by
 refine zSh (l:=Lp0) (Laying.empty hW.size) hW.size (by decide) zAs (OwnsAll.cons (yX6 hW) (OwnsAll.cons (yX7 hW) (OwnsAll.cons (yX8 hW) (zAh W 6)))) Tryz.func63 (fn:=Tryz.f63) (c:=zAd Tryz.f63) (by kernel_rfl) (by kernel_rfl) fun args v hv=>?_
 split at hv
 case h_2=>cases hv
 rename_i a ha
 split at hv
 case h_2=>cases hv
 rename_i b hd
 cases hv
 obtain rfl:=zF6 ha
 exact⟨rfl,rfl,by kernel_rfl,xAb a b hd⟩
end Go.Proofs.YtfnacgojmdbjmaaGreatDoor
namespace Go.Proofs.YtfnacgojmdbjmaaGreatDoor
open Go.Det Go.RowKit PRD YtfnacgojmdbjmaaGreatDoorW.PrintWords
theorem w15 (x:ByteArray)(y:Int×Int×Int×Int×Bool)(hx:gleberef1_Prefix.f x=some y):zAx Tryz.prog (cwC L15) (zAd Tryz.f15) (zAn [.string x] 8) (zAo [] 64) (zA7 Tryz.prog Tryz.f15 fun v' _=>v'=zP8 y):=by
 refine zAv (zA0 _) (zOp 1000 false [18,26] [] []) (n:=0) (by kernel_rfl) ((yX5 x _).mpr ?_)
 unfold gleberef1_Prefix.f at hx
 obtain⟨k,e1,hx⟩:=Option.bind_eq_some_iff.1 hx
 refine⟨k,e1,bifW_c (fun hc=>?_) (fun hc=>?_)⟩
 ·rw[if_pos hc] at hx;cases hx;rfl
 ·rw[if_neg hc] at hx
  split at hx
  case isFalse=>cases hx
  rename_i h1
  obtain⟨a,e2,hx⟩:=Option.bind_eq_some_iff.1 hx
  split at hx
  case isFalse=>cases hx
  rename_i h2
  obtain⟨n,e3,hx⟩:=Option.bind_eq_some_iff.1 hx
  rw[← zCc] at h2 e3
  refine⟨h1.1,h1.2,a,e2,h2.1,h2.2,n,e3,bifW_n (fun hc=>?_) (fun hc=>?_)⟩
  ·rw[if_pos hc] at hx
   refine bifW_n (fun hc=>?_) (fun hc=>?_)
   ·rw[if_pos hc] at hx
    obtain⟨o,e4,hx⟩:=Option.bind_eq_some_iff.1 hx
    rw[← zCc] at e4
    refine⟨o,e4,bifW_n (fun hc=>?_) (fun hc=>?_)⟩
    ·rw[if_pos hc,← zCc] at hx;cases hx;rfl
    ·rw[if_neg hc] at hx;cases hx;rfl
   ·rw[if_neg hc] at hx;cases hx;rfl
  ·rw[if_neg hc] at hx;cases hx;rfl
theorem xAd {W:World}(hW:GoodW W):zAr Tryz.prog W 6 15 con15.own:=
 zA3 (fun s:ByteArray=>[.string s]) (Laying.empty hW.size) hW.size (by decide) zAs (OwnsAll.con (yXr hW) (OwnsAll.con (xAc hW) (OwnsAll.con (yXq hW) (OwnsAll.con (yGk hW) (zAh W 6))))) Tryz.func15 (fn:=Tryz.f15) (c:=zAd Tryz.f15) (by kernel_rfl) (by kernel_rfl) (fun _ _ h=>zF6 h) (fun a=>⟨rfl,(by kernel_rfl)⟩) (fun b=>rfl) w15
end Go.Proofs.YtfnacgojmdbjmaaGreatDoor
section
end
namespace Go.Proofs.YtfnacgojmdbjmaaGreatDoor
open Go.Det Go.RowKit YtfnacgojmdbjmaaGreatDoorW.PrintWords PPPT PPH
theorem yB9:∀ n:Fin 256,gleberef1_Text.f 6 (n.val:Int)=some (zDj n.val):=by decide +kernel
theorem yFl {n:Nat}(h:n < 256):gleberef1_Text.f 6 (n:Int)=zKc (n:Int):=by
 rw[zVq h]
 exact yB9 ⟨n,h⟩
theorem yMh (x:Int):(strOfNums [x]).size=1:=rfl
theorem yFm:∀ n:Fin 16,strOfNums [bt (⟨#[48,49,50,51,52,53,54,55,56,57,97,98,99,100,101,102]⟩:ByteArray) (n.val:Int)]=mkB [Txt.dg n.val]:=by decide +kernel
theorem yCa {n:Nat}(h:n < 16)(s:List UInt8):strOfNums [bt (⟨#[48,49,50,51,52,53,54,55,56,57,97,98,99,100,101,102]⟩:ByteArray) (n:Int)]++mkB s=mkB (Txt.dg n::s):=by
 rw[yFm ⟨n,h⟩]
 refine zOm ?_
 simp[mkB]
theorem zDi (s:List UInt8):(mkB s).size=s.length:=by
 show(List.toArray s).size=_
 simp
theorem zP9 (s:List UInt8):(mkB s).toList=s:=by
 rw[ByteArray.toList_eq]
 simp[mkB]
theorem zI9 {n k:Nat}(hn:n < 65536){s:List UInt8}(hs:s.length≤100)(h:0 < n∨s=[]):gleberef1_hex.l0 (k+1) (n:Int) (mkB s)=gleberef1_hex.l0 k ((n / 16:Nat):Int) (mkB (Txt.dg (n % 16)::s)):=by
 have e1:Go.bits .and .u64 (n:Int) 15=((n % 16:Nat):Int):=zH9 (by omega) 4 (by decide)
 have e2:(n:Int) / 16=((n / 16:Nat):Int):=by omega
 have e3:(strOfNums [bt (⟨#[48,49,50,51,52,53,54,55,56,57,97,98,99,100,101,102]⟩:ByteArray) ((n % 16:Nat):Int)]).size+(mkB s).size≤9223372036854775807:=by
  rw[zDi,yMh]
  omega
 rw[gleberef1_hex.l0,e1,e2,zP9]
 split
 ·rw[if_pos (by omega),if_pos (by omega),Option.bind_some,if_pos e3,yCa (by omega)]
 ·rw[if_pos (h.resolve_left (by omega)),if_pos (by omega),if_pos (by omega),Option.bind_some,if_pos e3,yCa (by omega)]
theorem zKv {k:Nat}{s:List UInt8}(h:s≠[]):gleberef1_hex.l0 (k+1) ((0:Nat):Int) (mkB s)=some (mkB s):=by
 unfold gleberef1_hex.l0
 rw[if_neg (by omega),zP9,if_neg h]
theorem zVz {n:Nat}(h:n < 65536){k:Nat}(hk:5≤k):gleberef1_hex.f k (n:Int)=some ⟨⟨Txt.hexT n⟩⟩:=by
 obtain⟨k,rfl⟩:∃ j,k=j+5:=⟨k - 5,by omega⟩
 unfold gleberef1_hex.f
 show gleberef1_hex.l0 (k+5) (n:Int) (mkB [])=_
 rw[zI9 h (by simp) (Or.inr rfl)]
 unfold Txt.hexT
 by_cases h1:n < 16
 ·rw[if_pos h1,show n / 16=0 by omega,zKv (by simp),show n % 16=n by omega]
  rfl
 ·rw[if_neg h1,zI9 (by omega) (by simp) (Or.inl (by omega))]
  by_cases h2:n < 256
  ·rw[if_pos h2,show n / 16 / 16=0 by omega,zKv (by simp),show n / 16 % 16=n / 16 by omega]
   rfl
  ·rw[if_neg h2,zI9 (by omega) (by simp) (Or.inl (by omega))]
   by_cases h3:n < 4096
   ·rw[if_pos h3,show n / 16 / 16 / 16=0 by omega,zKv (by simp),show n / 16 / 16 % 16=n / 256 by omega]
    rfl
   ·rw[if_neg h3,zI9 (by omega) (by simp) (Or.inl (by omega)),show n / 16 / 16 / 16 / 16=0 by omega,zKv (by simp),show n / 16 / 16 / 16 % 16=n / 4096 by omega,show n / 16 / 16 % 16=n / 256 % 16 by omega]
    rfl
theorem zSp (a b:Int):∀ i:Nat,i < 8→gleberef1_group.f a b (i:Int)=some ((zDc a++zDc b).getD i 0):=by
 have e:∀ (x:Int) (m:Nat),m≤64→Go.bits .and .u64 (shr .u64 x (m:Int)) 65535=zB2 .u64 (zBm .u64 x (m:Int)) 65535:=by
  intro x m hm
  have h:shr .u64 x (m:Int)=zBm .u64 x (m:Int):=by
   unfold zBm
   rw[Int.fdiv_eq_ediv_of_nonneg _ (by exact Int.pow_nonneg (by decide))]
   rfl
  rw[h]
  rfl
 have w48:IntKind.u64.wrap (wrap64 (48 - wrap64 (16 * ((0:Nat):Int))))=((48:Nat):Int):=by decide +kernel
 have w32:IntKind.u64.wrap (wrap64 (48 - wrap64 (16 * ((1:Nat):Int))))=((32:Nat):Int):=by decide +kernel
 have w16:IntKind.u64.wrap (wrap64 (48 - wrap64 (16 * ((2:Nat):Int))))=((16:Nat):Int):=by decide +kernel
 have w00:IntKind.u64.wrap (wrap64 (48 - wrap64 (16 * ((3:Nat):Int))))=((0:Nat):Int):=by decide +kernel
 have v48:IntKind.u64.wrap (wrap64 (48 - wrap64 (16 * wrap64 (((4:Nat):Int) - 4))))=((48:Nat):Int):=by decide +kernel
 have v32:IntKind.u64.wrap (wrap64 (48 - wrap64 (16 * wrap64 (((5:Nat):Int) - 4))))=((32:Nat):Int):=by decide +kernel
 have v16:IntKind.u64.wrap (wrap64 (48 - wrap64 (16 * wrap64 (((6:Nat):Int) - 4))))=((16:Nat):Int):=by decide +kernel
 have v00:IntKind.u64.wrap (wrap64 (48 - wrap64 (16 * wrap64 (((7:Nat):Int) - 4))))=((0:Nat):Int):=by decide +kernel
 intro i hi
 unfold gleberef1_group.f
 have hc:i=0∨i=1∨i=2∨i=3∨i=4∨i=5∨i=6∨i=7:=by omega
 rcases hc with rfl|rfl|rfl|rfl|rfl|rfl|rfl|rfl
 ·rw[if_pos (by decide),w48,if_pos (by decide),e _ 48 (by decide)];rfl
 ·rw[if_pos (by decide),w32,if_pos (by decide),e _ 32 (by decide)];rfl
 ·rw[if_pos (by decide),w16,if_pos (by decide),e _ 16 (by decide)];rfl
 ·rw[if_pos (by decide),w00,if_pos (by decide),e _ 0 (by decide)];rfl
 ·rw[if_neg (by decide),v48,if_pos (by decide),e _ 48 (by decide)];rfl
 ·rw[if_neg (by decide),v32,if_pos (by decide),e _ 32 (by decide)];rfl
 ·rw[if_neg (by decide),v16,if_pos (by decide),e _ 16 (by decide)];rfl
 ·rw[if_neg (by decide),v00,if_pos (by decide),e _ 0 (by decide)];rfl
def ZR (f t:Nat)(at_:Int)(long:Nat):Prop:=(f=0∧t=0∧at_=-1∧long=1)∨(f+2≤t∧t≤8∧at_=(f:Int)∧long=t - f)
theorem yCb {a b:Int}{l:List Int}{i K:Nat}(hi:i < 8)
  (out:∀ (k k' f t:Nat) (at_:Int) (long:Nat),K≤k→K≤k'→ZR f t at_ long→∃ (f' t':Nat) (at':Int) (long':Nat),addr_zeros.l0 k l (f:Int) (t:Int) 8 ((i+1:Nat):Int)=some ((f':Int),(t':Int))∧gleberef1_zeros.l0 k' at_ (long:Int) ((i+1:Nat):Int) a b=some (at',(long':Int))∧ZR f' t' at' long')
  {j k k' f t:Nat} {at_:Int} {long:Nat} (hij:i≤j) (hj:j≤8) (hk:K≤k) (hk':K≤k') (z:ZR f t at_ long):
  ∃ (f' t':Nat) (at':Int) (long':Nat),
   (if wrap64 ((j:Int) - (i:Int)) > wrap64 ((t:Int) - (f:Int)) then(if wrap64 ((j:Int) - (i:Int)) > 1 then addr_zeros.l0 k l (i:Int) (j:Int) 8 (wrap64 ((i:Int)+1)) else addr_zeros.l0 k l (f:Int) (t:Int) 8 (wrap64 ((i:Int)+1))) else addr_zeros.l0 k l (f:Int) (t:Int) 8 (wrap64 ((i:Int)+1)))=some ((f':Int),(t':Int))∧
   (if wrap64 ((j:Int) - (i:Int)) > (long:Int) then gleberef1_zeros.l0 k' (i:Int) (wrap64 ((j:Int) - (i:Int))) (wrap64 ((i:Int)+1)) a b else gleberef1_zeros.l0 k' at_ (long:Int) (wrap64 ((i:Int)+1)) a b)=some (at',(long':Int))∧ZR f' t' at' long':=by
 have hft:f≤t∧t≤8:=by rcases z with⟨h1,h2,_,_⟩|⟨h1,h2,_,_⟩<;>omega
 rw[zJt (n:=(j:Int) - i) (by omega) (by omega),zJt (n:=(t:Int) - f) (by omega) (by omega),zJt (n:=(i:Int)+1) (by omega) (by omega),show((i:Int)+1)=((i+1:Nat):Int) by omega]
 by_cases h:2≤j - i∧t - f < j - i
 ·rw[if_pos (by omega),if_pos (by omega),if_pos (by rcases z with⟨_,_,_,h4⟩|⟨_,_,_,h4⟩<;>omega),show((j:Int) - i)=((j - i:Nat):Int) by omega]
  exact out k k' i j (i:Int) (j - i) hk hk' (Or.inr ⟨by omega,hj,rfl,rfl⟩)
 ·have hr:¬ ((j:Int) - i > (long:Int)):=by rcases z with⟨h1,h2,_,h4⟩|⟨h1,_,_,h4⟩<;>omega
  rw[if_neg hr]
  obtain⟨f',t',at',long',a1,a2,a3⟩:=out k k' f t at_ long hk hk' z
  refine⟨f',t',at',long',?_,a2,a3⟩
  split
  ·rw[if_neg (by omega)];exact a1
  ·exact a1
theorem ySc {a b:Int}{i K:Nat}(hi:i < 8)
  (out:∀ (k k' f t:Nat) (at_:Int) (long:Nat),K≤k→K≤k'→ZR f t at_ long→∃ (f' t':Nat) (at':Int) (long':Nat),addr_zeros.l0 k (zDc a++zDc b) (f:Int) (t:Int) 8 ((i+1:Nat):Int)=some ((f':Int),(t':Int))∧gleberef1_zeros.l0 k' at_ (long:Int) ((i+1:Nat):Int) a b=some (at',(long':Int))∧ZR f' t' at' long'):
  ∀ (e j k k' f t:Nat) (at_:Int) (long:Nat),j+e=8→i≤j→K+e+1≤k→K+e+1≤k'→ZR f t at_ long→∃ (f' t':Nat) (at':Int) (long':Nat),
   addr_zeros.l1 k (zDc a++zDc b) (f:Int) (t:Int) (i:Int) (j:Int) 8 (i:Int)=some ((f':Int),(t':Int))∧gleberef1_zeros.l1 k' at_ (long:Int) (i:Int) (j:Int) a b=some (at',(long':Int))∧ZR f' t' at' long':=by
 have hl:(zDc a++zDc b).length=8:=rfl
 intro e
 induction e with
 |zero=>
  intro j k k' f t at_ long hj hij hk hk' z
  obtain⟨k,rfl⟩:∃ m,k=m+1:=⟨k - 1,by omega⟩
  obtain⟨k',rfl⟩:∃ m,k'=m+1:=⟨k' - 1,by omega⟩
  have n1:¬ ((j:Int) < ((8:Nat):Int)):=by omega
  have n2:¬ ((j:Int) < 8):=by omega
  unfold addr_zeros.l1 gleberef1_zeros.l1
  rw[hl,if_neg n1,if_neg n2]
  exact yCb hi out hij (by omega) (by omega) (by omega) z
 |succ e ih=>
  intro j k k' f t at_ long hj hij hk hk' z
  obtain⟨k,rfl⟩:∃ m,k=m+1:=⟨k - 1,by omega⟩
  obtain⟨k',rfl⟩:∃ m,k'=m+1:=⟨k' - 1,by omega⟩
  obtain⟨g,hg⟩:∃ g,g=(zDc a++zDc b).getD j 0:=⟨_,rfl⟩
  have e1:rd (zDc a++zDc b) (j:Int)=g:=by
   unfold rd
   rw[Int.toNat_natCast,hg]
  have e2:gleberef1_group.f a b (j:Int)=some g:=by rw[hg];exact zSp a b j (by omega)
  have c1:(j:Int) < ((8:Nat):Int):=by omega
  have c2:(j:Int) < 8:=by omega
  have c3:(0:Int)≤(j:Int):=by omega
  unfold addr_zeros.l1 gleberef1_zeros.l1
  rw[hl,if_pos c1,if_pos c3,if_pos c2,e1,e2,Option.bind_some]
  by_cases h0:g=0
  ·rw[if_pos h0,if_pos h0,zJt (n:=(j:Int)+1) (by omega) (by omega),show((j:Int)+1)=((j+1:Nat):Int) by omega]
   exact ih (j+1) k k' f t at_ long (by omega) (by omega) (by omega) (by omega) z
  ·rw[if_neg h0,if_neg h0]
   exact yCb hi out hij (by omega) (by omega) (by omega) z
theorem yO2 {a b:Int}:∀ (d i k k' f t:Nat) (at_:Int) (long:Nat),i+d=8→12 * d+2≤k→12 * d+2≤k'→ZR f t at_ long→∃ (f' t':Nat) (at':Int) (long':Nat),
   addr_zeros.l0 k (zDc a++zDc b) (f:Int) (t:Int) 8 (i:Int)=some ((f':Int),(t':Int))∧gleberef1_zeros.l0 k' at_ (long:Int) (i:Int) a b=some (at',(long':Int))∧ZR f' t' at' long':=by
 intro d
 induction d with
 |zero=>
  intro i k k' f t at_ long hi hk hk' z
  obtain⟨k,rfl⟩:∃ m,k=m+1:=⟨k - 1,by omega⟩
  obtain⟨k',rfl⟩:∃ m,k'=m+1:=⟨k' - 1,by omega⟩
  unfold addr_zeros.l0 gleberef1_zeros.l0
  rw[if_neg (by omega),if_neg (by omega)]
  exact⟨f,t,at_,long,rfl,rfl,z⟩
 |succ d ih=>
  intro i k k' f t at_ long hi hk hk' z
  obtain⟨k,rfl⟩:∃ m,k=m+1:=⟨k - 1,by omega⟩
  obtain⟨k',rfl⟩:∃ m,k'=m+1:=⟨k' - 1,by omega⟩
  have c:(i:Int) < 8:=by omega
  unfold addr_zeros.l0 gleberef1_zeros.l0
  rw[if_pos c,if_pos c]
  exact ySc (K:=12 * d+2) (by omega) (fun k k' f t at_ long hk hk' z=>ih (i+1) k k' f t at_ long (by omega) hk hk' z) (d+1) i k k' f t at_ long (by omega) (Nat.le_refl _) (by omega) (by omega) z
theorem yFn (a b:Int){k:Nat}(hk:98≤k):∃ (f t:Nat) (at_:Int) (long:Nat),zGe (zDc a++zDc b) ()=some ((f:Int),(t:Int))∧gleberef1_zeros.f k a b=some (at_,(long:Int))∧ZR f t at_ long:=by
 unfold zGe addr_zeros.f gleberef1_zeros.f
 rw[if_pos (by show 8≤8;decide),show(((zDc a++zDc b).length:Nat):Int)=8 from rfl]
 exact yO2 8 0 300 k 0 0 (-1) 1 (by decide) (by decide) (by omega) (Or.inl ⟨rfl,rfl,rfl,rfl⟩)
def zOq (s:List UInt8):List UInt8:=if s=[]∨s.getLast?=some 58 then[] else[58]
theorem zMy (s t:List UInt8):mkB s++mkB t=mkB (s++t):=by
 refine zOm ?_
 simp[mkB]
theorem zSq (n:Nat)(h:n < 65536)(s:List UInt8):zOq (s++Txt.hexT n)=[58]:=by
 unfold zOq
 have hne:=Txt.hexT_ne n
 have hno:(58:UInt8)∉Txt.hexT n:=Txt.hexT_sgn h (by decide)
 refine if_neg (fun q=>?_)
 rcases q with q|q
 ·exact hne (List.append_eq_nil_iff.1 q).2
 ·cases e:(Txt.hexT n).getLast? with
  |none=>exact hne (List.getLast?_eq_none_iff.1 e)
  |some x=>
   rw[List.getLast?_append,e] at q
   have hx:x=58:=by simpa using q
   rw[hx] at e
   exact hno (List.mem_of_getLast? e)
theorem yG5 {s:List UInt8}(h:s≠[])(hl:s.length≤200):(bt (mkB s) (((s.length - 1:Nat)):Int) != 58)=decide (zOq s=[58]):=by
 have hlt:s.length - 1 < s.length:=by cases s with|nil=>exact absurd rfl h|cons a t=>simp
 have hx:=List.getElem?_eq_getElem hlt
 have hb:=zHx (s:=mkB s) (i:=s.length - 1) (x:=s[s.length - 1]) (by show(List.toArray s).toList[s.length - 1]?=_;simp)
 have hg:s.getLast?=some s[s.length - 1]:=by rw[List.getLast?_eq_getElem?];exact hx
 rw[hb]
 unfold zOq
 rw[hg]
 by_cases q:s[s.length - 1]=58
 ·rw[q,if_pos (Or.inr rfl)];rfl
 ·rw[if_neg (fun p=>by rcases p with p|p;exact h p;exact q (Option.some.inj p))]
  rw[show decide (([58]:List UInt8)=[58])=true from rfl]
  exact bne_iff_ne.2 (fun p=>q ((u58 _).1 p))
theorem zSr {V a b at_ long:Int}{ns:List Nat}(hg:∀ i:Nat,i < 8→gleberef1_group.f a b (i:Int)=some ((ns.getD i 0:Nat):Int))(hn:∀ n∈ns,n < 65536)(hl8:ns.length=8):
  ∀ (d i k:Nat) (s:List UInt8),i+d=8→(∀ j:Nat,i≤j→j < 8→(j:Int)≠at_)→2 * d+10≤k→s.length+6 * d≤100→
  gleberef1_Print.l0 k at_ long (mkB s) (i:Int) V a b=some (mkB (s++(if d=0 then[] else zOq s++Lib.join ((ns.drop i).map Txt.hexT) [58]))):=by
 intro d
 induction d with
 |zero=>
  intro i k s hi ha hk hs
  obtain⟨k,rfl⟩:∃ m,k=m+1:=⟨k - 1,by omega⟩
  rw[gleberef1_Print.l0,if_neg (by omega),if_pos rfl,List.append_nil]
 |succ d ih=>
  intro i k s hi ha hk hs
  obtain⟨k,rfl⟩:∃ m,k=m+2:=⟨k - 2,by omega⟩
  have hlt:i < ns.length:=by omega
  have hgd:ns.getD i 0=ns[i]:=by rw[List.getD_eq_getElem?_getD,List.getElem?_eq_getElem hlt];rfl
  have hni:=hn _ (List.getElem_mem hlt)
  have hd:ns.drop i=ns[i]::ns.drop (i+1):=List.drop_eq_getElem_cons hlt
  have eg:=hg i (by omega)
  rw[hgd] at eg
  have eh:∀ m,5≤m→gleberef1_hex.f m ((ns[i]:Nat):Int)=some (mkB (Txt.hexT ns[i])):=fun m hm=>zVz hni hm
  have hlen:=(Txt.hexT_len ns[i]).2
  have next:∀ s':List UInt8,s'.length≤s.length+1→gleberef1_Print.l0 k at_ long (mkB (s'++Txt.hexT ns[i])) ((i+1:Nat):Int) V a b=some (mkB (s'++Lib.join ((ns.drop i).map Txt.hexT) [58])):=by
   intro s' hs'
   rw[ih (i+1) k (s'++Txt.hexT ns[i]) (by omega) (fun j h1 h2=>ha j (by omega) h2) (by omega) (by rw[List.length_append];omega),zSq _ hni,hd]
   congr 2
   cases e:ns.drop (i+1) with
   |nil=>
    have hd0:d=0:=by
     have:=congrArg List.length e
     rw[List.length_drop,List.length_nil] at this
     omega
    rw[if_pos hd0,List.map_cons,List.map_nil]
    simp[Lib.join]
   |cons m r=>
    have hd0:d≠0:=by
     have:=congrArg List.length e
     rw[List.length_drop,List.length_cons] at this
     omega
    simp only[if_neg hd0,List.map_cons]
    rw[Txt.join_more]
    simp
  have ej:∀ c:Bool,c=decide (zOq s=[58])→gleberef1_Print.j1 (k+1) at_ long (mkB s) (i:Int) c V a b=some (mkB (s++(zOq s++Lib.join ((ns.drop i).map Txt.hexT) [58]))):=by
   intro c hc
   have hcol:(⟨#[58]⟩:ByteArray)=mkB [58]:=rfl
   rw[gleberef1_Print.j1]
   simp only[eg,eh k (by omega),Option.bind_some]
   rw[zJt (by omega) (by omega),show((i:Int)+1)=((i+1:Nat):Int) by omega,hcol,zMy,zMy,zMy]
   by_cases hsep:zOq s=[58]
   ·rw[hc,decide_eq_true hsep,if_pos rfl,if_pos (by rw[zDi];omega),if_pos (by rw[zDi,zDi,List.length_append,List.length_singleton];omega),hsep,next (s++[58]) (by rw[List.length_append,List.length_singleton];omega)]
    rw[List.append_assoc]
   ·have hs0:zOq s=[]:=by
     unfold zOq at hsep ⊢
     split
     ·rfl
     ·rename_i q
      rw[if_neg q] at hsep
      exact absurd rfl hsep
    rw[hc,decide_eq_false hsep,if_neg (by decide),if_pos (by rw[zDi,zDi];omega),hs0,next s (by omega),List.nil_append]
  rw[gleberef1_Print.l0,if_pos (by omega),if_neg (ha i (Nat.le_refl _) (by omega)),zP9,zDi,if_neg (show ¬ d+1=0 by omega)]
  by_cases h0:s=[]
  ·rw[if_pos h0]
   refine ej false ?_
   rw[h0];rfl
  ·have h1:1≤s.length:=by cases s with|nil=>exact absurd rfl h0|cons x t=>simp
   rw[if_neg h0,zJt (by omega) (by omega),show((s.length:Int) - 1)=((s.length - 1:Nat):Int) by omega,if_pos (by omega),if_pos (by omega)]
   exact ej _ (yG5 h0 (by omega))
theorem yCc {V a b at_ long:Int}{n i k:Nat}{s:List UInt8}(eg:gleberef1_group.f a b (i:Int)=some (n:Int))(hni:n < 65536)(hi:i < 8)(ha:(i:Int)≠at_)(hk:5≤k)(hs:s.length≤100){R:List UInt8→List UInt8}
  (next:∀ s':List UInt8,s'.length≤s.length+1→gleberef1_Print.l0 k at_ long (mkB (s'++Txt.hexT n)) ((i+1:Nat):Int) V a b=some (mkB (R s'))):
  gleberef1_Print.l0 (k+2) at_ long (mkB s) (i:Int) V a b=some (mkB (R (s++zOq s))):=by
 have eh:gleberef1_hex.f k (n:Int)=some (mkB (Txt.hexT n)):=zVz hni hk
 have hlen:=(Txt.hexT_len n).2
 have ej:∀ c:Bool,c=decide (zOq s=[58])→gleberef1_Print.j1 (k+1) at_ long (mkB s) (i:Int) c V a b=some (mkB (R (s++zOq s))):=by
  intro c hc
  have hcol:(⟨#[58]⟩:ByteArray)=mkB [58]:=rfl
  rw[gleberef1_Print.j1]
  simp only[eg,eh,Option.bind_some]
  rw[zJt (by omega) (by omega),show((i:Int)+1)=((i+1:Nat):Int) by omega,hcol,zMy,zMy,zMy]
  by_cases hsep:zOq s=[58]
  ·rw[hc,decide_eq_true hsep,if_pos rfl,if_pos (by rw[zDi];omega),if_pos (by rw[zDi,zDi,List.length_append,List.length_singleton];omega),hsep,next (s++[58]) (by rw[List.length_append,List.length_singleton];omega)]
  ·have hs0:zOq s=[]:=by
    unfold zOq at hsep ⊢
    split
    ·rfl
    ·rename_i q
     rw[if_neg q] at hsep
     exact absurd rfl hsep
   rw[hc,decide_eq_false hsep,if_neg (by decide),if_pos (by rw[zDi,zDi];omega),hs0,next s (by omega),List.append_nil]
 rw[gleberef1_Print.l0,if_pos (by omega),if_neg ha,zP9,zDi]
 by_cases h0:s=[]
 ·rw[if_pos h0]
  refine ej false ?_
  rw[h0];rfl
 ·have h1:1≤s.length:=by cases s with|nil=>exact absurd rfl h0|cons x t=>simp
  rw[if_neg h0,zJt (by omega) (by omega),show((s.length:Int) - 1)=((s.length - 1:Nat):Int) by omega,if_pos (by omega),if_pos (by omega)]
  exact ej _ (yG5 h0 (by omega))
theorem yMi (s:List UInt8):zOq (s++[58,58])=[]:=by
 unfold zOq
 refine if_pos (Or.inr ?_)
 rw[List.getLast?_append]
 rfl
theorem yCd {V a b:Int}{ns:List Nat}(hg:∀ i:Nat,i < 8→gleberef1_group.f a b (i:Int)=some ((ns.getD i 0:Nat):Int))(hn:∀ n∈ns,n < 65536)(hl8:ns.length=8){f t:Nat}(hft:f+2≤t)(ht:t≤8):
  ∀ (d i k:Nat) (s:List UInt8),i+d=f→2 * d+40≤k→s.length+6 * d≤40→
  gleberef1_Print.l0 k (f:Int) ((t - f:Nat):Int) (mkB s) (i:Int) V a b=some (mkB (s++((if d=0 then[] else zOq s++Lib.join (((ns.take f).drop i).map Txt.hexT) [58])++([58,58]++Lib.join ((ns.drop t).map Txt.hexT) [58])))):=by
 intro d
 induction d with
 |zero=>
  intro i k s hi hk hs
  obtain⟨k,rfl⟩:∃ m,k=m+1:=⟨k - 1,by omega⟩
  have hif:i=f:=by omega
  subst hif
  have hcol:(⟨#[58,58]⟩:ByteArray)=mkB [58,58]:=rfl
  rw[gleberef1_Print.l0,if_pos (by omega),if_pos rfl,if_pos (by rw[zDi];omega),hcol,zMy,zJt (n:=(i:Int)+((t - i:Nat):Int)) (by omega) (by omega),zJt (n:=(i:Int)+((t - i:Nat):Int) - 1) (by omega) (by omega),zJt (by omega) (by omega),
   show((i:Int)+((t - i:Nat):Int) - 1+1)=(t:Int) by omega,zSr hg hn hl8 (8 - t) t k (s++[58,58]) (by omega) (fun j h1 _=>by omega) (by omega) (by rw[List.length_append];simp;omega),yMi,if_pos rfl]
  congr 2
  by_cases h8:t=8
  ·rw[if_pos (by omega),show ns.drop t=[] from List.drop_eq_nil_of_le (by omega)]
   simp[Lib.join]
  ·rw[if_neg (by omega)]
   simp
 |succ d ih=>
  intro i k s hi hk hs
  obtain⟨k,rfl⟩:∃ m,k=m+2:=⟨k - 2,by omega⟩
  have hlt:i < ns.length:=by omega
  have hgd:ns.getD i 0=ns[i]:=by rw[List.getD_eq_getElem?_getD,List.getElem?_eq_getElem hlt];rfl
  have hni:=hn _ (List.getElem_mem hlt)
  have hlt2:i < (ns.take f).length:=by rw[List.length_take];omega
  have hd:(ns.take f).drop i=ns[i]::(ns.take f).drop (i+1):=by
   rw[List.drop_eq_getElem_cons hlt2,List.getElem_take]
  have eg:=hg i (by omega)
  rw[hgd] at eg
  have hlen:=(Txt.hexT_len ns[i]).2
  refine(yCc eg hni (by omega) (by omega) (by omega) (by omega) (R:=fun s'=>s'++(Lib.join (((ns.take f).drop i).map Txt.hexT) [58]++([58,58]++Lib.join ((ns.drop t).map Txt.hexT) [58]))) fun s' hs'=>?_).trans ?_
  ·rw[ih (i+1) k (s'++Txt.hexT ns[i]) (by omega) (by omega) (by rw[List.length_append];omega),zSq _ hni,hd]
   congr 2
   cases e:(ns.take f).drop (i+1) with
   |nil=>
    have hd0:d=0:=by
     have:=congrArg List.length e
     rw[List.length_drop,List.length_take,List.length_nil] at this
     omega
    rw[if_pos hd0,List.map_cons,List.map_nil]
    simp[Lib.join]
   |cons m r=>
    have hd0:d≠0:=by
     have:=congrArg List.length e
     rw[List.length_drop,List.length_take,List.length_cons] at this
     omega
    simp only[if_neg hd0,List.map_cons]
    rw[Txt.join_more]
    simp
  ·rw[if_neg (show ¬ d+1=0 by omega)]
   simp
end Go.Proofs.YtfnacgojmdbjmaaGreatDoor
namespace Go.Proofs.YtfnacgojmdbjmaaGreatDoor
open Go.Det Go.RowKit YtfnacgojmdbjmaaGreatDoorW.PrintWords PPPT PPH PRD
theorem yCe {h l:Nat}(hh:h < 18446744073709551616)(hl:l < 18446744073709551616){k:Nat}(hk:300≤k):∃ s,prF 6 (h:Int) (l:Int)=some s∧PPPT.gleberef1_Print.f k 6 (h:Int) (l:Int)=some s:=by
 obtain⟨ns,hns⟩:∃ ns,ns=[h / 281474976710656 % 65536,h / 4294967296 % 65536,h / 65536 % 65536,h % 65536,l / 281474976710656 % 65536,l / 4294967296 % 65536,l / 65536 % 65536,l % 65536]:=⟨_,rfl⟩
 have G:G8 ns:=by
  subst hns
  refine⟨rfl,fun n hn=>?_⟩
  simp only[List.mem_cons,List.not_mem_nil,or_false] at hn
  rcases hn with rfl|rfl|rfl|rfl|rfl|rfl|rfl|rfl<;>omega
 have hg:grp (h:Int) (l:Int)=zDh ns:=by
  unfold grp zDh
  rw[zP6 hh,zP6 hl,hns]
  simp only[List.map_cons,List.map_nil,List.cons_append,List.nil_append]
 have hpr:∀ s,((zGe (zDh ns) ()).bind fun ij=>pr6 (zDh ns) ij)=some s→prF 6 (h:Int) (l:Int)=some s:=by
  intro s hs
  unfold prF okF
  rw[if_pos rfl,Option.bind_some,if_pos rfl,if_neg (by decide),hg]
  exact hs
 have hgr:∀ i:Nat,i < 8→gleberef1_group.f (h:Int) (l:Int) (i:Int)=some ((ns.getD i 0:Nat):Int):=by
  intro i hi
  rw[zSp _ _ i hi,show zDc (h:Int)++zDc (l:Int)=zDh ns from hg]
  unfold zDh
  rw[List.getD_eq_getElem?_getD,List.getElem?_map,List.getD_eq_getElem?_getD,List.getElem?_eq_getElem (by rw[G.len];exact hi)]
  rfl
 obtain⟨f,t,hz,hm,hP⟩:=zVn (l:=zDh ns) (by rw[zI3,G.len])
 obtain⟨f',t',at_,long,z1,z2,z3⟩:=yFn (h:Int) (l:Int) (k:=k) (by omega)
 rw[show zDc (h:Int)++zDc (l:Int)=zDh ns from hg,hz] at z1
 have hf:f'=f:=by have:=congrArg Prod.fst (Option.some.inj z1);simp only at this;omega
 have ht':t'=t:=by have:=congrArg Prod.snd (Option.some.inj z1);simp only at this;omega
 subst hf
 subst ht'
 have eok:PPPT.gleberef1_Ok.f 6 (h:Int) (l:Int)=some true:=by
  unfold PPPT.gleberef1_Ok.f PRD.gleberef1_Ok.f
  rw[if_pos rfl]
 have hsep:zOq []=[]:=if_pos (Or.inl rfl)
 have emp:(⟨#[]⟩:ByteArray)=mkB []:=rfl
 unfold PPPT.gleberef1_Print.f
 rw[eok,Option.bind_some,if_pos rfl,if_neg (by decide),z2,Option.bind_some,emp]
 rcases z3 with⟨rfl,rfl,rfl,rfl⟩|⟨hft,ht,rfl,rfl⟩
 ·have htx:=zJs G.lt (by rw[G.len];omega)
  have hlp:=zSr (V:=6) (at_:=-1) (long:=((1:Nat):Int)) hgr G.lt G.len 8 0 k [] (by decide) (fun j _ _=>by omega) (by omega) (by decide)
  rw[if_neg (by decide),hsep,List.drop_zero,List.nil_append,List.nil_append,show((0:Nat):Int)=0 from rfl] at hlp
  refine⟨_,hpr _ ?_,hlp⟩
  rw[hz,Option.bind_some]
  unfold pr6
  rw[if_pos (show((((0:Nat):Int),((0:Nat):Int)):Int×Int)=(0,0) from rfl)]
  exact htx
 ·have lf:(ns.take f').length≤8:=by rw[List.length_take,G.len];omega
  have lt:(ns.drop t').length≤8:=by rw[List.length_drop,G.len];omega
  have gf:∀ n∈ns.take f',n < 65536:=fun n hn=>G.lt n (List.mem_of_mem_take hn)
  have gt:∀ n∈ns.drop t',n < 65536:=fun n hn=>G.lt n (List.mem_of_mem_drop hn)
  have l1:=zBy lf
  have l2:=zBy lt
  have t1:=zJs gf lf
  have t2:=zJs gt lt
  have hlp:=yCd (V:=6) hgr G.lt G.len hft ht f' 0 k [] (by omega) (by omega) (by simp;omega)
  rw[hsep,List.drop_zero,List.nil_append,List.nil_append,show((0:Nat):Int)=0 from rfl] at hlp
  refine⟨_,hpr _ ?_,hlp⟩
  rw[hz,Option.bind_some]
  unfold pr6
  rw[if_neg (by intro e;have:=congrArg Prod.snd e;simp only at this;omega),if_pos hm]
  simp only[Int.toNat_natCast]
  have e1:(zDh ns).take f'=(ns.take f').map fun(n:Nat)=>(n:Int):=(List.map_take ..).symm
  have e2:(zDh ns).drop t'=(ns.drop t').map fun(n:Nat)=>(n:Int):=(List.map_drop ..).symm
  rw[e1,e2,t1,Option.bind_some,t2,Option.bind_some,if_pos (by rw[zFa,zFa];omega),yG0]
  refine congrArg some (zOm ?_)
  by_cases h0:f'=0
  ·subst h0
   simp[mkB,Lib.join]
  ·rw[if_neg h0]
   simp[mkB]
theorem zFo:∀ n:Fin 256,(zDj n.val).size≤3:=by decide +kernel
theorem zJu {n k:Nat}(h:n < 256)(hk:6≤k):gleberef1_Text.f k (n:Int)=some (zDj n):=
 zOj (f:=fun k=>gleberef1_Text.f k (n:Int)) (fun k=>gleberef1_Text.mono (n:Int) k) (by rw[← zVq h];exact yFl h) k hk
theorem yCf {q:Nat}(hq:q < 4294967296){k:Nat}(hk:6≤k):∃ s,prF 4 0 (q:Int)=some ⟨⟨s⟩⟩∧PPPT.gleberef1_Print.f k 4 0 (q:Int)=some ⟨⟨s⟩⟩:=by
 have hp:prF 4 0 (q:Int)=some ⟨⟨zXt (q / 16777216 % 256) (q / 65536 % 256) (q / 256 % 256) (q % 256)⟩⟩:=by
  have b0:=zG6 (q:=q) (by omega) 24 (by omega)
  have b1:=zG6 (q:=q) (by omega) 16 (by omega)
  have b2:=zG6 (q:=q) (by omega) 8 (by omega)
  have b3:=zG6 (q:=q) (by omega) 0 (by omega)
  have e0:q / 2 ^ 24 % 256=q / 16777216 % 256:=rfl
  have e1:q / 2 ^ 16 % 256=q / 65536 % 256:=rfl
  have e2:q / 2 ^ 8 % 256=q / 256 % 256:=rfl
  have e3:q / 2 ^ 0 % 256=q % 256:=by rw[Nat.pow_zero,Nat.div_one]
  rw[e0] at b0
  rw[e1] at b1
  rw[e2] at b2
  rw[e3] at b3
  have hj:=zSj (q / 16777216 % 256) (q / 65536 % 256) (q / 256 % 256) (q % 256)
  unfold prF okF
  rw[if_neg (by decide),if_pos rfl,if_pos rfl,Option.bind_some,if_pos (by rw[decide_eq_true_eq];omega),if_pos rfl]
  unfold pr4
  have b0':zKc (zB2 .u64 (zBm .u64 (q:Int) 24) 255)=_:=b0
  have b1':zKc (zB2 .u64 (zBm .u64 (q:Int) 16) 255)=_:=b1
  have b2':zKc (zB2 .u64 (zBm .u64 (q:Int) 8) 255)=_:=b2
  have b3':zKc (zB2 .u64 (zBm .u64 (q:Int) 0) 255)=_:=b3
  rw[b0',Option.bind_some,b1',Option.bind_some,b2',Option.bind_some,b3',Option.bind_some,hj]
 refine⟨_,hp,?_⟩
 have d0:((q:Int) / 16777216)=((q / 16777216 % 256:Nat):Int):=by omega
 have low:∀ x:Nat,x < 18446744073709551616→Go.bits .and .u64 (x:Int) 255=((x % 256:Nat):Int):=fun x hx=>zH9 (k:=x) hx 8 (by decide)
 have d1:Go.bits .and .u64 ((q:Int) / 65536) 255=((q / 65536 % 256:Nat):Int):=by rw[show((q:Int) / 65536)=((q / 65536:Nat):Int) by omega];exact low _ (by omega)
 have d2:Go.bits .and .u64 ((q:Int) / 256) 255=((q / 256 % 256:Nat):Int):=by rw[show((q:Int) / 256)=((q / 256:Nat):Int) by omega];exact low _ (by omega)
 have d3:Go.bits .and .u64 (q:Int) 255=((q % 256:Nat):Int):=low _ (by omega)
 have s0:=zFo ⟨q / 16777216 % 256,by omega⟩
 have s1:=zFo ⟨q / 65536 % 256,by omega⟩
 have s2:=zFo ⟨q / 256 % 256,by omega⟩
 have s3:=zFo ⟨q % 256,by omega⟩
 have t0:=zJu (n:=q / 16777216 % 256) (by omega) hk
 have t1:=zJu (n:=q / 65536 % 256) (by omega) hk
 have t2:=zJu (n:=q / 256 % 256) (by omega) hk
 have t3:=zJu (n:=q % 256) (by omega) hk
 have eok:PPPT.gleberef1_Ok.f 4 0 (q:Int)=some true:=by
  unfold PPPT.gleberef1_Ok.f PRD.gleberef1_Ok.f
  rw[if_neg (by decide),if_pos rfl,if_pos rfl,decide_eq_true (by omega)]
 simp only at s0 s1 s2 s3
 unfold PPPT.gleberef1_Print.f
 rw[eok,Option.bind_some,if_pos rfl,if_pos rfl,d0,d1,d2,d3,t0,t1,t2,t3]
 simp only[Option.bind_some]
 have one:(⟨#[46]⟩:ByteArray).size=1:=rfl
 rw[if_pos (by omega),if_pos (by simp only[ByteArray.size_append];omega),if_pos (by simp only[ByteArray.size_append];omega),if_pos (by simp only[ByteArray.size_append];omega),
  if_pos (by simp only[ByteArray.size_append];omega),if_pos (by simp only[ByteArray.size_append];omega)]
 refine congrArg some (zOm ?_)
 simp[zXt,Lib.join,zDj]
theorem zV0 {V:Int}{B q:Nat}(hk:Kd' V B)(hq:q < 2 ^ B){k:Nat}(h3:300≤k):∃ s,PT s∧prF V (H q) (L q)=some ⟨⟨s⟩⟩∧PPPT.gleberef1_Print.f k V (H q) (L q)=some ⟨⟨s⟩⟩:=by
 have hM:M64=18446744073709551616:=rfl
 rcases hk with⟨rfl,rfl⟩|⟨rfl,rfl⟩
 ·have hq':q < 4294967296:=hq
  have e1:H q=0:=by unfold H;rw[hM];omega
  have e2:L q=(q:Int):=by unfold L;rw[hM];omega
  rw[e1,e2]
  obtain⟨s,hs,p1,_⟩:=yRf hq'
  obtain⟨t,p2,p3⟩:=yCf hq' (k:=k) (by omega)
  rw[p1] at p2
  cases p2
  exact⟨s,hs,p1,p3⟩
 ·have h1:q / M64 < 18446744073709551616:=by rw[hM];omega
  have h2:q % M64 < 18446744073709551616:=by rw[hM];omega
  obtain⟨s,hs,p1,_⟩:=yRg h1 h2
  obtain⟨t,p2,p3⟩:=yCe h1 h2 h3
  rw[p1] at p2
  cases p2
  exact⟨s,hs,p1,p3⟩
end Go.Proofs.YtfnacgojmdbjmaaGreatDoor
namespace Go.Proofs.YtfnacgojmdbjmaaGreatDoor
open Go.Det Go.RowKit YtfnacgojmdbjmaaGreatDoorW.PrintWords PPPT
open PRD (w64 Kd' H L)
theorem yFo (m:Int)(c:Nat)(hc:c≤255):∃ b:Nat,b≤c∧Go.bits .and .i64 m (c:Int)=(b:Int):=by
 have hb:(BitVec.ofInt 64 m &&& BitVec.ofInt 64 (c:Int)).toNat≤c:=by
  rw[BitVec.toNat_and]
  have:(BitVec.ofInt 64 (c:Int)).toNat=c:=by
   rw[BitVec.toNat_ofInt];omega
  rw[this]
  exact Nat.and_le_right
 refine⟨(BitVec.ofInt 64 m &&& BitVec.ofInt 64 (c:Int)).toNat,hb,?_⟩
 have hw:=wrap_i64 (x:=((BitVec.ofInt 64 m &&& BitVec.ofInt 64 (c:Int)).toNat:Int)) ⟨by omega,by omega⟩
 exact hw
theorem zQa (a b:Nat):Int.tmod (a:Int) (b:Int)=((a % b:Nat):Int):=rfl
theorem yMj {xs:List ByteArray}(h:∀ p∈xs,p.size≤8)(i:Int):(zB5 ByteArray.empty xs i).size≤8:=by
 unfold zB5
 rw[List.getD_eq_getElem?_getD]
 cases e:xs[i.toNat]? with
 |none=>exact Nat.zero_le _
 |some p=>exact h p (List.mem_of_getElem? e)
theorem yCg {v:Int}{l:List Int}{xs:List ByteArray}(h16:xs.length=16)(h8:∀ p∈xs,p.size≤8){i k:Nat}(hil:i < l.length)(hi:i < 100){s:ByteArray}(hs:s.size≤300){B:Nat}
  (next:∀ t:ByteArray,t.size≤s.size+8→∃ r,glebelaw2_Text.l0 k v l t xs ((i+1:Nat):Int)=some r∧r.size≤B) (n:Nat) (hn:n≤s.size):
  ∃ r,glebelaw2_Text.j2 (k+1) v l s xs (i:Int) (n:Int)=some r∧r.size≤B:=by
 obtain⟨b,hb,eb⟩:=yFo (rd l (i:Int)) 255 (by decide)
 obtain⟨c,hc,ec⟩:=yFo ((rd l (i:Int)) / 65536) 1 (by decide)
 have eb':Go.bits .and .i64 (rd l (i:Int)) 255=(b:Int):=eb
 have ec':Go.bits .and .i64 ((rd l (i:Int)) / 65536) 1=(c:Int):=ec
 obtain⟨m,hm⟩:∃ m:Nat,m=s.size - n:=⟨_,rfl⟩
 have hd:c % (m+1)≤m:=by have:=Nat.mod_lt c (show 0 < m+1 by omega);omega
 unfold glebelaw2_Text.j2
 rw[eb',ec',h16,w64 (n:=(s.size:Int) - n) (by omega) (by omega),show((s.size:Int) - n)=(m:Int) by omega,w64 (n:=(m:Int)+1) (by omega) (by omega),show((m:Int)+1)=((m+1:Nat):Int) by omega,
  zQa,zQa,w64 (n:=(n:Int)+((c % (m+1):Nat):Int)) (by omega) (by omega),w64 (n:=(i:Int)+1) (by omega) (by omega),show((i:Int)+1)=((i+1:Nat):Int) by omega]
 have hr:=yMj h8 ((b % 16:Nat):Int)
 have e1:(s.extract 0 ((n:Int).toNat)).size≤n:=by rw[ByteArray.size_extract];omega
 have e2:(s.extract ((n:Int)+((c % (m+1):Nat):Int)).toNat s.size).size≤s.size - n:=by rw[ByteArray.size_extract];omega
 rw[if_pos (by omega),if_pos (by omega),if_pos (by omega),if_pos (by omega),if_neg (by omega),if_pos (by omega),if_pos (by omega),if_pos (by omega),if_neg (by omega),if_pos (by omega),if_pos (by omega),if_pos (by rw[ByteArray.size_append];omega)]
 exact next _ (by rw[ByteArray.size_append,ByteArray.size_append];omega)
theorem ySd {v:Int}{l:List Int}{xs:List ByteArray}(h16:xs.length=16)(h8:∀ p∈xs,p.size≤8):∀ (d i k:Nat) (s:ByteArray),i+d=12→3 * d+5≤k→s.size+8 * d≤196→
  ∃ r,glebelaw2_Text.l0 k v l s xs (i:Int)=some r∧r.size≤s.size+8 * d:=by
 intro d
 induction d with
 |zero=>
  intro i k s hi hk hs
  obtain⟨k,rfl⟩:∃ m,k=m+2:=⟨k - 2,by omega⟩
  unfold glebelaw2_Text.l0
  rw[decide_eq_false (by omega)]
  split
  ·unfold glebelaw2_Text.j1
   rw[if_neg (by decide)]
   exact⟨_,rfl,by omega⟩
  ·unfold glebelaw2_Text.j1
   rw[if_neg (by decide)]
   exact⟨_,rfl,by omega⟩
 |succ d ih=>
  intro i k s hi hk hs
  obtain⟨k,rfl⟩:∃ m,k=m+3:=⟨k - 3,by omega⟩
  unfold glebelaw2_Text.l0
  split
  ·rename_i hlt
   have hil:i < l.length:=by omega
   have next:∀ t:ByteArray,t.size≤s.size+8→∃ r,glebelaw2_Text.l0 k v l t xs ((i+1:Nat):Int)=some r∧r.size≤s.size+8 * (d+1):=by
    intro t ht
    obtain⟨r,hr,hl⟩:=ih (i+1) k t (by omega) (by omega) (by omega)
    exact⟨r,hr,by omega⟩
   unfold glebelaw2_Text.j1
   rw[decide_eq_true (by omega),if_pos rfl,if_pos (by omega),if_pos (by omega),w64 (n:=(s.size:Int)+1) (by omega) (by omega),if_neg (by omega)]
   split
   ·exact yCg h16 h8 hil (by omega) (by omega) next s.size (Nat.le_refl _)
   ·obtain⟨b,hb,eb⟩:=yFo ((rd l (i:Int)) / 256) 255 (by decide)
    have eb':Go.bits .and .i64 ((rd l (i:Int)) / 256) 255=(b:Int):=eb
    rw[eb',show((s.size:Int)+1)=((s.size+1:Nat):Int) by omega,zQa]
    exact yCg h16 h8 hil (by omega) (by omega) next (b % (s.size+1)) (by have:=Nat.mod_lt b (show 0 < s.size+1 by omega);omega)
  ·unfold glebelaw2_Text.j1
   rw[if_neg (by decide)]
   exact⟨_,rfl,by omega⟩
theorem yFp {v a b:Int}{l:List Int}(ha:0≤a)(ha2:a < 18446744073709551616)(hb:0≤b)(hb2:b < 18446744073709551616):∃ r,glebelaw2_Text.f 300 v a b l=some r∧r.size≤196:=by
 obtain⟨V,B,q,h,hq,e⟩:=PRD.addr_at (k:=300) (by decide) v a b ha ha2 hb hb2
 have e':PPPT.glebelaw2_Addr.f v a b=some (V,H q,L q):=e
 obtain⟨s,hs,_,hp⟩:=zV0 h hq (k:=300) (Nat.le_refl _)
 have hl:=hs.len
 have hz:(⟨⟨s⟩⟩:ByteArray).size=s.length:=by show(List.toArray s).size=_;rw[List.size_toArray]
 unfold glebelaw2_Text.f
 rw[e',Option.bind_some,hp,Option.bind_some]
 refine Exists.elim (ySd (v:=v) (l:=l) (xs:=_) (by rfl) (by decide) 12 0 300 ⟨⟨s⟩⟩ (by decide) (by decide) (by omega)) fun r hr=>⟨r,hr.1,by omega⟩
end Go.Proofs.YtfnacgojmdbjmaaGreatDoor
namespace Go.Proofs.YtfnacgojmdbjmaaGreatDoor
open Go.Det Go.RowKit
theorem yCh (t0 t2 t5:TypeId):isTrue (zJf Tryz.prog (zEw zTv (zTl zPs)) 1000 80 9 [] (zAo (zPr t0 t2 t5) 64))=true:=by kernel_rfl
theorem yFq {W:World}{t0 t2 t5:TypeId}(L:Laying 6 W (zPr t0 t2 t5))(hs:6≤W.heap.size)(hW:Len W):zGh Tryz.prog W 6 9 yHs:=
 yHt (fn:=Tryz.f9) (c:=match Tryz.f9.body with|some c=>c|none=>.skip) L hs (by decide:6≤64) zAs okA zVc (fun w h1 h2=>zVd (hW.later h1 h2) 6) Tryz.func9 (by kernel_rfl) (by kernel_rfl) (yCh t0 t2 t5)
theorem yCi (w:World)(hG:GoodW w):Calls Tryz.prog 9 #[] w fun e w'=>e=.returned (.bool true)∧Below w.heap.size w w':=by
 obtain⟨t0,t2,t5,L⟩:=hG.lay
 exact zR2 (fn:=Tryz.f9) (c:=match Tryz.f9.body with|some c=>c|none=>.skip) (yFq L hG.size hG.len) (by decide) hG.size Tryz.func9 (by kernel_rfl) (by kernel_rfl) (s':=zAo [] 64) rfl rfl rfl (by intro h;cases h)
end Go.Proofs.YtfnacgojmdbjmaaGreatDoor
end

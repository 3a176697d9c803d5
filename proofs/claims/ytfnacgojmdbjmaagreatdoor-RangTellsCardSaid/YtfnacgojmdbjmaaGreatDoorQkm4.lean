/- Texts of a proof, joined: words of the print (those that are named here) and printed functions. -/
import Derived.Test.YtfnacgojmdbjmaaGreatDoorQkm3
import Derived.Shelf.Strings.Builder1
import Derived.Shelf.Strings.Builder2
import Derived.Shelf.Strings.OnBuilder
import Derived.Shelf.Small.Strs
import Derived.Shelf.Utf8.RuneCount
import Derived.Shelf.Strconv.Itoa0
import Derived.Shelf.Strconv.Itoa1
import Derived.Shelf.LaysM
import Derived.Shelf.Strconv.Itoa2
import Derived.Shelf.Strings.Search1
import Derived.Shelf.Strings.Search2
import Derived.Shelf.Strings.Search3
import Derived.Shelf.Strings.Cut
import Derived.Shelf.Strings.Count
import Derived.Shelf.Strings.Shaped
import Derived.Shelf.Strings.Split
import Derived.Shelf.Strings.SplitShaped
import Derived.Shelf.Unicode.Decode
import Derived.Shelf.Strings.RuneCount
import Derived.Shelf.Strings.Explode
import Derived.Shelf.Unicode.DecodeSlow
import Derived.Shelf.Unicode.DecodeAny
import Derived.Test.YtfnacgojmdbjmaaGreatDoorProg
import Derived.Below
import Derived.Deep.Draws
import Derived.Deep.AppendLies
import Derived.Maps.AppendAt
import Derived.OwnWalk
import Derived.Laws.BytesArg
import Derived.Laws.MakeOwn
import Derived.Laws.OwnMore
import Derived.Deep.OwnRows
import Derived.Tactics
import Derived.Lib.ConvBytes
import Derived.Laws.Slices
import Derived.WalkKit
import Derived.KernelRfl
import Derived.RowKit3
import Derived.Deep.LoopGhost
import Derived.Deep.QuietTactic
import Derived.BigQuiet
import Derived.WideLaws
import Derived.Deep.DeepCutAuto
import Derived.Deep.CutBlock
import Derived.Deep.RegionHeld3
import Derived.Laws.Rows
import Derived.Lib.AppendStr
import Derived.ArgAppend
import Derived.Laws.IdiomCopy
import Derived.RowKit
import Derived.OrdersHeld
import Derived.Laws.BitsLemmas
import Derived.Laws.StructEq
import Derived.SizedLaws
import Derived.ChangeSlices
import Derived.Test.YtfnacgojmdbjmaaGreatDoorQkm2
import Derived.Lib.Split
import Derived.Lib.Join
set_option linter.unusedSimpArgs false
set_option linter.unusedVariables false
set_option maxRecDepth 100000
noncomputable section
namespace Go.Proofs.YtfnacgojmdbjmaaGreatDoor
open Go.Det Go.RowKit PRD Go.Proofs.ZW
theorem bifW_c {p:Prop}{A B:Prop}(h1:p→A)(h2:¬ p→B):zAd (zAf p) A B:=zFs (fun h=>h1 (zBy.1 h)) (fun h=>h2 (zCm.1 h))
theorem bifW_b {b:Bool}{A B:Prop}(h1:b=true→A)(h2:¬ b=true→B):zAd b A B:=zFs h1 (fun h=>h2 (by rw[h];decide))
theorem bifW_n {b:Bool}{A B:Prop}(h1:b=true→B)(h2:¬ b=true→A):zAd (!b) A B:=by cases b;exact h2 (by decide);exact h1 rfl
theorem w45 (x:Int)(y:Int)(hx:Yr.f x=some y):zAo Tryz.prog (cwC L45) (zAa Tryz.f45) (zAg (yLn x) 8) (zAh [] 64) (zA2 Tryz.prog Tryz.f45 fun v' _=>v'=yLo y):=by
 refine(yZg x _).mpr ?_
 unfold Yr.f at hx
 try simp only[zBn,zA5,zBk]
 repeat' first
  |(obtain⟨y,hy,hx⟩:=xGs.1 hx;refine⟨y,hy,?_⟩)
  |((first|refine bifW_c (fun hc=>?_) fun hc=>?_|refine bifW_n (fun hc=>?_) fun hc=>?_|refine bifW_b (fun hc=>?_) fun hc=>?_)<;>first|rw[xGq hc] at hx|rw[xGr hc] at hx|rw[xGq (xG9.1 hc)] at hx)
  |(split at hx<;>first|(cases hx;done)|(refine xGy (by assumption) ?_))
  |(cases hx;rfl)
  |(cases hx;simp only[yLo,zAz,zAx,xHe])
theorem yR2 {W:World}(hW:GoodW W):zAk Tryz.prog W 6 45 con45.own:=
 zA0 yLn (Laying.empty hW.size) hW.size (by decide) zAl (zAb W 6) Tryz.func45 (fn:=Tryz.f45) (c:=zAa Tryz.f45) (by kernel_rfl) (by kernel_rfl) (fun _ _ h=>yCi h) (fun a=>⟨rfl,(by kernel_rfl)⟩) (fun b=>rfl) w45
theorem w55 (x:Int×Int×Int×Int)(y:Int×Int)(hx:Ys.f x.1 x.2.1 x.2.2.1 x.2.2.2=some y):zAo Tryz.prog (cwC L55) (zAa Tryz.f55) (zAg (yLq x) 8) (zAh [] 64) (zA2 Tryz.prog Tryz.f55 fun v' _=>v'=yLr y):=by
 obtain⟨a,b,c,d⟩:=x
 refine(yZh a b c d _).mpr ?_
 unfold Ys.f at hx
 try simp only[zBn,zA5,zBk]
 repeat' first
  |(obtain⟨y,hy,hx⟩:=xGs.1 hx;refine⟨y,hy,?_⟩)
  |((first|refine bifW_c (fun hc=>?_) fun hc=>?_|refine bifW_n (fun hc=>?_) fun hc=>?_|refine bifW_b (fun hc=>?_) fun hc=>?_)<;>first|rw[xGq hc] at hx|rw[xGr hc] at hx|rw[xGq (xG9.1 hc)] at hx)
  |(split at hx<;>first|(cases hx;done)|(refine xGy (by assumption) ?_))
  |(cases hx;rfl)
  |(cases hx;simp only[yLr,zAz,zAx,xHe])
theorem yR3 {W:World}(hW:GoodW W):zAk Tryz.prog W 6 55 con55.own:=
 zA0 yLq (Laying.empty hW.size) hW.size (by decide) zAl (zAb W 6) Tryz.func55 (fn:=Tryz.f55) (c:=zAa Tryz.f55) (by kernel_rfl) (by kernel_rfl) (fun _ _ h=>yCj h) (fun a=>⟨rfl,(by kernel_rfl)⟩) (fun b=>rfl) w55
theorem w57 (x:Int×Int)(y:Int×Int)(hx:YG.f x.1 x.2=some y):zAo Tryz.prog (cwC L57) (zAa Tryz.f57) (zAg (yLt x) 8) (zAh [] 64) (zA2 Tryz.prog Tryz.f57 fun v' _=>v'=yLu y):=by
 obtain⟨a,b⟩:=x
 refine(yZi a b _).mpr ?_
 unfold YG.f at hx
 try simp only[zBn,zA5,zBk]
 repeat' first
  |(obtain⟨y,hy,hx⟩:=xGs.1 hx;refine⟨y,hy,?_⟩)
  |((first|refine bifW_c (fun hc=>?_) fun hc=>?_|refine bifW_n (fun hc=>?_) fun hc=>?_|refine bifW_b (fun hc=>?_) fun hc=>?_)<;>first|rw[xGq hc] at hx|rw[xGr hc] at hx|rw[xGq (xG9.1 hc)] at hx)
  |(split at hx<;>first|(cases hx;done)|(refine xGy (by assumption) ?_))
  |(cases hx;rfl)
  |(cases hx;simp only[yLu,zAz,zAx,xHe])
theorem yVl {W:World}(hW:GoodW W):zAk Tryz.prog W 6 57 con57.own:=
 zA0 yLt (Laying.empty hW.size) hW.size (by decide) zAl (zAb W 6) Tryz.func57 (fn:=Tryz.f57) (c:=zAa Tryz.f57) (by kernel_rfl) (by kernel_rfl) (fun _ _ h=>yCk h) (fun a=>⟨rfl,(by kernel_rfl)⟩) (fun b=>rfl) w57
theorem w65 (x:Int×Int)(y:Int×Int)(hx:YF.f x.1 x.2=some y):zAo Tryz.prog (cwC L65) (zAa Tryz.f65) (zAg (yLw x) 8) (zAh [] 64) (zA2 Tryz.prog Tryz.f65 fun v' _=>v'=yLx y):=by
 obtain⟨a,b⟩:=x
 refine(yZj a b _).mpr ?_
 unfold YF.f at hx
 try simp only[zBn,zA5,zBk]
 repeat' first
  |(obtain⟨y,hy,hx⟩:=xGs.1 hx;refine⟨y,hy,?_⟩)
  |((first|refine bifW_c (fun hc=>?_) fun hc=>?_|refine bifW_n (fun hc=>?_) fun hc=>?_|refine bifW_b (fun hc=>?_) fun hc=>?_)<;>first|rw[xGq hc] at hx|rw[xGr hc] at hx|rw[xGq (xG9.1 hc)] at hx)
  |(split at hx<;>first|(cases hx;done)|(refine xGy (by assumption) ?_))
  |(cases hx;rfl)
  |(cases hx;simp only[yLx,zAz,zAx,xHe])
theorem yVm {W:World}(hW:GoodW W):zAk Tryz.prog W 6 65 con65.own:=
 zA0 yLw (Laying.empty hW.size) hW.size (by decide) zAl (OwnsAll.con (yR2 hW) (OwnsAll.con (yVi hW) (OwnsAll.con (yVl hW) (OwnsAll.con (yR3 hW) (zAb W 6))))) Tryz.func65 (fn:=Tryz.f65) (c:=zAa Tryz.f65) (by kernel_rfl) (by kernel_rfl) (fun _ _ h=>yCl h) (fun a=>⟨rfl,(by kernel_rfl)⟩) (fun b=>rfl) w65
theorem w44 (x:Int×Int×Int)(y:Bool)(hx:Ym.f x.1 x.2.1 x.2.2=some y):zAo Tryz.prog (cwC L44) (zAa Tryz.f44) (zAg (yHi x) 8) (zAh [] 64) (zA2 Tryz.prog Tryz.f44 fun v' _=>v'=yHj y):=by
 obtain⟨a,b,c⟩:=x
 refine(yZk a b c _).mpr ?_
 unfold Ym.f at hx
 try simp only[zBn,zA5,zBk]
 repeat' first
  |(obtain⟨y,hy,hx⟩:=xGs.1 hx;refine⟨y,hy,?_⟩)
  |((first|refine bifW_c (fun hc=>?_) fun hc=>?_|refine bifW_n (fun hc=>?_) fun hc=>?_|refine bifW_b (fun hc=>?_) fun hc=>?_)<;>first|rw[xGq hc] at hx|rw[xGr hc] at hx|rw[xGq (xG9.1 hc)] at hx)
  |(split at hx<;>first|(cases hx;done)|(refine xGy (by assumption) ?_))
  |(cases hx;rfl)
  |(cases hx;simp only[yHj,zAz,zAx,xHe])
theorem yQ3 {W:World}(hW:GoodW W):zAk Tryz.prog W 6 44 con44.own:=
 zA0 yHi (Laying.empty hW.size) hW.size (by decide) zAl (zAb W 6) Tryz.func44 (fn:=Tryz.f44) (c:=zAa Tryz.f44) (by kernel_rfl) (by kernel_rfl) (fun _ _ h=>yCm h) (fun a=>⟨rfl,(by kernel_rfl)⟩) (fun b=>rfl) w44
theorem w16 (x:Int×Int×Int×Int)(y:Bool)(hx:Yi.f x.1 x.2.1 x.2.2.1 x.2.2.2=some y):zAo Tryz.prog (cwC L16) (zAa Tryz.f16) (zAg (yLz x) 8) (zAh [] 64) (zA2 Tryz.prog Tryz.f16 fun v' _=>v'=yL0 y):=by
 obtain⟨a,b,c,d⟩:=x
 refine(yZl a b c d _).mpr ?_
 unfold Yi.f at hx
 try simp only[zBn,zA5,zBk]
 repeat' first
  |(obtain⟨y,hy,hx⟩:=xGs.1 hx;refine⟨y,hy,?_⟩)
  |((first|refine bifW_c (fun hc=>?_) fun hc=>?_|refine bifW_n (fun hc=>?_) fun hc=>?_|refine bifW_b (fun hc=>?_) fun hc=>?_)<;>first|rw[xGq hc] at hx|rw[xGr hc] at hx|rw[xGq (xG9.1 hc)] at hx)
  |(split at hx<;>first|(cases hx;done)|(refine xGy (by assumption) ?_))
  |(cases hx;rfl)
  |(cases hx;simp only[yL0,zAz,zAx,xHe])
theorem yVn {W:World}(hW:GoodW W):zAk Tryz.prog W 6 16 con16.own:=
 zA0 yLz (Laying.empty hW.size) hW.size (by decide) zAl (OwnsAll.con (yQ3 hW) (OwnsAll.con (yR2 hW) (OwnsAll.con (yVm hW) (OwnsAll.con (yR3 hW) (zAb W 6))))) Tryz.func16 (fn:=Tryz.f16) (c:=zAa Tryz.f16) (by kernel_rfl) (by kernel_rfl) (fun _ _ h=>yCn h) (fun a=>⟨rfl,(by kernel_rfl)⟩) (fun b=>rfl) w16
theorem w25 (x:Int×Int×Int×Int)(y:Int×Int×Int)(hx:Yq.f x.1 x.2.1 x.2.2.1 x.2.2.2=some y):zAo Tryz.prog (cwC L25) (zAa Tryz.f25) (zAg (yL2 x) 8) (zAh [] 64) (zA2 Tryz.prog Tryz.f25 fun v' _=>v'=yL3 y):=by
 obtain⟨a,b,c,d⟩:=x
 refine(yZm a b c d _).mpr ?_
 unfold Yq.f at hx
 try simp only[zBn,zA5,zBk]
 repeat' first
  |(obtain⟨y,hy,hx⟩:=xGs.1 hx;refine⟨y,hy,?_⟩)
  |((first|refine bifW_c (fun hc=>?_) fun hc=>?_|refine bifW_n (fun hc=>?_) fun hc=>?_|refine bifW_b (fun hc=>?_) fun hc=>?_)<;>first|rw[xGq hc] at hx|rw[xGr hc] at hx|rw[xGq (xG9.1 hc)] at hx)
  |(split at hx<;>first|(cases hx;done)|(refine xGy (by assumption) ?_))
  |(cases hx;rfl)
  |(cases hx;simp only[yL3,zAz,zAx,xHe])
theorem yZ3 {W:World}(hW:GoodW W):zAk Tryz.prog W 6 25 con25.own:=
 zA0 yL2 (Laying.empty hW.size) hW.size (by decide) zAl (OwnsAll.con (yVn hW) (OwnsAll.con (yVm hW) (OwnsAll.con (yVl hW) (OwnsAll.con (yR2 hW) (OwnsAll.con (yVi hW) (OwnsAll.con (yR3 hW) (zAb W 6))))))) Tryz.func25 (fn:=Tryz.f25) (c:=zAa Tryz.f25) (by kernel_rfl) (by kernel_rfl) (fun _ _ h=>yCo h) (fun a=>⟨rfl,(by kernel_rfl)⟩) (fun b=>rfl) w25
theorem w43 (x:Int×Int×Int×Int)(y:Int×Int×Bool)(hx:YN.f x.1 x.2.1 x.2.2.1 x.2.2.2=some y):zAo Tryz.prog (cwC L43) (zAa Tryz.f43) (zAg (yL5 x) 8) (zAh [] 64) (zA2 Tryz.prog Tryz.f43 fun v' _=>v'=yL6 y):=by
 obtain⟨a,b,c,d⟩:=x
 refine(yZn a b c d _).mpr ?_
 unfold YN.f at hx
 try simp only[zBn,zA5,zBk]
 repeat' first
  |(obtain⟨y,hy,hx⟩:=xGs.1 hx;refine⟨y,hy,?_⟩)
  |((first|refine bifW_c (fun hc=>?_) fun hc=>?_|refine bifW_n (fun hc=>?_) fun hc=>?_|refine bifW_b (fun hc=>?_) fun hc=>?_)<;>first|rw[xGq hc] at hx|rw[xGr hc] at hx|rw[xGq (xG9.1 hc)] at hx)
  |(split at hx<;>first|(cases hx;done)|(refine xGy (by assumption) ?_))
  |(cases hx;rfl)
  |(cases hx;simp only[yL6,zAz,zAx,xHe])
theorem yX8 {W:World}(hW:GoodW W):zAk Tryz.prog W 6 43 con43.own:=
 zA0 yL5 (Laying.empty hW.size) hW.size (by decide) zAl (zAb W 6) Tryz.func43 (fn:=Tryz.f43) (c:=zAa Tryz.f43) (by kernel_rfl) (by kernel_rfl) (fun _ _ h=>yCp h) (fun a=>⟨rfl,(by kernel_rfl)⟩) (fun b=>rfl) w43
theorem w10 (x:Int×Int×Int×Int)(y:Int×Int×Int×Int)(hx:YZ.f x.1 x.2.1 x.2.2.1 x.2.2.2=some y):zAo Tryz.prog (cwC L10) (zAa Tryz.f10) (zAg (yL8 x) 8) (zAh [] 64) (zA2 Tryz.prog Tryz.f10 fun v' _=>v'=yL9 y):=by
 obtain⟨a,b,c,d⟩:=x
 refine(yZo a b c d _).mpr ?_
 unfold YZ.f at hx
 try simp only[zBn,zA5,zBk]
 repeat' first
  |(obtain⟨y,hy,hx⟩:=xGs.1 hx;refine⟨y,hy,?_⟩)
  |((first|refine bifW_c (fun hc=>?_) fun hc=>?_|refine bifW_n (fun hc=>?_) fun hc=>?_|refine bifW_b (fun hc=>?_) fun hc=>?_)<;>first|rw[xGq hc] at hx|rw[xGr hc] at hx|rw[xGq (xG9.1 hc)] at hx)
  |(split at hx<;>first|(cases hx;done)|(refine xGy (by assumption) ?_))
  |(cases hx;rfl)
  |(cases hx;simp only[yL9,zAz,zAx,xHe])
theorem yZ4 {W:World}(hW:GoodW W):zAk Tryz.prog W 6 10 con10.own:=
 zA0 yL8 (Laying.empty hW.size) hW.size (by decide) zAl (OwnsAll.con (yX7 hW) (OwnsAll.con (yR2 hW) (OwnsAll.con (yVi hW) (OwnsAll.con (yVl hW) (OwnsAll.con (yR3 hW) (zAb W 6)))))) Tryz.func10 (fn:=Tryz.f10) (c:=zAa Tryz.f10) (by kernel_rfl) (by kernel_rfl) (fun _ _ h=>yCq h) (fun a=>⟨rfl,(by kernel_rfl)⟩) (fun b=>rfl) w10
theorem w66 (x:Int×Int×Int×Int)(y:Int×Int)(hx:YY.f x.1 x.2.1 x.2.2.1 x.2.2.2=some y):zAo Tryz.prog (cwC L66) (zAa Tryz.f66) (zAg (yMb x) 8) (zAh [] 64) (zA2 Tryz.prog Tryz.f66 fun v' _=>v'=yMc y):=by
 obtain⟨a,b,c,d⟩:=x
 refine(yZp a b c d _).mpr ?_
 unfold YY.f at hx
 try simp only[zBn,zA5,zBk]
 repeat' first
  |(obtain⟨y,hy,hx⟩:=xGs.1 hx;refine⟨y,hy,?_⟩)
  |((first|refine bifW_c (fun hc=>?_) fun hc=>?_|refine bifW_n (fun hc=>?_) fun hc=>?_|refine bifW_b (fun hc=>?_) fun hc=>?_)<;>first|rw[xGq hc] at hx|rw[xGr hc] at hx|rw[xGq (xG9.1 hc)] at hx)
  |(split at hx<;>first|(cases hx;done)|(refine xGy (by assumption) ?_))
  |(cases hx;rfl)
  |(cases hx;simp only[yMc,zAz,zAx,xHe])
theorem yVo {W:World}(hW:GoodW W):zAk Tryz.prog W 6 66 con66.own:=
 zA0 yMb (Laying.empty hW.size) hW.size (by decide) zAl (zAb W 6) Tryz.func66 (fn:=Tryz.f66) (c:=zAa Tryz.f66) (by kernel_rfl) (by kernel_rfl) (fun _ _ h=>yCr h) (fun a=>⟨rfl,(by kernel_rfl)⟩) (fun b=>rfl) w66
theorem w74 (x:Int×Int×Int×Int)(y:Int×Int)(hx:Yw0.f x.1 x.2.1 x.2.2.1 x.2.2.2=some y):zAo Tryz.prog (cwC L74) (zAa Tryz.f74) (zAg (yMe x) 8) (zAh [] 64) (zA2 Tryz.prog Tryz.f74 fun v' _=>v'=yMf y):=by
 obtain⟨a,b,c,d⟩:=x
 refine(yZq a b c d _).mpr ?_
 unfold Yw0.f at hx
 try simp only[zBn,zA5,zBk]
 repeat' first
  |(obtain⟨y,hy,hx⟩:=xGs.1 hx;refine⟨y,hy,?_⟩)
  |((first|refine bifW_c (fun hc=>?_) fun hc=>?_|refine bifW_n (fun hc=>?_) fun hc=>?_|refine bifW_b (fun hc=>?_) fun hc=>?_)<;>first|rw[xGq hc] at hx|rw[xGr hc] at hx|rw[xGq (xG9.1 hc)] at hx)
  |(split at hx<;>first|(cases hx;done)|(refine xGy (by assumption) ?_))
  |(cases hx;rfl)
  |(cases hx;simp only[yMf,zAz,zAx,xHe])
theorem yZ5 {W:World}(hW:GoodW W):zAk Tryz.prog W 6 74 con74.own:=
 zA0 yMe (Laying.empty hW.size) hW.size (by decide) zAl (zAb W 6) Tryz.func74 (fn:=Tryz.f74) (c:=zAa Tryz.f74) (by kernel_rfl) (by kernel_rfl) (fun _ _ h=>yCs h) (fun a=>⟨rfl,(by kernel_rfl)⟩) (fun b=>rfl) w74
theorem w72 (x:Int×Int)(y:Int×Int)(hx:Yi0.f x.1 x.2=some y):zAo Tryz.prog (cwC L72) (zAa Tryz.f72) (zAg (yMh x) 8) (zAh [] 64) (zA2 Tryz.prog Tryz.f72 fun v' _=>v'=yMi y):=by
 obtain⟨a,b⟩:=x
 refine(yZr a b _).mpr ?_
 unfold Yi0.f at hx
 try simp only[zBn,zA5,zBk]
 repeat' first
  |(obtain⟨y,hy,hx⟩:=xGs.1 hx;refine⟨y,hy,?_⟩)
  |((first|refine bifW_c (fun hc=>?_) fun hc=>?_|refine bifW_n (fun hc=>?_) fun hc=>?_|refine bifW_b (fun hc=>?_) fun hc=>?_)<;>first|rw[xGq hc] at hx|rw[xGr hc] at hx|rw[xGq (xG9.1 hc)] at hx)
  |(split at hx<;>first|(cases hx;done)|(refine xGy (by assumption) ?_))
  |(cases hx;rfl)
  |(cases hx;simp only[yMi,zAz,zAx,xHe])
theorem yX9 {W:World}(hW:GoodW W):zAk Tryz.prog W 6 72 con72.own:=
 zA0 yMh (Laying.empty hW.size) hW.size (by decide) zAl (zAb W 6) Tryz.func72 (fn:=Tryz.f72) (c:=zAa Tryz.f72) (by kernel_rfl) (by kernel_rfl) (fun _ _ h=>yCt h) (fun a=>⟨rfl,(by kernel_rfl)⟩) (fun b=>rfl) w72
theorem w69 (x:Int)(y:Int)(hx:YO.f x=some y):zAo Tryz.prog (cwC L69) (zAa Tryz.f69) (zAg (yMk x) 8) (zAh [] 64) (zA2 Tryz.prog Tryz.f69 fun v' _=>v'=yMl y):=by
 refine(yZs x _).mpr ?_
 unfold YO.f at hx
 try simp only[zBn,zA5,zBk]
 repeat' first
  |(obtain⟨y,hy,hx⟩:=xGs.1 hx;refine⟨y,hy,?_⟩)
  |((first|refine bifW_c (fun hc=>?_) fun hc=>?_|refine bifW_n (fun hc=>?_) fun hc=>?_|refine bifW_b (fun hc=>?_) fun hc=>?_)<;>first|rw[xGq hc] at hx|rw[xGr hc] at hx|rw[xGq (xG9.1 hc)] at hx)
  |(split at hx<;>first|(cases hx;done)|(refine xGy (by assumption) ?_))
  |(cases hx;rfl)
  |(cases hx;simp only[yMl,zAz,zAx,xHe])
theorem yUb {W:World}(hW:GoodW W):zAk Tryz.prog W 6 69 con69.own:=
 zA0 yMk (Laying.empty hW.size) hW.size (by decide) zAl (zAb W 6) Tryz.func69 (fn:=Tryz.f69) (c:=zAa Tryz.f69) (by kernel_rfl) (by kernel_rfl) (fun _ _ h=>yCu h) (fun a=>⟨rfl,(by kernel_rfl)⟩) (fun b=>rfl) w69
theorem w73 (x:Int)(y:Int×Int)(hx:Yh0.f x=some y):zAo Tryz.prog (cwC L73) (zAa Tryz.f73) (zAg (yMn x) 8) (zAh [] 64) (zA2 Tryz.prog Tryz.f73 fun v' _=>v'=yMo y):=by
 refine(yZt x _).mpr ?_
 unfold Yh0.f at hx
 try simp only[zBn,zA5,zBk]
 repeat' first
  |(obtain⟨y,hy,hx⟩:=xGs.1 hx;refine⟨y,hy,?_⟩)
  |((first|refine bifW_c (fun hc=>?_) fun hc=>?_|refine bifW_n (fun hc=>?_) fun hc=>?_|refine bifW_b (fun hc=>?_) fun hc=>?_)<;>first|rw[xGq hc] at hx|rw[xGr hc] at hx|rw[xGq (xG9.1 hc)] at hx)
  |(split at hx<;>first|(cases hx;done)|(refine xGy (by assumption) ?_))
  |(cases hx;rfl)
  |(cases hx;simp only[yMo,zAz,zAx,xHe])
theorem yYa {W:World}(hW:GoodW W):zAk Tryz.prog W 6 73 con73.own:=
 zA0 yMn (Laying.empty hW.size) hW.size (by decide) zAl (OwnsAll.con (yZe hW) (zAb W 6)) Tryz.func73 (fn:=Tryz.f73) (c:=zAa Tryz.f73) (by kernel_rfl) (by kernel_rfl) (fun _ _ h=>yCv h) (fun a=>⟨rfl,(by kernel_rfl)⟩) (fun b=>rfl) w73
theorem w67 (x:Int×Int)(y:Int×Int)(hx:YP.f x.1 x.2=some y):zAo Tryz.prog (cwC L67) (zAa Tryz.f67) (zAg (yMq x) 8) (zAh [] 64) (zA2 Tryz.prog Tryz.f67 fun v' _=>v'=yMr y):=by
 obtain⟨a,b⟩:=x
 refine(yZu a b _).mpr ?_
 unfold YP.f at hx
 try simp only[zBn,zA5,zBk]
 repeat' first
  |(obtain⟨y,hy,hx⟩:=xGs.1 hx;refine⟨y,hy,?_⟩)
  |((first|refine bifW_c (fun hc=>?_) fun hc=>?_|refine bifW_n (fun hc=>?_) fun hc=>?_|refine bifW_b (fun hc=>?_) fun hc=>?_)<;>first|rw[xGq hc] at hx|rw[xGr hc] at hx|rw[xGq (xG9.1 hc)] at hx)
  |(split at hx<;>first|(cases hx;done)|(refine xGy (by assumption) ?_))
  |(cases hx;rfl)
  |(cases hx;simp only[yMr,zAz,zAx,xHe])
theorem yVp {W:World}(hW:GoodW W):zAk Tryz.prog W 6 67 con67.own:=
 zA0 yMq (Laying.empty hW.size) hW.size (by decide) zAl (OwnsAll.con (yUb hW) (OwnsAll.con (yYa hW) (zAb W 6))) Tryz.func67 (fn:=Tryz.f67) (c:=zAa Tryz.f67) (by kernel_rfl) (by kernel_rfl) (fun _ _ h=>yCw h) (fun a=>⟨rfl,(by kernel_rfl)⟩) (fun b=>rfl) w67
theorem w68 (x:Int×Int×Int)(y:Bool)(hx:YK.f x.1 x.2.1 x.2.2=some y):zAo Tryz.prog (cwC L68) (zAa Tryz.f68) (zAg (yMt x) 8) (zAh [] 64) (zA2 Tryz.prog Tryz.f68 fun v' _=>v'=yMu y):=by
 obtain⟨a,b,c⟩:=x
 refine(yZv a b c _).mpr ?_
 unfold YK.f at hx
 try simp only[zBn,zA5,zBk]
 repeat' first
  |(obtain⟨y,hy,hx⟩:=xGs.1 hx;refine⟨y,hy,?_⟩)
  |((first|refine bifW_c (fun hc=>?_) fun hc=>?_|refine bifW_n (fun hc=>?_) fun hc=>?_|refine bifW_b (fun hc=>?_) fun hc=>?_)<;>first|rw[xGq hc] at hx|rw[xGr hc] at hx|rw[xGq (xG9.1 hc)] at hx)
  |(split at hx<;>first|(cases hx;done)|(refine xGy (by assumption) ?_))
  |(cases hx;rfl)
  |(cases hx;simp only[yMu,zAz,zAx,xHe])
theorem yUc {W:World}(hW:GoodW W):zAk Tryz.prog W 6 68 con68.own:=
 zA0 yMt (Laying.empty hW.size) hW.size (by decide) zAl (zAb W 6) Tryz.func68 (fn:=Tryz.f68) (c:=zAa Tryz.f68) (by kernel_rfl) (by kernel_rfl) (fun _ _ h=>yCx h) (fun a=>⟨rfl,(by kernel_rfl)⟩) (fun b=>rfl) w68
theorem w22 (x:Int×Int×Int×Int)(y:Bool)(hx:YV.f x.1 x.2.1 x.2.2.1 x.2.2.2=some y):zAo Tryz.prog (cwC L22) (zAa Tryz.f22) (zAg (yMw x) 8) (zAh [] 64) (zA2 Tryz.prog Tryz.f22 fun v' _=>v'=yMx y):=by
 obtain⟨a,b,c,d⟩:=x
 refine(yZw a b c d _).mpr ?_
 unfold YV.f at hx
 try simp only[zBn,zA5,zBk]
 repeat' first
  |(obtain⟨y,hy,hx⟩:=xGs.1 hx;refine⟨y,hy,?_⟩)
  |((first|refine bifW_c (fun hc=>?_) fun hc=>?_|refine bifW_n (fun hc=>?_) fun hc=>?_|refine bifW_b (fun hc=>?_) fun hc=>?_)<;>first|rw[xGq hc] at hx|rw[xGr hc] at hx|rw[xGq (xG9.1 hc)] at hx)
  |(split at hx<;>first|(cases hx;done)|(refine xGy (by assumption) ?_))
  |(cases hx;rfl)
  |(cases hx;simp only[yMx,zAz,zAx,xHe])
theorem yVq {W:World}(hW:GoodW W):zAk Tryz.prog W 6 22 con22.own:=
 zA0 yMw (Laying.empty hW.size) hW.size (by decide) zAl (OwnsAll.con (yUc hW) (OwnsAll.con (yUb hW) (OwnsAll.con (yVp hW) (OwnsAll.con (yX9 hW) (OwnsAll.con (yVo hW) (zAb W 6)))))) Tryz.func22 (fn:=Tryz.f22) (c:=zAa Tryz.f22) (by kernel_rfl) (by kernel_rfl) (fun _ _ h=>yCy h) (fun a=>⟨rfl,(by kernel_rfl)⟩) (fun b=>rfl) w22
theorem w24 (x:Int×Int×Int×Int)(y:Int×Int×Int)(hx:YT.f x.1 x.2.1 x.2.2.1 x.2.2.2=some y):zAo Tryz.prog (cwC L24) (zAa Tryz.f24) (zAg (yMz x) 8) (zAh [] 64) (zA2 Tryz.prog Tryz.f24 fun v' _=>v'=yM0 y):=by
 obtain⟨a,b,c,d⟩:=x
 refine(yZx a b c d _).mpr ?_
 unfold YT.f at hx
 try simp only[zBn,zA5,zBk]
 repeat' first
  |(obtain⟨y,hy,hx⟩:=xGs.1 hx;refine⟨y,hy,?_⟩)
  |((first|refine bifW_c (fun hc=>?_) fun hc=>?_|refine bifW_n (fun hc=>?_) fun hc=>?_|refine bifW_b (fun hc=>?_) fun hc=>?_)<;>first|rw[xGq hc] at hx|rw[xGr hc] at hx|rw[xGq (xG9.1 hc)] at hx)
  |(split at hx<;>first|(cases hx;done)|(refine xGy (by assumption) ?_))
  |(cases hx;rfl)
  |(cases hx;simp only[yM0,zAz,zAx,xHe])
theorem yYb {W:World}(hW:GoodW W):zAk Tryz.prog W 6 24 con24.own:=
 zA0 yMz (Laying.empty hW.size) hW.size (by decide) zAl (OwnsAll.con (yVq hW) (OwnsAll.con (yUb hW) (OwnsAll.con (yYa hW) (OwnsAll.con (yVp hW) (OwnsAll.con (yX9 hW) (OwnsAll.con (yVo hW) (OwnsAll.con (yZ5 hW) (zAb W 6)))))))) Tryz.func24 (fn:=Tryz.f24) (c:=zAa Tryz.f24) (by kernel_rfl) (by kernel_rfl) (fun _ _ h=>yCz h) (fun a=>⟨rfl,(by kernel_rfl)⟩) (fun b=>rfl) w24
theorem w96 (x:Int×Int×Int×Int)(y:Bool)(hx:Yl0.f x.1 x.2.1 x.2.2.1 x.2.2.2=some y):zAo Tryz.prog (cwC L96) (zAa Tryz.f96) (zAg (yM2 x) 8) (zAh [] 64) (zA2 Tryz.prog Tryz.f96 fun v' _=>v'=yM3 y):=by
 obtain⟨a,b,c,d⟩:=x
 refine(yZy a b c d _).mpr ?_
 unfold Yl0.f at hx
 try simp only[zBn,zA5,zBk]
 repeat' first
  |(obtain⟨y,hy,hx⟩:=xGs.1 hx;refine⟨y,hy,?_⟩)
  |((first|refine bifW_c (fun hc=>?_) fun hc=>?_|refine bifW_n (fun hc=>?_) fun hc=>?_|refine bifW_b (fun hc=>?_) fun hc=>?_)<;>first|rw[xGq hc] at hx|rw[xGr hc] at hx|rw[xGq (xG9.1 hc)] at hx)
  |(split at hx<;>first|(cases hx;done)|(refine xGy (by assumption) ?_))
  |(cases hx;rfl)
  |(cases hx;simp only[yM3,zAz,zAx,xHe])
theorem yZ6 {W:World}(hW:GoodW W):zAk Tryz.prog W 6 96 con96.own:=
 zA0 yM2 (Laying.empty hW.size) hW.size (by decide) zAl (zAb W 6) Tryz.func96 (fn:=Tryz.f96) (c:=zAa Tryz.f96) (by kernel_rfl) (by kernel_rfl) (fun _ _ h=>yC0 h) (fun a=>⟨rfl,(by kernel_rfl)⟩) (fun b=>rfl) w96
theorem w75 (x:Int×Int×Int×Int×Int×Int)(y:Bool)(hx:Yx.f x.1 x.2.1 x.2.2.1 x.2.2.2.1 x.2.2.2.2.1 x.2.2.2.2.2=some y):zAo Tryz.prog (cwC L75) (zAa Tryz.f75) (zAg (yC1 x) 8) (zAh [] 64) (zA2 Tryz.prog Tryz.f75 fun v' _=>v'=yM4 y):=by
 obtain⟨a,b,c,d,e,f⟩:=x
 refine(yZz a b c d e f _).mpr ?_
 unfold Yx.f at hx
 try simp only[zBn,zA5,zBk]
 repeat' first
  |(obtain⟨y,hy,hx⟩:=xGs.1 hx;refine⟨y,hy,?_⟩)
  |((first|refine bifW_c (fun hc=>?_) fun hc=>?_|refine bifW_n (fun hc=>?_) fun hc=>?_|refine bifW_b (fun hc=>?_) fun hc=>?_)<;>first|rw[xGq hc] at hx|rw[xGr hc] at hx|rw[xGq (xG9.1 hc)] at hx)
  |(split at hx<;>first|(cases hx;done)|(refine xGy (by assumption) ?_))
  |(cases hx;rfl)
  |(cases hx;simp only[yM4,zAz,zAx,xHe])
theorem yR4 {W:World}(hW:GoodW W):zAk Tryz.prog W 6 75 con75.own:=
 zA0 yC1 (Laying.empty hW.size) hW.size (by decide) zAl (OwnsAll.con (yZ6 hW) (zAb W 6)) Tryz.func75 (fn:=Tryz.f75) (c:=zAa Tryz.f75) (by kernel_rfl) (by kernel_rfl) (fun _ _ h=>zTm h) (fun a=>⟨rfl,(by kernel_rfl)⟩) (fun b=>rfl) w75
theorem w48 (x:Int×Int×Int×Int×Int×Int)(y:Bool)(hx:YE.f x.1 x.2.1 x.2.2.1 x.2.2.2.1 x.2.2.2.2.1 x.2.2.2.2.2=some y):zAo Tryz.prog (cwC L48) (zAa Tryz.f48) (zAg (yM6 x) 8) (zAh [] 64) (zA2 Tryz.prog Tryz.f48 fun v' _=>v'=yM7 y):=by
 obtain⟨a,b,c,d,e,f⟩:=x
 refine(yZ0 a b c d e f _).mpr ?_
 unfold YE.f at hx
 try simp only[zBn,zA5,zBk]
 repeat' first
  |(obtain⟨y,hy,hx⟩:=xGs.1 hx;refine⟨y,hy,?_⟩)
  |((first|refine bifW_c (fun hc=>?_) fun hc=>?_|refine bifW_n (fun hc=>?_) fun hc=>?_|refine bifW_b (fun hc=>?_) fun hc=>?_)<;>first|rw[xGq hc] at hx|rw[xGr hc] at hx|rw[xGq (xG9.1 hc)] at hx)
  |(split at hx<;>first|(cases hx;done)|(refine xGy (by assumption) ?_))
  |(cases hx;rfl)
  |(cases hx;simp only[yM7,zAz,zAx,xHe])
theorem yNe {W:World}(hW:GoodW W):zAk Tryz.prog W 6 48 con48.own:=
 zA0 yM6 (Laying.empty hW.size) hW.size (by decide) zAl (OwnsAll.con (yUc hW) (OwnsAll.con (yR4 hW) (zAb W 6))) Tryz.func48 (fn:=Tryz.f48) (c:=zAa Tryz.f48) (by kernel_rfl) (by kernel_rfl) (fun _ _ h=>yC2 h) (fun a=>⟨rfl,(by kernel_rfl)⟩) (fun b=>rfl) w48
theorem w97 (x:Int×Int)(y:Int)(hx:Yv0.f x.1 x.2=some y):zAo Tryz.prog (cwC L97) (zAa Tryz.f97) (zAg (yM9 x) 8) (zAh [] 64) (zA2 Tryz.prog Tryz.f97 fun v' _=>v'=yNa y):=by
 obtain⟨a,b⟩:=x
 refine(yZ1 a b _).mpr ?_
 unfold Yv0.f at hx
 try simp only[zBn,zA5,zBk]
 repeat' first
  |(obtain⟨y,hy,hx⟩:=xGs.1 hx;refine⟨y,hy,?_⟩)
  |((first|refine bifW_c (fun hc=>?_) fun hc=>?_|refine bifW_n (fun hc=>?_) fun hc=>?_|refine bifW_b (fun hc=>?_) fun hc=>?_)<;>first|rw[xGq hc] at hx|rw[xGr hc] at hx|rw[xGq (xG9.1 hc)] at hx)
  |(split at hx<;>first|(cases hx;done)|(refine xGy (by assumption) ?_))
  |(cases hx;rfl)
  |(cases hx;simp only[yNa,zAz,zAx,xHe])
theorem yZ7 {W:World}(hW:GoodW W):zAk Tryz.prog W 6 97 con97.own:=
 zA0 yM9 (Laying.empty hW.size) hW.size (by decide) zAl (OwnsAll.con (yU9 hW) (zAb W 6)) Tryz.func97 (fn:=Tryz.f97) (c:=zAa Tryz.f97) (by kernel_rfl) (by kernel_rfl) (fun _ _ h=>yC3 h) (fun a=>⟨rfl,(by kernel_rfl)⟩) (fun b=>rfl) w97
theorem w78 (x:Int×Int×Int)(y:Int×Int×Int×Bool)(hx:Yc0.f x.1 x.2.1 x.2.2=some y):zAo Tryz.prog (cwC L78) (zAa Tryz.f78) (zAg (yNc x) 8) (zAh [] 64) (zA2 Tryz.prog Tryz.f78 fun v' _=>v'=yNd y):=by
 obtain⟨a,b,c⟩:=x
 refine(yZ2 a b c _).mpr ?_
 unfold Yc0.f at hx
 try simp only[zBn,zA5,zBk]
 repeat' first
  |(obtain⟨y,hy,hx⟩:=xGs.1 hx;refine⟨y,hy,?_⟩)
  |((first|refine bifW_c (fun hc=>?_) fun hc=>?_|refine bifW_n (fun hc=>?_) fun hc=>?_|refine bifW_b (fun hc=>?_) fun hc=>?_)<;>first|rw[xGq hc] at hx|rw[xGr hc] at hx|rw[xGq (xG9.1 hc)] at hx)
  |(split at hx<;>first|(cases hx;done)|(refine xGy (by assumption) ?_))
  |(cases hx;rfl)
  |(cases hx;simp only[yNd,zAz,zAx,xHe])
theorem yZ8 {W:World}(hW:GoodW W):zAk Tryz.prog W 6 78 con78.own:=
 zA0 yNc (Laying.empty hW.size) hW.size (by decide) zAl (OwnsAll.con (yZf hW) (OwnsAll.con (yZd hW) (OwnsAll.con (yUc hW) (zAb W 6)))) Tryz.func78 (fn:=Tryz.f78) (c:=zAa Tryz.f78) (by kernel_rfl) (by kernel_rfl) (fun _ _ h=>yC4 h) (fun a=>⟨rfl,(by kernel_rfl)⟩) (fun b=>rfl) w78
end Go.Proofs.YtfnacgojmdbjmaaGreatDoor
namespace Go.Proofs.YtfnacgojmdbjmaaGreatDoor.PRD
open Go.Det Go.RowKit Go.Proofs.YtfnacgojmdbjmaaGreatDoor Go.Proofs.ZW
theorem Ym.calls (a0_0:Int)(a0_1:Int)(a0_2:Int)(r:Bool)(w:World)(hG:GoodW w)(h:Ym.f a0_0 a0_1 a0_2=some r):
  Calls Tryz.prog 44 #[.agg #[.int .i64 a0_0,.int .u64 a0_1,.int .u64 a0_2]] w fun e w'=>e=.returned (.bool r)∧Below w.heap.size w w':=
 zD6 (fn:=Tryz.f44) (c:=zAa Tryz.f44) (yQ3 hG) hG Tryz.func44 (by kernel_rfl) (by kernel_rfl) (args:=yHi (a0_0,a0_1,a0_2)) (v:=.bool r) (zQy (dec:=yHh) (enc:=yHj) (a:=(a0_0,a0_1,a0_2)) (b:=r) rfl h _) rfl rfl (by intro h;cases h)
end Go.Proofs.YtfnacgojmdbjmaaGreatDoor.PRD
namespace Go.Proofs
open Go.Shelf
def Tryz.lays156_ren:Go.Shelf.Ren:=⟨fun|156=>90|165=>105|166=>106|169=>107|240=>117|241=>118|276=>128|277=>129|n=>n,fun|31=>36|9=>9|3=>3|4=>4|0=>0|20=>20|72=>110|76=>114|70=>108|37=>22|75=>113|127=>121|164=>132|5=>5|80=>116|n=>n,fun|n=>n⟩
theorem Tryz.lays156:Go.Proofs.Lays.n156 Tryz.prog Tryz.lays156_ren:={
 mixed:=by kernel_rfl
 f156:=Tryz.func90.trans (congrArg some (by kernel_rfl))
 f165:=Tryz.func105.trans (congrArg some (by kernel_rfl))
 f166:=Tryz.func106.trans (congrArg some (by kernel_rfl))
 f169:=Tryz.func107.trans (congrArg some (by kernel_rfl))
 f240:=Tryz.func117.trans (congrArg some (by kernel_rfl))
 f241:=Tryz.func118.trans (congrArg some (by kernel_rfl))
 f276:=Tryz.func128.trans (congrArg some (by kernel_rfl))
 f277:=Tryz.func129.trans (congrArg some (by kernel_rfl))
 t0:=Tryz.underlying0
 a0:=Tryz.isAgg0
 z0:=Tryz.sizeOf0
 v0:=Tryz.zeroValue0
 t3:=Tryz.underlying3
 a3:=Tryz.isAgg3
 z3:=Tryz.sizeOf3
 v3:=Tryz.zeroValue3
 t4:=Tryz.underlying4
 a4:=Tryz.isAgg4
 z4:=Tryz.sizeOf4
 v4:=Tryz.zeroValue4
 t9:=Tryz.underlying9
 a9:=Tryz.isAgg9
 z9:=Tryz.sizeOf9
 v9:=Tryz.zeroValue9
 t20:=Tryz.underlying20
 a20:=Tryz.isAgg20
 z20:=Tryz.sizeOf20
 v20:=Tryz.zeroValue20
 t31:=Tryz.underlying36
 a31:=Tryz.isAgg36
 z31:=Tryz.sizeOf36
 v31:=Tryz.zeroValue36
 t37:=Tryz.underlying22
 a37:=Tryz.isAgg22
 z37:=Tryz.sizeOf22
 v37:=Tryz.zeroValue22
 t70:=Tryz.underlying108
 a70:=Tryz.isAgg108
 z70:=Tryz.sizeOf108
 v70:=Tryz.zeroValue108
 t72:=Tryz.underlying110
 a72:=Tryz.isAgg110
 z72:=Tryz.sizeOf110
 v72:=Tryz.zeroValue110
 t75:=Tryz.underlying113
 a75:=Tryz.isAgg113
 z75:=Tryz.sizeOf113
 v75:=Tryz.zeroValue113
 t76:=Tryz.underlying114
 a76:=Tryz.isAgg114
 z76:=Tryz.sizeOf114
 v76:=Tryz.zeroValue114
 t127:=Tryz.underlying121
 a127:=Tryz.isAgg121
 z127:=Tryz.sizeOf121
 v127:=Tryz.zeroValue121
 t164:=Tryz.underlying132
 a164:=Tryz.isAgg132
 z164:=Tryz.sizeOf132
 v164:=Tryz.zeroValue132 }
theorem Tryz.Builder_Extra_156:Builder.Extra Tryz.prog Tryz.lays156_ren:={
 sizeBuilder:=by kernel_rfl
 liesBuilder:=by kernel_rfl
 t5:=Tryz.underlying5
 a5:=Tryz.isAgg5
 z5:=Tryz.sizeOf5
 v5:=Tryz.zeroValue5
 infoByte:=by kernel_rfl
 cellsByte:=by kernel_rfl
 sizeByte:=by kernel_rfl
 neB5:=by decide }
open Go.RowKit in
theorem Tryz.Yu0 (a:Option Addr)(c:Nat)(sep:ByteArray)(w:World):
  Calls Tryz.prog 90 #[.slice a 0 c,.string sep] w fun e w'=>e=.returned (.string ⟨#[]⟩)∧w'=w:=Any.strings_Join_none Tryz.lays156 Tryz.Builder_Extra_156 a c sep w
open Go.RowKit in
theorem Tryz.YU (bk o c:Nat)(xs:List ByteArray)(sep:ByteArray)(w:World)(hcells:∀ (j:Nat) x,xs[j]?=some x→w.cell? ⟨bk,o+j,none⟩=some (.string x))(hbk:bk < w.heap.size)(hN:xs.length≤140737488355328)(hcap:xs.length≤c)(hlen:(Lib.join (xs.map (·.data.toList)) sep.data.toList).length≤140737488355328):
  Calls Tryz.prog 90 #[.slice (some ⟨bk,o,none⟩) xs.length c,.string sep] w fun e w'=>e=.returned (.string ⟨(Lib.join (xs.map (·.data.toList)) sep.data.toList).toArray⟩)∧Below w.heap.size w w':=Any.strings_Join Tryz.lays156 Tryz.Builder_Extra_156 bk o c xs sep w hcells hbk hN hcap hlen
def Tryz.lays137_ren:Go.Shelf.Ren:=⟨fun|137=>125|217=>111|266=>123|n=>n,fun|9=>9|5=>5|3=>3|n=>n,fun|n=>n⟩
theorem Tryz.lays137:Go.Proofs.Lays.n137 Tryz.prog Tryz.lays137_ren:={
 mixed:=by kernel_rfl
 f137:=Tryz.func125.trans (congrArg some (by kernel_rfl))
 f217:=Tryz.func111.trans (congrArg some (by kernel_rfl))
 f266:=Tryz.func123.trans (congrArg some (by kernel_rfl))
 t3:=Tryz.underlying3
 a3:=Tryz.isAgg3
 z3:=Tryz.sizeOf3
 v3:=Tryz.zeroValue3
 t5:=Tryz.underlying5
 a5:=Tryz.isAgg5
 z5:=Tryz.sizeOf5
 v5:=Tryz.zeroValue5
 t9:=Tryz.underlying9
 a9:=Tryz.isAgg9
 z9:=Tryz.sizeOf9
 v9:=Tryz.zeroValue9 }
open Go.RowKit in
theorem Tryz.Yy0 (s:ByteArray)(c:Int)(w:World):
  Calls Tryz.prog 125 #[.string s,.int .u8 c] w fun e w'=>e=.returned (.int .i64 (Lib.indexByte s.data.toList c.toNat.toUInt8))∧w'=w:=Any.strings_IndexByte Tryz.lays137 s c w
def Tryz.lays144_ren:Go.Shelf.Ren:=⟨fun|144=>84|143=>101|219=>100|217=>111|225=>112|224=>113|267=>114|266=>123|314=>124|n=>n,fun|9=>9|4=>4|3=>3|5=>5|46=>39|146=>129|51=>128|n=>n,fun|1=>0|n=>n⟩
theorem Tryz.lays144:Go.Proofs.Lays.n144 Tryz.prog Tryz.lays144_ren:={
 mixed:=by kernel_rfl
 f143:=Tryz.func101.trans (congrArg some (by kernel_rfl))
 f144:=Tryz.func84.trans (congrArg some (by kernel_rfl))
 f217:=Tryz.func111.trans (congrArg some (by kernel_rfl))
 f219:=Tryz.func100.trans (congrArg some (by kernel_rfl))
 f224:=Tryz.func113.trans (congrArg some (by kernel_rfl))
 f225:=Tryz.func112.trans (congrArg some (by kernel_rfl))
 f266:=Tryz.func123.trans (congrArg some (by kernel_rfl))
 f267:=Tryz.func114.trans (congrArg some (by kernel_rfl))
 f314:=Tryz.func124.trans (congrArg some (by kernel_rfl))
 t3:=Tryz.underlying3
 a3:=Tryz.isAgg3
 z3:=Tryz.sizeOf3
 v3:=Tryz.zeroValue3
 t4:=Tryz.underlying4
 a4:=Tryz.isAgg4
 z4:=Tryz.sizeOf4
 v4:=Tryz.zeroValue4
 t5:=Tryz.underlying5
 a5:=Tryz.isAgg5
 z5:=Tryz.sizeOf5
 v5:=Tryz.zeroValue5
 t9:=Tryz.underlying9
 a9:=Tryz.isAgg9
 z9:=Tryz.sizeOf9
 v9:=Tryz.zeroValue9
 t46:=Tryz.underlying39
 a46:=Tryz.isAgg39
 z46:=Tryz.sizeOf39
 v46:=Tryz.zeroValue39
 t51:=Tryz.underlying128
 a51:=Tryz.isAgg128
 z51:=Tryz.sizeOf128
 v51:=Tryz.zeroValue128
 t146:=Tryz.underlying129
 a146:=Tryz.isAgg129
 z146:=Tryz.sizeOf129
 v146:=Tryz.zeroValue129
 g1:=by kernel_rfl }
open Go.RowKit Go.Lib in
open Go.RowKit Go.Lib in
theorem Tryz.Yw (s sub:ByteArray)(m:Int)(w:World)(hs:s.size < 4294967281)(hm:w.cell? ⟨0,0,none⟩=some (.int .i64 m)):
  Calls Tryz.prog 84 #[.string s,.string sub] w fun e w'=>e=.returned (.bool (Lib.contains s.data.toList sub.data.toList))∧w'=w:=Any.strings_Contains Tryz.lays144 s sub m w hs hm
def Tryz.lays145_ren:Go.Shelf.Ren:=⟨fun|145=>59|220=>83|219=>100|217=>111|225=>112|224=>113|267=>114|266=>123|314=>124|n=>n,fun|9=>9|4=>4|59=>79|3=>3|5=>5|46=>39|146=>129|51=>128|n=>n,fun|1=>0|n=>n⟩
theorem Tryz.lays145:Go.Proofs.Lays.n145 Tryz.prog Tryz.lays145_ren:={
 mixed:=by kernel_rfl
 f145:=Tryz.func59.trans (congrArg some (by kernel_rfl))
 f217:=Tryz.func111.trans (congrArg some (by kernel_rfl))
 f219:=Tryz.func100.trans (congrArg some (by kernel_rfl))
 f220:=Tryz.func83.trans (congrArg some (by kernel_rfl))
 f224:=Tryz.func113.trans (congrArg some (by kernel_rfl))
 f225:=Tryz.func112.trans (congrArg some (by kernel_rfl))
 f266:=Tryz.func123.trans (congrArg some (by kernel_rfl))
 f267:=Tryz.func114.trans (congrArg some (by kernel_rfl))
 f314:=Tryz.func124.trans (congrArg some (by kernel_rfl))
 t3:=Tryz.underlying3
 a3:=Tryz.isAgg3
 z3:=Tryz.sizeOf3
 v3:=Tryz.zeroValue3
 t4:=Tryz.underlying4
 a4:=Tryz.isAgg4
 z4:=Tryz.sizeOf4
 v4:=Tryz.zeroValue4
 t5:=Tryz.underlying5
 a5:=Tryz.isAgg5
 z5:=Tryz.sizeOf5
 v5:=Tryz.zeroValue5
 t9:=Tryz.underlying9
 a9:=Tryz.isAgg9
 z9:=Tryz.sizeOf9
 v9:=Tryz.zeroValue9
 t46:=Tryz.underlying39
 a46:=Tryz.isAgg39
 z46:=Tryz.sizeOf39
 v46:=Tryz.zeroValue39
 t51:=Tryz.underlying128
 a51:=Tryz.isAgg128
 z51:=Tryz.sizeOf128
 v51:=Tryz.zeroValue128
 t59:=Tryz.underlying79
 a59:=Tryz.isAgg79
 z59:=Tryz.sizeOf79
 v59:=Tryz.zeroValue79
 t146:=Tryz.underlying129
 a146:=Tryz.isAgg129
 z146:=Tryz.sizeOf129
 v146:=Tryz.zeroValue129
 g1:=by kernel_rfl }
open Go.RowKit Go.Lib in
theorem Tryz.Yo0 (s sep:ByteArray)(m:Int)(w:World)(hs:s.size < 4294967281)(hm:w.cell? ⟨0,0,none⟩=some (.int .i64 m)):
  Calls Tryz.prog 59 #[.string s,.string sep] w fun e w'=>e=.returned (.tuple #[.string ⟨(Lib.cut s.data.toList sep.data.toList).1.toArray⟩,.string ⟨(Lib.cut s.data.toList sep.data.toList).2.1.toArray⟩,.bool (Lib.cut s.data.toList sep.data.toList).2.2])∧∃ n,w'=w.drewN n:=Any.strings_Cut Tryz.lays145 s sep m w hs hm
def Tryz.lays146_ren:Go.Shelf.Ren:=⟨fun|146=>103|221=>116|268=>126|138=>127|143=>101|195=>135|197=>136|218=>137|219=>100|260=>139|217=>111|225=>112|224=>113|267=>114|266=>123|314=>124|n=>n,fun|9=>9|31=>36|3=>3|4=>4|0=>0|105=>139|21=>21|5=>5|46=>39|119=>143|139=>146|138=>145|146=>129|51=>128|n=>n,fun|1=>0|3=>4|4=>5|n=>n⟩
theorem Tryz.lays146:Go.Proofs.Lays.n146 Tryz.prog Tryz.lays146_ren:={
 mixed:=by kernel_rfl
 f138:=Tryz.func127.trans (congrArg some (by kernel_rfl))
 f143:=Tryz.func101.trans (congrArg some (by kernel_rfl))
 f146:=Tryz.func103.trans (congrArg some (by kernel_rfl))
 f195:=Tryz.func135.trans (congrArg some (by kernel_rfl))
 f197:=Tryz.func136.trans (congrArg some (by kernel_rfl))
 f217:=Tryz.func111.trans (congrArg some (by kernel_rfl))
 f218:=Tryz.func137.trans (congrArg some (by kernel_rfl))
 f219:=Tryz.func100.trans (congrArg some (by kernel_rfl))
 f221:=Tryz.func116.trans (congrArg some (by kernel_rfl))
 f224:=Tryz.func113.trans (congrArg some (by kernel_rfl))
 f225:=Tryz.func112.trans (congrArg some (by kernel_rfl))
 f260:=Tryz.func139.trans (congrArg some (by kernel_rfl))
 f266:=Tryz.func123.trans (congrArg some (by kernel_rfl))
 f267:=Tryz.func114.trans (congrArg some (by kernel_rfl))
 f268:=Tryz.func126.trans (congrArg some (by kernel_rfl))
 f314:=Tryz.func124.trans (congrArg some (by kernel_rfl))
 t0:=Tryz.underlying0
 a0:=Tryz.isAgg0
 z0:=Tryz.sizeOf0
 v0:=Tryz.zeroValue0
 t3:=Tryz.underlying3
 a3:=Tryz.isAgg3
 z3:=Tryz.sizeOf3
 v3:=Tryz.zeroValue3
 t4:=Tryz.underlying4
 a4:=Tryz.isAgg4
 z4:=Tryz.sizeOf4
 v4:=Tryz.zeroValue4
 t5:=Tryz.underlying5
 a5:=Tryz.isAgg5
 z5:=Tryz.sizeOf5
 v5:=Tryz.zeroValue5
 t9:=Tryz.underlying9
 a9:=Tryz.isAgg9
 z9:=Tryz.sizeOf9
 v9:=Tryz.zeroValue9
 t21:=Tryz.underlying21
 a21:=Tryz.isAgg21
 z21:=Tryz.sizeOf21
 v21:=Tryz.zeroValue21
 t31:=Tryz.underlying36
 a31:=Tryz.isAgg36
 z31:=Tryz.sizeOf36
 v31:=Tryz.zeroValue36
 t46:=Tryz.underlying39
 a46:=Tryz.isAgg39
 z46:=Tryz.sizeOf39
 v46:=Tryz.zeroValue39
 t51:=Tryz.underlying128
 a51:=Tryz.isAgg128
 z51:=Tryz.sizeOf128
 v51:=Tryz.zeroValue128
 t105:=Tryz.underlying139
 a105:=Tryz.isAgg139
 z105:=Tryz.sizeOf139
 v105:=Tryz.zeroValue139
 t119:=Tryz.underlying143
 a119:=Tryz.isAgg143
 z119:=Tryz.sizeOf143
 t138:=Tryz.underlying145
 a138:=Tryz.isAgg145
 z138:=Tryz.sizeOf145
 v138:=Tryz.zeroValue145
 t139:=Tryz.underlying146
 a139:=Tryz.isAgg146
 z139:=Tryz.sizeOf146
 v139:=Tryz.zeroValue146
 t146:=Tryz.underlying129
 a146:=Tryz.isAgg129
 z146:=Tryz.sizeOf129
 v146:=Tryz.zeroValue129
 g1:=by kernel_rfl
 g3:=by kernel_rfl
 g4:=by kernel_rfl }
open Go.RowKit Go.Lib in
theorem Tryz.YD (s sep:ByteArray)(m:Int)(w:World)(hs:s.size < 4294967281)(hm:w.cell? ⟨0,0,none⟩=some (.int .i64 m))(h1:1≤sep.size):
  Calls Tryz.prog 103 #[.string s,.string sep] w fun e w'=>
   e=.returned (.slice (some ⟨w.heap.size,0,none⟩) (Lib.countB s sep+1) (Lib.countB s sep+1))∧w'=w.alloc (.cells ((Lib.splitB sep 0 (Lib.countB s sep) s).map Value.string).toArray 9):=Any.strings_Split Tryz.lays146 (by kernel_rfl) s sep m w hs hm h1
end Go.Proofs
section
section
namespace Go.Proofs.ZW
open Go.RowKit
def bt (s:ByteArray)(i:Int):Int:=if h:i.toNat < s.size then((s[i.toNat]'h).toNat:Int) else 0
theorem zD9 (s:ByteArray)(i:Int):∀ h:i.toNat < s.size,((s[i.toNat]'h).toNat:Int)=bt s i:=fun h=>by simp[bt,h]
def yQ4 (k:IntKind)(xs:List Int):List Value:=xs.map fun x=>.int k x
theorem own_reads {w:World}{base n:Nat}{e:TypeId}{k:IntKind}{v:Value}{xs:List Int}(h:w.ownsRow base e 1 v n (yQ4 k xs)):∃ A c,v=.slice A n c∧ReadsInt w k A n xs:=by
 have hl:xs.length=n:=by have:=h.1;simp[yQ4] at this;exact this
 rcases Nat.eq_zero_or_pos n with h0|h0
 ·rcases h.2 with⟨rfl,rfl⟩|⟨g,cap,cur,rfl,_⟩
  ·exact⟨none,0,rfl,hl,by omega,fun hp=>absurd hp (by omega)⟩
  ·exact⟨_,cap,rfl,hl,by omega,fun hp=>absurd hp (by omega)⟩
 ·obtain⟨g,cap,rfl,_,_⟩:=h.form h0
  have hm:n≤9223372036854775807:=by
   rcases h.2 with⟨_,h1⟩|⟨g',cap',cur,he,_,_,h1,h2,_⟩
   ·omega
   ·simp only[maxLen] at h2
    omega
  refine⟨_,cap,rfl,hl,hm,fun _=>⟨_,rfl,fun j hj=>h.cells (g:=g) rfl j _ ?_⟩⟩
  simp[yQ4,xGz (show j < xs.length by omega),xGw]
theorem zHw {P:Program}{w:World}{base n:Nat}{e' src dst e:TypeId}{v:Value}{xs:List Int}(hs:P.underlying src=some (.slice e))(he:P.underlying e=some (.int .u8))(hd:P.underlying dst=some .string)
  (h:w.ownsRow base e' 1 v n (yQ4 .u8 xs)):(convert src dst v).run P w=.ok (.string (strOfNums xs)) w:=by
 have hl:xs.length=n:=by have:=h.1;simp[yQ4] at this;exact this
 rcases h.2 with⟨rfl,rfl⟩|⟨g,cap,cur,rfl,_⟩
 ·obtain rfl:xs=[]:=xHq hl
  exact run_convert_bytes_nil w src e hs he 0 0 dst hd
 ·refine run_convert_bytes_arg w src e hs he g 0 n cap xs hl (fun i hi=>?_) dst hd
  have hc:=h.cells (g:=g) rfl i (.int .u8 (xs.getD i 0)) (by simp[yQ4,xGz (show i < xs.length by omega),xGw])
  have ha:(⟨g,0,none⟩:Addr).add i=⟨g,0+i,none⟩:=by unfold Addr.add;split<;>simp_all
  rwa [ha] at hc
section
variable {P:Program} {ops:Array Oper} {rest:List Oper} {o:Oper} {a:Act} {Q:Exit→Act→World→Prop}
end
section
variable {P:Program}
end
section
variable {P:Program} {ops:Array Oper} {rest:List Oper} {o:Oper} {a:Act} {Q:Exit→Act→World→Prop}
end
section
variable {P:Program} {ops:Array Oper} {rest:List Oper} {o:Oper} {a:Act} {Q:Exit→Act→World→Prop}
end
section
variable {P:Program} {ops:Array Oper} {o:Oper} {a:Act} {Q:Exit→Act→World→Prop} {K:Act→World→Prop}
end
section
variable {α:Type} {enc:α→Value} {d:α}
def yHl (enc:α→Value)(xs:List α):List Value:=xs.map enc
theorem zNc (xs:List α):(yHl enc xs).length=xs.length:=by simp[yHl]
end
section
variable {α:Type} {P:Program} {ops:Array Oper} {rest:List Oper} {o:Oper} {a:Act} {Q:Exit→Act→World→Prop}
end
section
variable {P:Program}
end
section
variable {α:Type} {R R':α→List Value→Prop} {e:TypeId} {size:Nat} {w w1:World} {base:Nat} {v:Value} {ps:List α}
end
section
variable {P:Program} {ops:Array Oper} {rest:List Oper} {o:Oper} {a:Act} {Q:Exit→Act→World→Prop} {α:Type} {R:α→List Value→Prop}
end
section
variable {P:Program} {ops:Array Oper} {o:Oper} {a:Act} {Q:Exit→Act→World→Prop} {K:Act→World→Prop} {α:Type} {R:α→List Value→Prop}
end
theorem ReadsRow.inner_ {α:Type}{R:α→List Value→Prop}{size:Nat}{w:World}{ad:Addr}{n:Nat}{ps:List α}(h:ReadsRow R size w (some ad) n ps):
  ∃ inner,Reps R size ps inner∧∀ j u,inner[j]?=some u→w.cell? (ad.add j)=some u:=by
 have key:∀ m,m≤ps.length→∃ inner,Reps R size (ps.take m) inner∧∀ j u,inner[j]?=some u→w.cell? (ad.add j)=some u:=by
  intro m
  induction m with
  |zero=>exact fun _=>⟨[],Reps.none _ _,fun j u hu=>by simp at hu⟩
  |succ m ih=>
   intro hm
   obtain⟨inner,hr,hc⟩:=ih (by omega)
   obtain⟨ad',he,hcell⟩:=h.2.2 (by have:=h.1;omega)
   injection he with he
   subst he
   obtain⟨c,hcl,hp,hcc⟩:=hcell m _ (xGz (show m < ps.length by omega))
   refine⟨inner++c,?_,fun j u hu=>?_⟩
   ·rw[List.take_succ_eq_append_getElem (show m < ps.length by omega)]
    exact hr.snoc hp hcl
   ·have hil:inner.length=m * size:=by rw[hr.1,xHn,Nat.min_eq_left (by omega)]
    rcases xHr j inner.length with hj|hj
    ·rw[xH9 hj] at hu
     exact hc j u hu
    ·rw[xIt hj] at hu
     have:=hcc (j - inner.length) u hu
     rwa [hil,Nat.add_sub_cancel' (by omega)] at this
 obtain⟨inner,hr,hc⟩:=key ps.length (xGv _)
 rw[List.take_length] at hr
 exact⟨inner,hr,hc⟩
section
variable {α:Type} {P:Program}
end
section
variable {P:Program} {ops:Array Oper} {rest:List Oper} {o:Oper} {a:Act} {Q:Exit→Act→World→Prop}
end
namespace Kd
section
variable {α:Type} {d:Kd α} {e:Nat} {w w1:World} {base:Nat} {ok ok':Nat→Prop} {v:Value} {xs:List α}
theorem yNf {x:α}{cs:List Value}(h:d.M w base ok x cs)(hb:Below w.heap.size w w1):d.M w1 base ok x cs:=yJi h (fun k _ hk=>hb.block k hk)
end
section
variable {P:Program} {ops:Array Oper} {rest:List Oper} {o:Oper} {a:Act} {Q:Exit→Act→World→Prop} {α:Type}
end
section
variable {P:Program} {ops:Array Oper} {o:Oper} {a:Act} {Q:Exit→Act→World→Prop} {Kc:Act→World→Prop} {α:Type}
end
theorem reps_scalar {α:Type}{enc:α→Value}(xs:List α):Reps (fun(x:α) (cs:List Value)=>cs=[enc x]) 1 xs (yHl enc xs):=by
 refine⟨by simp[yHl],fun j p hj=>?_⟩
 obtain⟨hl,hp⟩:=xHu.1 hj
 have hl':j < (yHl enc xs).length:=by rw[zNc];exact hl
 rw[Nat.mul_one,xHk hl']
 simp[yHl,hp]
theorem own_of_R {α:Type}{enc:α→Value}{h1:∀ x,(enc x).oneCell'=true}{e:Nat}{w:World}{base:Nat}{ok:Nat→Prop}{v:Value}{xs:List α}(h:(scalar enc h1).R e w base ok v xs):w.ownsRow base e 1 v xs.length (yHl enc xs):=by
 obtain⟨_,inner,ho,hr⟩:=h
 have:inner=yHl enc xs:=by
  apply List.ext_getElem?
  intro j
  rcases xHr j xs.length with hj|hj
  ·have h2:=hr.2 j _ (xGz hj)
   have hl:j < inner.length:=by have:=hr.1;simp[scalar] at this;omega
   have h3:(inner.drop (j * 1)).take 1=[enc xs[j]]:=h2
   rw[Nat.mul_one,xHk hl] at h3
   have h4:inner[j]=enc xs[j]:=by
    have h5:=congrArg List.head? h3
    rw[List.take_succ_cons] at h5
    exact xHc h5
   rw[xGz hl,h4]
   simp[yHl,xGz hj]
  ·have h3:inner.length=xs.length:=by have:=hr.1;simp[scalar] at this;omega
   rw[xHy (by omega),xHy (by rw[zNc];omega)]
 rw[← this]
 exact ho
theorem zPo {α:Type}{enc:α→Value}{d:α}{h1:∀ x,(enc x).oneCell'=true}{w:World}{A:Option Addr}{n:Nat}{xs:List α}(h:(scalar enc h1).C w A n xs):ReadsOf enc d w A n xs:=by
 refine⟨h.1,h.2.1,fun hn=>?_⟩
 obtain⟨ad,e,hc⟩:=h.2.2 hn
 refine⟨ad,e,fun j hj=>?_⟩
 have hl:j < xs.length:=by have:=h.1;omega
 obtain⟨c,_,hK,hcell⟩:=hc j _ (xGz hl)
 have hK':c=[enc xs[j]]:=hK
 subst hK'
 have:=hcell 0 _ rfl
 simpa [scalar,xGw,xGz hl] using this
end Kd
namespace Kd
section
variable {α:Type} {F:Kd α→Kd α} {sz:Nat} {E:List Nat} {hs:∀ n,(yHd F sz E n).sz=sz} {hE:∀ n q,q∈(yHd F sz E n).E→q∈E}
end
end Kd
namespace Kd
theorem R_after {α:Type}{d:Kd α}{e base:Nat}{ok:Nat→Prop}{W w1:World}{u v v1:Value}{xs:List α}(h:d.R e W base (fun k=>ok k∧some k≠v.ownBlock) u xs)(hg:W.grownBy w1 v.ownBlock)(hat:v1.ownBlock=v.ownBlock∨∃ b,v1.ownBlock=some b∧W.heap.size≤b):d.R e w1 base (fun k=>ok k∧some k≠v1.ownBlock) u xs:=by
 refine R_mono (zTl (zJ9 h) (fun k hk=>hg.block k hk.2.2.1 hk.1.2)) (fun k hk=>⟨hk.1.1,?_⟩)
 rcases hat with hat|⟨b,hb,hle⟩
 ·rw[hat];exact hk.1.2
 ·rw[hb]
  intro he
  injection he with he
  have:=hk.2.2.1
  omega
section
variable {α β:Type} {d:Kd α} {d':Kd β} {e e':Nat} {w w1 W:World} {base b b':Nat} {ok ok' okv oku:Nat→Prop} {v u:Value} {xs:List α} {ys:List β}
theorem C_alloc {A:Option Addr}{n:Nat}(h:d.C w A n xs)(o:Obj):d.C (w.alloc o) A n xs:=zQ5 h (zBf (Below.refl _ _) o)
theorem C_drew {A:Option Addr}{n:Nat}(h:d.C w A n xs):d.C w.drew A n xs:=zQ5 h (zPl (Below.refl _ _))
theorem C_drewN {A:Option Addr}{n:Nat}(h:d.C w A n xs)(m:Nat):d.C (w.drewN m) A n xs:=zQ5 h (zA9 (Below.refl _ _) m)
end
section
variable {w W:World} {A:Option Addr} {n:Nat}
theorem at_int {k:IntKind}{xs:List Int}(h:(Kd.int k).C w A n xs)(i:Int)(h0:0≤i)(h1:i < n):∃ ad,A=some ad∧w.cell? (ad.add i.toNat)=some (.int k (rd xs i)):=
 ReadsOf.at_ (zPo (enc:=Value.int k) (d:=(0:Int)) (h1:=fun _=>rfl) h) i h0 h1
theorem at_string {xs:List ByteArray}(h:Kd.string.C w A n xs)(i:Int)(h0:0≤i)(h1:i < n):∃ ad,A=some ad∧w.cell? (ad.add i.toNat)=some (.string (zCl ByteArray.empty xs i)):=
 ReadsOf.at_ (zPo (enc:=Value.string) (d:=ByteArray.empty) (h1:=fun _=>rfl) h) i h0 h1
variable {α:Type} {enc:α→Value} {h1:∀ x,(enc x).oneCell'=true} {e base g cap:Nat} {ok:Nat→Prop} {xs:List α}
end
section
variable {P:Program} {ops:Array Oper} {rest:List Oper} {o:Oper} {a:Act} {Q:Exit→Act→World→Prop}
variable {α:Type}
theorem R_lit (d:Kd α){w0 W:World}(base e:Nat)(hgd:o.guard=none){N:Tmp}(_hd:o.dst=some N){xs:List α}{inner:List Value}{ok okp:Nat→Prop}
  (hrun:(execOp a.eval o).run P W=.ok (.value (.slice (some ⟨W.heap.size,0,none⟩) xs.length xs.length)) (W.alloc (.cells inner.toArray e)))
  (hrep:Reps (d.M W base okp) d.sz xs inner) (hok:∀ k,okp k→ok k) (hfresh:ok W.heap.size) (HB:Below base w0 W) (hbase:base≤W.heap.size) (hm:xs.length≤9223372036854775807)
  (h:∀ v1 w1,d.R e w1 base ok v1 xs→Below base w0 w1→W.grownBy w1 none→(∃ b,v1.ownBlock=some b∧W.heap.size≤b)→wpList P ops Q rest (a.put o.dst v1) w1):wpList P ops Q (o::rest) a W:=by
 refine event_run hgd hrun (h _ _ ⟨fun k hk=>?_,inner,?_,?_⟩ (HB.alloc hbase _) (World.grownBy_alloc W _ none) ⟨W.heap.size,by simp[Value.ownBlock],xGv _⟩)
 ·have:W.heap.size=k:=by simpa [Value.ownBlock] using hk
  subst this
  exact hfresh
 ·have h2:=World.ownsRow_lit (base:=base) (e:=e) (size:=d.sz) W inner.toArray xs.length hbase (by simpa [maxLen] using hm) (by simpa using hrep.1)
  simpa using h2
 ·refine hrep.imp_ (fun p c hp=>d.M_mono (fun k hk=>⟨hok k hk.1,fun he=>?_⟩) (yNf (d.M_bound hp) (zBf (Below.refl _ _) _)))
  have h3:k=W.heap.size:=by simpa [Value.ownBlock] using he
  have:=hk.2.2.1
  omega
end
end Kd
section
variable {P:Program}
end
section
variable {w w1:World} {base n size:Nat} {e:TypeId} {v:Value} {xs:List Value}
end
section
variable {P:Program}
end
namespace Kd
section
variable {α:Type} {d:Kd α} {e:Nat} {w w1 W:World} {base:Nat} {ok ok':Nat→Prop} {v:Value} {xs:List α}
end
section
variable {P:Program} {ops:Array Oper} {rest:List Oper} {o:Oper} {a:Act} {Q':Exit→Act→World→Prop} {Kc:Act→World→Prop} {α:Type}
end
end Kd
namespace Kd
section
variable {α:Type} {d:Kd α} {e e':Nat} {w w1 W:World} {base:Nat} {ok:Nat→Prop} {u v:Value} {xs:List α}
theorem R_typed (h:d.R e w base ok v xs):∀ k,v.ownBlock=some k→∃ cells,w.heap[k]?=some (.cells cells e (0,0)):=by
 obtain⟨inner,ho⟩:=yK7 h
 exact fun k hk=>zTk ho k hk
theorem R_over' (h:d.R e W base ok u xs)(hty:∀ k,v.ownBlock=some k→∃ cells,W.heap[k]?=some (.cells cells e' (0,0)))(ht:∀ q,q∈e::d.E→q≠e')(hg:W.grownBy w1 v.ownBlock):d.R e w1 base ok u xs:=by
 refine R_mono (zTl (zJ9 h) (fun k hk=>hg.block k hk.2.2.1 (fun he=>?_))) (fun _ hk=>hk.1)
 obtain⟨_,_,_,q,hq,cells,hc⟩:=hk
 obtain⟨cells',hc'⟩:=hty k he.symm
 rw[hc] at hc'
 injection hc' with hc'
 injection hc' with _ hc'
 exact ht q hq hc'
theorem fresh' (hlt:∀ k,u.ownBlock=some k→k < W.heap.size):∀ k,W.heap.size≤k→some k≠u.ownBlock:=fun k hk he=>by have:=hlt k he.symm;omega
end
end Kd
namespace Kd
section
variable {α:Type} {d:Kd α} {e base g n cap:Nat} {ok okp:Nat→Prop} {W:World} {xs:List α}
end
end Kd
namespace Kd
section
variable {α:Type} {F:Kd α→Kd α} {sz:Nat} {E:List Nat} {hs:∀ n,(yHd F sz E n).sz=sz} {hE:∀ n q,q∈(yHd F sz E n).E→q∈E}
end
end Kd
namespace Kd
theorem zVl {α:Type}{R:α→List Value→Prop}{size:Nat}{ps qs:List α}{cs ds:List Value}(h:Reps R size ps cs)(h':Reps R size qs ds):Reps R size (ps++qs) (cs++ds):=by
 refine⟨by rw[xG8,xG8,h.1,h'.1,Nat.add_mul],fun j p hj=>?_⟩
 rcases xHr j ps.length with hlt|hge
 ·rw[xH9 hlt] at hj
  have hle:j * size+size≤cs.length:=by rw[h.1,← Nat.succ_mul];exact xIn _ hlt
  rw[List.drop_append_of_le_length (by omega),xIw (by rw[xHt];omega)]
  exact h.2 j p hj
 ·rw[xIt hge] at hj
  have h2:=h'.2 (j - ps.length) p hj
  have hle:ps.length * size≤j * size:=xIn _ hge
  rw[List.drop_append,xHj (by rw[h.1];exact hle),xH4,h.1,← Nat.sub_mul]
  exact h2
section
variable {P:Program} {ops:Array Oper} {rest:List Oper} {o:Oper} {a:Act} {Q:Exit→Act→World→Prop} {α:Type}
theorem R_append_rows (d:Kd α){Rr:α→List Value→Prop}{w0 W:World}(base:Nat)(hgd:o.guard=none)(s x:Operand)(t e:TypeId)(z:Value)(bytes:Nat)
  (ho:o.op=.call { callee:=.builtin .append,args:=#[s,x],argTypes:=#[t,t] })
  (ht:P.underlying t=some (.slice e)) (hinfo:(P.info? e).map (fun i=>(i.zero,i.size,i.bytes))=some (some z,d.sz,bytes)) (hz:z.cells.size=d.sz) (hs0:0 < d.sz) (hb0:0 < bytes)
  (v:Value) (xs ys:List α) (A:Option Addr) (m c:Nat) (ok okp:Nat→Prop) (hs:a.eval s=v) (hx:a.eval x=.slice A m c)
  (HO:d.R e W base ok v xs) (HR:ReadsRow Rr d.sz W A m ys) (hKM:∀ x cs,Rr x cs→d.M W base okp x cs) (hokp:∀ k,okp k→ok k∧some k≠v.ownBlock) (hfresh:∀ k,W.heap.size≤k→ok k)
  (HB:Below base w0 W) (hbase:base≤W.heap.size) (hl:(xs.length+m) * bytes≤140737488355328)
  (h:∀ v1 w1,d.R e w1 base ok v1 (xs++ys)→Below base w0 w1→W.grownBy w1 v.ownBlock→(v1.ownBlock=v.ownBlock∨∃ b,v1.ownBlock=some b∧W.heap.size≤b)→wpList P ops Q rest (a.put o.dst v1) w1):
  wpList P ops Q (o::rest) a W:=by
 obtain⟨i0,hi,hzz⟩:=Option.map_eq_some_iff.1 hinfo
 simp only[xG5] at hzz
 obtain⟨hz0,hz1,hz2⟩:=hzz
 have hm:ys.length=m:=HR.1
 have hlen:xs.length+m≤140737488355328:=xHf (Nat.le_mul_of_pos_right _ hb0) hl
 obtain⟨hok,inner,hown,hr⟩:=HO
 have hrun:∃ v1 w1,(Builtin.append_ #[t,t] o.type #[v,.slice A m c]).run P W=.ok v1 w1∧d.R e w1 base ok v1 (xs++ys)∧W.grownBy w1 v.ownBlock∧(v1.ownBlock=v.ownBlock∨∃ b,v1.ownBlock=some b∧W.heap.size≤b):=by
  rcases A with _|ad
  ·have h0:m=0:=by
    rcases Nat.eq_zero_or_pos m with h0|h0
    ·exact h0
    ·obtain⟨ad,h,_⟩:=HR.2.2 h0
     cases h
   subst h0
   obtain rfl:ys=[]:=xHq hm
   refine⟨v,W,?_,by rw[xI3];exact⟨hok,inner,hown,hr⟩,World.grownBy.refl W _,.inl rfl⟩
   rcases hown.2 with⟨rfl,hn⟩|⟨g,cap,cur,rfl,_,_,hnc,_⟩
   ·simp[Builtin.append_,run_underlying ht,sizeOf,typeInfo,hi,Builtin.lenOf,Builtin.firstCells]
   ·simp[Builtin.append_,run_underlying ht,sizeOf,typeInfo,hi,Builtin.lenOf,Builtin.firstCells,hnc,storeCells]
  ·obtain⟨news,hnr,hnc⟩:=ReadsRow.inner_ HR
   have hnM:Reps (d.M W base okp) d.sz ys news:=hnr.imp_ (fun p c hp=>hKM p c hp)
   have hone:∀ u∈news,u.oneCell'=true:=by
    intro u hu
    obtain⟨q,hq,rfl⟩:=List.mem_iff_getElem.1 hu
    have hql:q / d.sz < ys.length:=by
     rw[Nat.div_lt_iff_lt_mul hs0]
     rw[← hnM.1]
     exact hq
    have hc:=hnM.2 (q / d.sz) _ (xGz hql)
    refine d.K_one (d.K_of_M hc) _ ?_
    rw[List.mem_iff_getElem?]
    refine⟨q % d.sz,?_⟩
    rw[xIh,xGq (Nat.mod_lt _ hs0),xH6,Nat.mul_comm,xId,xGz hq]
   obtain⟨v1,w1,hrun,h2,hg,_,hat⟩:=run_append_own_at (P:=P) W base t o.type e i0 z d.sz bytes ht hi hz0 hz1 hz2 hz hs0 v xs.length inner hown ad m c news (by rw[hnM.1,hm]) hnc hone (by simp only[maxLen];omega) hl hbase
   have hat':v1.ownBlock=v.ownBlock∨∃ b,v1.ownBlock=some b∧W.heap.size≤b:=by
    rcases hat with hat|hat
    ·exact .inl hat
    ·exact .inr ⟨_,hat,xGv _⟩
   have hne:∀ k,some k≠v.ownBlock→k < W.heap.size→some k≠v1.ownBlock:=by
    intro k hk hlt
    rcases hat' with hat|⟨b,hb,hle⟩
    ·rw[hat];exact hk
    ·rw[hb]
     intro he
     injection he with he
     omega
   have step:∀ {q:α} {c:List Value} {o:Nat→Prop},d.M W base o q c→(∀ k,o k→ok k∧some k≠v.ownBlock)→d.M w1 base (fun k=>ok k∧some k≠v1.ownBlock) q c:=by
    intro q c o hq ho
    have h1:=d.M_move (w1:=w1) (fun k hk=>hg.block k hk.2.2.1 (ho k hk.1).2) (d.M_bound hq)
    exact d.M_mono (fun k hk=>⟨(ho k hk.1).1,hne k (ho k hk.1).2 hk.2.2.1⟩) h1
   refine⟨v1,w1,hrun,⟨fun k hk=>?_,inner++news,by rw[xG8,hm];exact h2,zVl (hr.imp_ (fun _ _ hq=>step hq (fun _ hk=>hk))) (hnM.imp_ (fun _ _ hq=>step hq hokp))⟩,hg,hat'⟩
   rcases hat' with hat|⟨b,hb,hle⟩
   ·exact hok k (hat ▸ hk)
   ·rw[hb] at hk
    injection hk with hk
    exact hfresh k (by omega)
 obtain⟨v1,w1,hr1,h1,hg,hat⟩:=hrun
 refine wpList_plain hgd fun K hK=>?_
 unfold Oper.wp execOp
 simp only[ho,resolve,invoke,builtin,Sem.run_bind,Sem.run_pure,Result.andThen_ok,List.map_toArray,xHx,xJa,hs,hx,hr1]
 exact hK _ _ (h v1 w1 h1 (HB.grown hg hbase (zLi hown)) hg hat)
end
end Kd
namespace Kd
section
variable {P:Program} {ops:Array Oper} {rest:List Oper} {o:Oper} {a:Act} {Q:Exit→Act→World→Prop} {α:Type}
end
end Kd
namespace Kd
section
variable {α:Type} {k:Kd α} {w:World} {A:Option Addr} {xs:List α} {m c:Nat}
end
end Kd
section
variable {P:Program}
end
namespace Kd
section
variable {α β:Type} {d:Kd α} {d':Kd β} {e e' base base' n:Nat} {ok ok':Nat→Prop} {w W w1 W1:World} {v u:Value} {xs:List α} {ys:List β} {A:Option Addr} {c:Nat}
end
section
variable {α:Type} {enc:α→Value} {h1:∀ x,(enc x).oneCell'=true} {w W:World} {A:Option Addr} {n g:Nat} {xs:List α}
end
end Kd
namespace Kd
section
variable {α:Type} {d:Kd α} {e base g:Nat} {ok:Nat→Prop} {w w1:World} {v:Value} {xs:List α} {o:Obj}
end
end Kd
section
variable {P:Program} {ops:Array Oper} {rest:List Oper} {o:Oper} {a:Act} {Q:Exit→Act→World→Prop}
end
namespace Kd
section
variable {α:Type} {enc:α→Value} {h1:∀ x,(enc x).oneCell'=true} {e base g n cap:Nat} {ok:Nat→Prop} {W:World} {xs:List α}
end
end Kd
section
variable {P:Program} {ops:Array Oper} {rest:List Oper} {o:Oper} {a:Act} {Q:Exit→Act→World→Prop}
end
namespace Kd
section
variable {α:Type} {enc:α→Value} {h1:∀ x,(enc x).oneCell'=true} {e base g n cap:Nat} {ok:Nat→Prop} {W:World} {xs:List α}
end
end Kd
section
variable {P:Program} {ops:Array Oper} {rest:List Oper} {o:Oper} {a:Act} {Q:Exit→Act→World→Prop} {W:World}
end
section
variable {P:Program} {ops:Array Oper} {o:Oper} {a:Act} {Q:Exit→Act→World→Prop} {Kc:Act→World→Prop}
namespace Kd
variable {α:Type}
end Kd
end
section
variable {P:Program} {tmps:Array Value} {w:World}
end
namespace Kd
section
variable {P:Program} {α:Type}
end
section
variable {P:Program} {ops:Array Oper} {rest:List Oper} {o:Oper} {a:Act} {Q:Exit→Act→World→Prop} {Kc:Act→World→Prop} {α:Type}
end
end Kd
end Go.Proofs.ZW
end
end
namespace Go.Proofs.YtfnacgojmdbjmaaGreatDoor
open Go.Det Go.RowKit Go.Proofs.ZW
def zVm (s sep:ByteArray):ByteArray×ByteArray×Bool:=(⟨(Lib.cut s.data.toList sep.data.toList).1.toArray⟩,⟨(Lib.cut s.data.toList sep.data.toList).2.1.toArray⟩,(Lib.cut s.data.toList sep.data.toList).2.2)
theorem yR5 {s sep r1 r2:ByteArray}{r3:Bool}{w:World}(hG:GoodW w)(h:(if s.size < 4294967281 then some (zVm s sep) else none)=some (r1,r2,r3)):
  Calls Tryz.prog 59 #[.string s,.string sep] w fun e w'=>e=.returned (.tuple #[.string r1,.string r2,.bool r3])∧Drawn0 w w':=by
 split at h
 case isFalse=>cases h
 rename_i hs
 cases h
 obtain⟨_,m,hm⟩:=hG.len
 refine(Tryz.Yo0 s sep m w hs hm).mono ?_
 rintro e w' ⟨rfl,n,rfl⟩
 exact⟨rfl,⟨n,rfl⟩⟩
theorem zNd {s sep:ByteArray}{r:Bool}{w:World}(hG:GoodW w)(h:(if s.size < 4294967281 then some (Lib.contains s.data.toList sep.data.toList) else none)=some r):
  Calls Tryz.prog 84 #[.string s,.string sep] w fun e w'=>e=.returned (.bool r)∧Drawn0 w w':=by
 split at h
 case isFalse=>cases h
 rename_i hs
 cases h
 obtain⟨_,m,hm⟩:=hG.len
 refine(Tryz.Yw s sep m w hs hm).mono ?_
 rintro e w' ⟨rfl,rfl⟩
 exact⟨rfl,Drawn0.refl _⟩
theorem yHm {s sep:ByteArray}{r:List ByteArray}{w:World}(hG:GoodW w)(h:(if s.size < 4294967281∧1≤sep.size then some (Lib.splitB sep 0 (Lib.countB s sep) s) else none)=some r):
  Calls Tryz.prog 103 #[.string s,.string sep] w fun e w'=>∃ v0_:Value,e=.returned (v0_)∧Kd.R Kd.string 9 w' w.heap.size (fun _=>True) v0_ r∧Below w.heap.size w w':=by
 split at h
 case isFalse=>cases h
 rename_i hs
 cases h
 obtain⟨_,m,hm⟩:=hG.len
 refine(Tryz.YD s sep m w hs.1 hm hs.2).mono ?_
 rintro e w' ⟨rfl,rfl⟩
 have hl:=Lib.splitB_all sep hs.2 0 (Lib.countB s sep) s rfl
 have hcb:=Lib.countB_le sep hs.2 s.size s (xGv _)
 refine⟨_,rfl,?_,zBf (Below.refl _ _) _⟩
 have hrep:=Kd.reps_scalar (enc:=Value.string) (Lib.splitB sep 0 (Lib.countB s sep) s)
 rw[← hl]
 exact⟨fun _ _=>trivial,OwnRow.lit w w.heap.size hrep (xGv _) (by rw[hl];omega)⟩
theorem zTn {s:ByteArray}{c r:Int}{w:World}(h:some (Lib.indexByte s.data.toList c.toNat.toUInt8)=some r):
  Calls Tryz.prog 125 #[.string s,.int .u8 c] w fun e w'=>e=.returned (.int .i64 r)∧Drawn0 w w':=by
 cases h
 refine(Tryz.Yy0 s c w).mono ?_
 rintro e w' ⟨rfl,rfl⟩
 exact⟨rfl,Drawn0.refl _⟩
def zNe (l:List ByteArray)(sep:ByteArray):ByteArray:=⟨(Lib.join (l.map (·.data.toList)) sep.data.toList).toArray⟩
theorem yNg {A0:Option Addr}{c0:Nat}{l0:List ByteArray}{sep r:ByteArray}{w:World}(hr:Kd.C Kd.string w A0 l0.length l0)(hc:l0.length≤c0)
  (h:(if(zNe l0 sep).size≤140737488355328∧l0.length≤140737488355328 then some (zNe l0 sep) else none)=some r):
  Calls Tryz.prog 90 #[.slice A0 l0.length c0,.string sep] w fun e w'=>e=.returned (.string r)∧Below w.heap.size w w':=by
 split at h
 case isFalse=>cases h
 rename_i hs
 cases h
 obtain⟨hl,hm,hcell⟩:=hr
 cases l0 with
 |nil=>
  refine(Tryz.Yu0 A0 c0 sep w).mono ?_
  rintro e w' ⟨rfl,rfl⟩
  exact⟨rfl,Below.refl _ _⟩
 |cons x t=>
  obtain⟨ad,rfl,hc1⟩:=hcell (by simp)
  have at_:∀ (j:Nat) p,(x::t)[j]?=some p→w.cell? (ad.add j)=some (.string p):=by
   intro j p hj
   obtain⟨c,h1,h2,h3⟩:=hc1 j p hj
   have h2:c=[Value.string p]:=h2
   have:=h3 0 (.string p) (by rw[h2];rfl)
   simpa [Kd.string,Kd.scalar] using this
  have h0:=at_ 0 x rfl
  have hsp:=World.cell?_spot h0
  obtain⟨bk,o,sp⟩:=ad
  have hsp:sp=none:=by simpa [Addr.add] using hsp
  subst hsp
  have hadd:∀ j,(⟨bk,o,none⟩:Addr).add j=⟨bk,o+j,none⟩:=by
   intro j
   unfold Addr.add
   split
   ·rename_i q;subst q;rfl
   ·rfl
  refine(Tryz.YU bk o c0 (x::t) sep w (fun j p hj=>by rw[← hadd];exact at_ j p hj) ?_ hs.2 hc ?_).mono ?_
  ·rw[hadd] at h0;exact World.block_lt_of_cell? w _ h0
  ·have:=hs.1
   unfold zNe at this
   simpa [ByteArray.size] using this
  ·rintro e w' ⟨rfl,hB⟩
   exact⟨rfl,hB⟩
end Go.Proofs.YtfnacgojmdbjmaaGreatDoor
namespace Go.Det
variable {P:Program}
theorem zTo {l:zAv}(rs:List ResultVar):∀ {s:St} {K K':List Value→St→Prop},(∀ vs s,K vs s→K' vs s)→yJc P l s rs K→yJc P l s rs K':=by
 induction rs with
 |nil=>exact fun k h=>k _ _ h
 |cons r rest ih=>
  intro s K K' k h
  cases r with
  |tmp t=>exact ih (K:=fun vs s=>K (zD7 l t::vs) s) (fun _ _ h=>k _ _ h) h
  |cell a t=>exact zPe (fun v s h=>ih (K:=fun vs s=>K (v::vs) s) (fun _ _ h=>k _ _ h) h) h
theorem zNf {fn:Func}{Q Q':KV}(k:∀ v s,Q v s→Q' v s){e:Ex}{l:zAv}{s:St}(h:zA2 P fn Q e l s):zA2 P fn Q' e l s:=by
 unfold zA2 at h ⊢
 cases e with
 |exit _=>exact h
 |normal=>exact zTo _ (fun _ _ h=>k _ _ h) h
 |ret=>exact zTo _ (fun _ _ h=>k _ _ h) h
def yUd:Value→Bool
 |.float .f64 1=>true
 |.slice _ n c=>Nat.ble zBa c||Nat.ble n c
 |_=>false
def yFx {β:Type}(d:Value→Option β):List Value→Option (List β)
 |[]=>some []
 |v::t=>match d v with
  |some b=>(match yFx d t with|some r=>some (b::r)|none=>none)
  |none=>none
theorem zQ6 {β:Type}{d:Value→Option β}{e:β→Value}(hd:∀ v b,d v=some b→v=e b):∀ {l:List Value} {r:List β},yFx d l=some r→l=r.map e
 |[],r,h=>by cases h;rfl
 |v::t,r,h=>by
  unfold yFx at h
  split at h
  case h_2=>cases h
  rename_i b hb
  split at h
  case h_2=>cases h
  rename_i r' hr
  cases h
  rw[hd v b hb,zQ6 hd hr];rfl
def zNg {β γ δ:Type}(d:Value→Option β)(dr:List Value→Option γ)(F:List β→γ→Option δ)(enc:δ→Value)(args:List Value)(s:St):Option (Value×St):=
 match args with
 |v::rest=>match yUd v with
  |true=>(match dr rest with
   |some g=>(match yF3 v with
    |some n=>(match zBr s 1 n v with
     |some x=>(match yFx d x.1 with
      |some l=>(match F l g with|some r=>some (enc r,x.2)|none=>none)
      |none=>none)
     |none=>none)
    |none=>none)
   |none=>none)
  |false=>none
 |[]=>none
def Con.reads {β γ δ:Type}(d:Value→Option β)(dr:List Value→Option γ)(F:List β→γ→Option δ)(enc:δ→Value):Con where
 own:=zNg d dr F enc
 w:=fun args s K=>match args with
  |v::rest=>(match yUd v with
   |true=>(match dr rest with
    |some g=>(match yF3 v with
     |some n=>(match zBr s 1 n v with
      |some x=>(match yFx d x.1 with
       |some l=>∃ r,F l g=some r∧K (enc r) x.2
       |none=>False)
      |none=>False)
     |none=>False)
    |none=>False)
   |false=>False)
  |[]=>False
 ok:=by
  intro args s K h
  unfold zNg
  split at h
  case h_2=>exact h.elim
  split at h
  case h_2=>exact h.elim
  rename_i h1
  split at h
  case h_2=>exact h.elim
  rename_i g h2
  split at h
  case h_2=>exact h.elim
  rename_i n h3
  split at h
  case h_2=>exact h.elim
  rename_i x h4
  split at h
  case h_2=>exact h.elim
  rename_i l h5
  obtain⟨r,hr,hk⟩:=h
  exact⟨enc r,x.2,by simp only[h1,h2,h3,h4,h5,hr],hk,fun K' k=>⟨r,hr,k⟩⟩
 mono:=by
  intro args s K K' k h
  split at h
  case h_2=>exact h.elim
  split at h
  case h_2=>exact h.elim
  rename_i h1
  split at h
  case h_2=>exact h.elim
  rename_i g h2
  split at h
  case h_2=>exact h.elim
  rename_i n h3
  split at h
  case h_2=>exact h.elim
  rename_i x h4
  split at h
  case h_2=>exact h.elim
  rename_i l h5
  obtain⟨r,hr,hk⟩:=h
  first|exact⟨r,hr,k _ _ hk⟩|(simp only[*];exact⟨r,hr,k _ _ hk⟩)
theorem yHn {β γ δ:Type}(d:Value→Option β)(dr:List Value→Option γ)(F:List β→γ→Option δ)(enc:δ→Value)(args:List Value):Tr (zNg d dr F enc args):=by
 intro s v s' h
 unfold zNg at h
 split at h
 case h_2=>cases h
 rename_i v0 rest
 split at h
 case h_2=>cases h
 rename_i h1
 split at h
 case h_2=>cases h
 rename_i g h2
 split at h
 case h_2=>cases h
 rename_i n h3
 split at h
 case h_2=>cases h
 rename_i x h4
 split at h
 case h_2=>cases h
 rename_i l h5
 split at h
 case h_2=>cases h
 rename_i r h6
 cases h
 obtain⟨a,b⟩:=zIe 1 n v0 s x.1 x.2 h4
 refine⟨a,fun u j hbe hag hx=>?_⟩
 obtain⟨u',e,k⟩:=b u j hbe hag hx
 exact⟨u',by unfold zNg;simp only[h1,h2,h3,e,h5,h6],k⟩
def yC5 {β:Type}(e:β→Value)(w:World)(A:Option Addr)(l:List β):Prop:=
 l=[]∨∃ b o,A=some ⟨b,o,none⟩∧∀ j x,l[j]?=some x→w.cell? ⟨b,o+j,none⟩=some (e x)
theorem own_reads {G:Nat}{f:FuncId}{fn:Func}{c:Code}{β γ δ:Type}{d:Value→Option β}{dr:List Value→Option γ}{F:List β→γ→Option δ}{enc:δ→Value}{e:β→Value}{er:γ→List Value}{W:World}{Gd:World→Prop}
  (hW:∀ w,Later W w→Gd w) (hf:P.funcs[f]?=some fn) (hb:fn.body=some c) (hn:(fn.name== "runtime.NumGoroutine")=false)
  (hd:∀ v b,d v=some b→v=e b) (he:∀ b,flat (e b)=true∧e b≠und) (hdr:∀ r g,dr r=some g→r=er g) (her:∀ g,zCo (er g)=true)
  (h:∀ l g r,F l g=some r→flat (enc r)=true∧enc r≠und∧∀ w A c,Gd w→l.length≤c→yC5 e w A l→
   Calls P f ⟨.slice A l.length c::er g⟩ w fun z w'=>z=.returned (enc r)∧(w'.os=w.os∧w'.tape=w.tape∧w'.output=w.output∧w.heap.size≤w'.heap.size∧∀ j,j < w.heap.size→w'.heap[j]?=w.heap[j]?)):
  zAk P W G f (Con.reads d dr F enc).own:=by
 refine⟨yHn d dr F enc,fun W1 k1 args s v s' ed φ w args' H _ hA _ _=>?_⟩
 change zNg d dr F enc args s=some (v,s') at ed
 unfold zNg at ed
 split at ed
 case h_2=>cases ed
 rename_i v0 rest
 split at ed
 case h_2=>cases ed
 rename_i h1
 split at ed
 case h_2=>cases ed
 rename_i g h2
 split at ed
 case h_2=>cases ed
 rename_i n h3
 split at ed
 case h_2=>cases ed
 rename_i x h4
 split at ed
 case h_2=>cases ed
 rename_i l h5
 split at ed
 case h_2=>cases ed
 rename_i r h6
 cases ed
 obtain rfl:=hdr _ _ h2
 have hx:=zQ6 hd h5
 have kw:Later W w:=k1.trans H.later
 obtain⟨A,c',hA1,hlen,hc,hrow,hs⟩:∃ A c',args'=.slice A l.length c'::er g∧n=l.length∧l.length≤c'∧yC5 e w A l∧(x.2.h=s.h∧s.next=x.2.next):=by
  obtain⟨hl,hA⟩:=hA
  cases args' with
  |nil=>simp at hl
  |cons u t=>
   have hv:=hA 0
   simp only[List.getD_cons_zero] at hv
   have ht:VRL φ (er g) t:=⟨by simpa using hl,fun i=>by have:=hA (i+1);simpa only[List.getD_cons_succ] using this⟩
   have ht:=zB5 (her g) ht
   subst ht
   have hll:x.1.length=l.length:=by rw[hx,xHm]
   unfold yUd at h1
   split at h1
   ·
    cases h3
    unfold zBr at h4
    simp only at h4
    split at h4
    case isFalse=>cases h4
    cases h4
    cases hv with
    |emp a c hsp=>
     have:l=[]:=xHq hll.symm
     subst this
     exact⟨a,c,rfl,rfl,xIc _,.inl rfl,rfl,rfl⟩
   ·rename_i a0 m c0
    cases h3
    unfold zBr at h4
    split at h4
    ·rename_i id off n1 c1 heq
     cases heq
     have hcap:∃ b sh sz cc,u=.slice (some ⟨b,sh+off,none⟩) n cc∧φ id=some (b,sh,sz)∧n≤cc:=by
      cases hv with
      |slice _ _ b sh sz _ _ hφ hlt=>
       refine⟨b,sh,sz,c0,rfl,hφ,?_⟩
       rcases Bool.or_eq_true_iff.1 h1 with q|q
       ·have:=xHg q;omega
       ·exact xHg q
      |sliceU _ _ b sh sz _ cc _ hφ _ _ hle=>exact⟨b,sh,sz,cc,rfl,hφ,hle⟩
     obtain⟨b,sh,sz,cc,rfl,hφ,hle⟩:=hcap
     split at h4
     ·rename_i h0
      have h0:n * 1=0:=xG3 h0
      cases h4
      have:l=[]:=xHq hll.symm
      subst this
      have:n=0:=by omega
      subst this
      exact⟨_,cc,rfl,rfl,xIc _,.inl rfl,rfl,rfl⟩
     ·split at h4
      case h_2=>cases h4
      rename_i cs e0 ro hg
      split at h4
      case h_2=>cases h4
      rename_i r0 hr0
      cases h4
      simp only at hx hll
      rw[zCh] at hr0
      obtain⟨e1,e2⟩:=zCd hr0
      rw[Nat.mul_one] at e1 e2
      have hn:n=l.length:=by rw[← hll,e1,xHn];omega
      subst hn
      refine⟨_,cc,rfl,rfl,hle,.inr ⟨b,sh+off,rfl,fun j y hj=>?_⟩,rfl,rfl⟩
      obtain⟨b2,sh2,sz2,c2,fz,q⟩:=H.cells _ _ _ _ hg
      have:=q.at_
      rw[hφ] at this;cases this
      have hjl:j < l.length:=(xHu.1 hj).1
      have hcs:cs.getD (off+j) und=e y:=by
       have h7:r0[j]?=some (e y):=by rw[hx,xIe,hj];rfl
       rw[e1,xIh,xGq hjl,xH6] at h7
       rw[xGw,h7];rfl
      have hlt:off+j < cs.length:=by rw[xHt] at e2;omega
      have hv:=q.cell (off+j) hlt
      rw[hcs] at hv
      have hv:=zI6 (he y).1 hv (he y).2
      unfold World.cell?
      rw[q.blk]
      simp only[Option.isSome_none,xHz,if_false]
      have hfit:=q.fit
      have hsz:=q.size
      rw[xHb,xIf (by omega)] at hv
      rw[show sh+off+j=sh+(off+j) by omega,xIf (by omega)]
      simpa using hv
    ·rename_i n1 c1 heq
     cases heq
     split at h4
     case isFalse=>cases h4
     rename_i h0
     cases h4
     have h0:n=0:=xG3 h0
     subst h0
     have:l=[]:=xHq hll.symm
     subst this
     cases hv with
     |snil _ _ hlt=>exact⟨none,c0,rfl,rfl,xIc _,.inl rfl,rfl,rfl⟩
    ·rename_i heq;cases heq
    ·rename_i heq;cases heq
    ·cases h4
   ·cases h1
 obtain⟨f1,f2,f3⟩:=h l g r h6
 rw[hA1,zBg hf hb hn]
 refine(f3 w A c' (hW w kw) hc hrow).mono ?_
 rintro z W' ⟨rfl,o1,o2,o3,o4,o5⟩
 refine⟨_,φ,rfl,Ext.refl _ _ _,zCp f1 _,?_⟩
 rw[hs.1]
 exact H.keep ⟨o1,o3,o4,o5⟩ o2
def Con.made {α:Type}(dec:List Value→Option α)(F:α→Option (List Value))(n:Nat)(e:TypeId):Con where
 own:=fun args s=>match dec args with
  |some a=>(match F a with
   |some cs=>some (.slice (some ⟨s.next,0,none⟩) n n,s.new (.cells cs e false))
   |none=>none)
  |none=>none
 w:=fun args s K=>match dec args with
  |some a=>∃ cs,F a=some cs∧K (.slice (some ⟨s.next,0,none⟩) n n) (s.new (.cells cs e false))
  |none=>False
 ok:=by
  intro args s K h
  split at h
  ·rename_i a ha
   obtain⟨cs,hr,hk⟩:=h
   exact⟨_,_,by simp only[ha,hr],hk,fun K' k=>⟨cs,hr,k⟩⟩
  ·exact h.elim
 mono:=by
  intro args s K K' k h
  split at h
  ·obtain⟨cs,hr,hk⟩:=h
   exact⟨cs,hr,k _ _ hk⟩
  ·exact h.elim
theorem yHo {cw:Cw}{W:World}{G:Nat}{l:List (Nat×Own)}{h:Heap}{f:FuncId}{fn:Func}{c:Code}{α:Type}{dec:List Value→Option α}{F:α→Option (List Value)}{n:Nat}{e:TypeId}(enc:α→List Value)(L:Laying G W h)(hGW:G≤W.heap.size)(hG64:G≤64)
  (hm:P.follows .mixedOrders=true) (hl:OwnsAll P W G l) (ho:CwOk (zDc l) cw) (hf:P.funcs[f]?=some fn) (hb:fn.body=some c) (hok:zEb G fn=true) (hn:n < zBa)
  (hdec:∀ args a,dec args=some a→args=enc a) (hflat:∀ a,zCo (enc a)=true∧Nat.ble (enc a).length fn.ntmps=true)
  (hF:∀ a cs,F a=some cs→(∀ v∈cs,flat v=true)∧zAo P cw c (zAg (enc a) 8) (zAh h 64) (zA2 P fn fun v' s'=>∃ k,v'=.slice (some ⟨k,0,none⟩) n n∧s'.h.get k=some (.cells cs e false))):zAk P W G f (Con.made dec F n e).own:=by
 refine⟨fun args=>?_,fun W1 k1 args s v s' ed φ w args' H _ hA hfr _=>?_⟩
 ·refine zI2 (match dec args with
   |some a=>(match F a with
    |some cs=>some (Blk.cells cs e false,fun k=>Value.slice (some ⟨k,0,none⟩) n n)
    |none=>none)
   |none=>none) fun s=>?_
  show(match dec args with
   |some a=>(match F a with
    |some cs=>some (Value.slice (some ⟨s.next,0,none⟩) n n,s.new (.cells cs e false))
    |none=>none)
   |none=>none)=_
  cases dec args with
  |none=>rfl
  |some a=>
   simp only
   cases F a with
   |none=>rfl
   |some r=>rfl
 ·have e0:(match dec args with
   |some a=>(match F a with
    |some cs=>some (Value.slice (some ⟨s.next,0,none⟩) n n,s.new (.cells cs e false))
    |none=>none)
   |none=>none)=some (v,s'):=ed
  split at e0
  case h_2=>cases e0
  rename_i a ha
  split at e0
  case h_2=>cases e0
  rename_i cs hr
  cases e0
  obtain rfl:=hdec _ _ ha
  obtain⟨h1,h4⟩:=hF a cs hr
  have hnn:(fn.name== "runtime.NumGoroutine")=false:=by
   unfold zEb at hok
   rw[hb] at hok
   simp only[xG0,xIi] at hok
   exact hok.2
  rw[zB5 (hflat a).1 hA,zBg hf hb hnn]
  have kw:Later W w:=k1.trans H.later
  have Lw:=L.move kw.size kw.old hGW
  refine(zHd (P:=P) (w0:=w) (φ0:=glob G w) (G:=G) ho (zFx hl kw) (zFw hl) hm (zD4 G w) (fun id q=>zC6 G w hG64 id q) hf hb hok (hflat a).2 Lw.hr (zDa (hflat a).1 _) (fun id q=>zC6 G w hG64 id q) (fun id q=>Lw.top id (xHf hG64 q)) (xGv 64) h4).mono ?_
  rintro z W' ⟨v1,v',s1,φ',rfl,⟨k0,rfl,hg⟩,hv,H',_,_⟩
  obtain⟨b,sh,sz,c2,fz,q⟩:=H'.cells _ _ _ _ hg
  have hv':v'=.slice (some ⟨b,sh+0,none⟩) n n:=by
   cases hv with
   |slice _ _ b2 sh2 sz2 _ _ hφ _=>
    have:=q.at_
    rw[hφ] at this
    cases this
    rfl
   |sliceU _ _ b2 sh2 sz2 _ _ _ hφ=>omega
  subst hv'
  have hnew:φ s.next=none:=hfr s.next (xGv _) (by show s.next < Nat.max s.hi (s.next+1);exact xHd (xHw _) (xIy _ _))
  have hmine:=q.mine rfl
  refine⟨_,upd φ s.next (b,sh,sz),rfl,Ext.upd hnew _,VR.slice _ _ _ _ _ _ _ (zBd _ _ _) hn,?_⟩
  refine H.adopt (w':=W') hnew H'.os H'.output H'.tape H'.size (fun j hj _=>H'.old j hj) (xHf H.size hmine.1) (fz:=fz) (c:=c2) q.blk q.exact_ ?_ q.size q.fit (fun i hi=>?_) (fun _=>hmine.2) (fun O qq=>by rw[xIb hmine.1] at qq;cases qq)
  ·intro j cj ej rj bj sj zj _ a'
   have:=H.dom _ _ _ _ a'
   omega
  ·have:=q.cell i hi
   have hm:cs.getD i und∈cs:=by rw[xGw,xGz hi];exact xH3 hi
   exact zE8 (h1 _ hm) this
end Go.Det
namespace Go.Det.Txt
open Go.Lib
theorem zQ7 (c:UInt8)(s:List UInt8)(j:Nat):occAt s [c] j=true↔s[j]?=some c:=by
 unfold occAt
 cases h:s.drop j with
 |nil=>
  have:s.length≤j:=List.drop_eq_nil_iff.1 h
  rw[xHy this]
  simp[List.isPrefixOf]
 |cons x t=>
  have:s[j]?=some x:=by
   have:(s.drop j)[0]?=some x:=by rw[h];rfl
   simpa using this
  rw[this]
  simp[List.isPrefixOf]
  exact eq_comm
theorem index_no {c:UInt8}{s:List UInt8}(h:c∉s):index s [c]=-1:=by
 refine index_none fun j _=>?_
 cases hq:occAt s [c] j with
 |false=>rfl
 |true=>exact absurd (xI2 ((zQ7 c s j).1 hq)) h
theorem zW6 {c:UInt8}{p t:List UInt8}(h:c∉p):index (p++c::t) [c]=(p.length:Int):=by
 refine index_first (by simp) ((zQ7 _ _ _).2 (by simp)) fun j hj=>?_
 cases hq:occAt (p++c::t) [c] j with
 |false=>rfl
 |true=>
  have:=(zQ7 _ _ _).1 hq
  rw[xH9 hj] at this
  exact absurd (xI2 this) h
theorem join_more (p q:List UInt8)(r:List (List UInt8))(c:UInt8):join (p::q::r) [c]=p++c::join (q::r) [c]:=by
 rw[join_cons,join_cons]
 simp[joinTail,xIa]
theorem zVn (p t:List UInt8)(c:UInt8):(p++c::t).drop (p.length+1)=t:=by
 rw[List.drop_append,xHj (by omega),Nat.add_sub_cancel_left];rfl
theorem zPp {c:UInt8}:∀ (ps:List (List UInt8)),ps≠[]→(∀ p∈ps,c∉p)→split (join ps [c]) [c]=ps
 |[],h,_=>absurd rfl h
 |[p],_,h=>by
  have hi:=index_no (h p xH1)
  unfold split
  rw[join_one,count_miss hi]
  rfl
 |p::q::r,_,h=>by
  have hp:=h p xH1
  have ih:=zPp (q::r) (by simp) fun x hx=>h x (xIg _ hx)
  rw[join_more]
  have hi:=zW6 (t:=join (q::r) [c]) hp
  unfold split at ih ⊢
  rw[count_hit (by simp) hi]
  show splitK [c] 0 (1+count ((p++c::join (q::r) [c]).drop (p.length+1)) [c]) _=_
  rw[zVn,Nat.add_comm 1]
  unfold splitK
  have:((index (p++c::join (q::r) [c]) [c])==-1)=false:=by rw[hi,beq_eq_false_iff_ne];omega
  rw[this,hi]
  simp only[xHz,if_false,xG7,Nat.add_zero]
  show _::splitK [c] 0 _ ((p++c::join (q::r) [c]).drop (p.length+1))=_
  rw[zVn,ih,xIw (xGv _),List.take_length]
theorem splitB_join {c:UInt8}(ps:List (List UInt8))(h:ps≠[])(hc:∀ p∈ps,c∉p):splitB ⟨#[c]⟩ 0 (countB ⟨(join ps [c]).toArray⟩ ⟨#[c]⟩) ⟨(join ps [c]).toArray⟩=ps.map fun p=>⟨p.toArray⟩:=by
 have h1:=splitB_data ⟨#[c]⟩ 0 (countB ⟨(join ps [c]).toArray⟩ ⟨#[c]⟩) ⟨(join ps [c]).toArray⟩
 have h2:=zPp ps h hc
 unfold split at h2
 have h3:(splitB ⟨#[c]⟩ 0 (countB ⟨(join ps [c]).toArray⟩ ⟨#[c]⟩) ⟨(join ps [c]).toArray⟩).map (·.data.toList)=ps:=h1.trans h2
 have h4:=congrArg (List.map fun p:List UInt8=>(⟨p.toArray⟩:ByteArray)) h3
 rw[List.map_map] at h4
 rw[← h4]
 exact(List.map_id'' (fun _=>rfl) _).symm
def twice (c:UInt8):List UInt8→Bool
 |x::y::t=>(x==c&&y==c)||twice c (y::t)
 |_=>false
theorem twice_cons {c x:UInt8}(h:x≠c)(t:List UInt8):twice c (x::t)=twice c t:=by
 cases t with
 |nil=>rfl
 |cons y t=>simp[twice,h]
theorem zHf {c:UInt8}:∀ {p:List UInt8},c∉p→∀ t,twice c (p++t)=twice c t
 |[],_,t=>rfl
 |x::p,h,t=>by
  rw[xIs,twice_cons (fun e=>h (by rw[e];exact xH1)),zHf (fun e=>h (xIg _ e))]
theorem twice_join {c:UInt8}:∀ (ps:List (List UInt8)),(∀ p∈ps,c∉p∧p≠[])→∀ t,twice c (join ps [c]++t)=twice c t
 |[],_,t=>rfl
 |[p],h,t=>by rw[join_one];exact zHf (h p xH1).1 t
 |p::q::r,h,t=>by
  rw[join_more,xIa,zHf (h p xH1).1,xIs]
  have ih:=twice_join (q::r) (fun x hx=>h x (xIg _ hx)) t
  obtain⟨h1,h2⟩:=h q (xIg _ xH1)
  cases q with
  |nil=>exact absurd rfl h2
  |cons x q=>
   have hx:x≠c:=fun e=>h1 (by rw[e];exact xH1)
   rw[join_cons] at ih ⊢
   rw[← ih]
   simp[twice,hx]
theorem yC6 {c:UInt8}:∀ {s:List UInt8} {j:Nat},occAt s [c,c] j=true→∃ a b,s=a++c::c::b∧a.length=j
 |s,j,h=>by
  unfold occAt at h
  obtain⟨b,hb⟩:=List.isPrefixOf_iff_prefix.1 h
  refine⟨s.take j,b,?_,?_⟩
  ·have:s.drop j=c::c::b:=by rw[← hb];rfl
   rw[← this,List.take_append_drop]
  ·rw[xHn]
   have:(s.drop j).length=b.length+2:=by rw[← hb];simp
   rw[xHt] at this
   omega
theorem zNh {c:UInt8}:∀ (a b:List UInt8),twice c (a++c::c::b)=true
 |[],b=>by simp[twice]
 |[x],b=>by simp[twice]
 |x::y::a,b=>by
  have:=zNh (c:=c) (y::a) b
  simp only[xIs] at this ⊢
  simp[twice,this]
theorem yHp {c:UInt8}{s:List UInt8}(h:twice c s=false)(j:Nat):occAt s [c,c] j=false:=by
 cases hq:occAt s [c,c] j with
 |false=>rfl
 |true=>
  obtain⟨a,b,rfl,_⟩:=yC6 hq
  rw[zNh] at h
  cases h
theorem cut_miss {c:UInt8}{s:List UInt8}(h:twice c s=false):cut s [c,c]=(s,[],false):=by
 unfold cut
 rw[index_none fun j _=>yHp h j]
 rfl
theorem cut_hit {c:UInt8}{a:List UInt8}(b:List UInt8)(h:twice c (a++[c])=false):cut (a++c::c::b) [c,c]=(a,b,true):=by
 have hi:index (a++c::c::b) [c,c]=(a.length:Int):=by
  refine index_first (by simp) ?_ fun j hj=>?_
  ·unfold occAt
   rw[List.drop_left]
   simp[List.isPrefixOf]
  ·cases hq:occAt (a++c::c::b) [c,c] j with
   |false=>rfl
   |true=>
    exfalso
    obtain⟨x,y,e,hx⟩:=yC6 hq
    have e1:(a++[c]).take (j+2)=x++[c,c]:=by
     have:(a++c::c::b).take (j+2)=x++[c,c]:=by
      rw[e,List.take_append,xIu (by omega),hx,show j+2 - j=2 by omega];rfl
     have e3:((a++[c])++c::b).take (j+2)=(a++[c]).take (j+2):=xIw (by rw[xG8,xHv];omega)
     rw[← e3,← this]
     simp
    have e2:a++[c]=x++c::c::(a++[c]).drop (j+2):=by
     conv=>lhs;rw[← List.take_append_drop (j+2) (a++[c]),e1]
     simp
    rw[e2,zNh] at h
    cases h
 unfold cut
 rw[xGq (by rw[hi];omega),hi,xG7]
 simp only[List.take_left,xG4,xHa]
 rw[List.drop_append,xHj (by omega),Nat.add_sub_cancel_left]
 rfl
theorem cut_one {c:UInt8}{a:List UInt8}(b:List UInt8)(h:c∉a):cut (a++c::b) [c]=(a,b,true):=by
 unfold cut
 rw[zW6 h,xGq (by omega),xG7]
 simp only[List.take_left,xG4,xHa]
 rw[zVn]
theorem contains_no {c:UInt8}{s:List UInt8}(h:c∉s):contains s [c]=false:=by
 unfold contains;rw[index_no h];rfl
theorem contains_yes {c:UInt8}{s:List UInt8}(h:c∈s):contains s [c]=true:=by
 obtain⟨a,b,rfl⟩:=List.append_of_mem h
 unfold contains
 rcases index_spec (a++c::b) [c] with⟨_,h2⟩|⟨i,h1,_⟩
 ·have:=h2 a.length (by simp)
  rw[(zQ7 c _ _).2 (by simp)] at this
  cases this
 ·rw[h1];exact xGx (by omega)
theorem not_mem_join {c d:UInt8}(hd:d≠c):∀ (ps:List (List UInt8)),(∀ p∈ps,d∉p)→d∉join ps [c]
 |[],_=>by simp[join_nil]
 |[p],h=>by rw[join_one];exact h p xH1
 |p::q::r,h=>by
  rw[join_more]
  simp only[List.mem_append,xG6,not_or]
  exact⟨h p xH1,hd,not_mem_join hd (q::r) fun x hx=>h x (xIg _ hx)⟩
def dg (n:Nat):UInt8:=if n < 10 then UInt8.ofNat (48+n) else UInt8.ofNat (87+n)
def decT (n:Nat):List UInt8:=if n < 10 then[dg n] else if n < 100 then[dg (n / 10),dg (n % 10)] else[dg (n / 100),dg (n / 10 % 10),dg (n % 10)]
def hexT (n:Nat):List UInt8:=if n < 16 then[dg n] else if n < 256 then[dg (n / 16),dg (n % 16)] else if n < 4096 then[dg (n / 256),dg (n / 16 % 16),dg (n % 16)] else[dg (n / 4096),dg (n / 256 % 16),dg (n / 16 % 16),dg (n % 16)]
def yHq:List UInt8:=[48,49,50,51,52,53,54,55,56,57,97,98,99,100,101,102]
theorem yR6:∀ k:Fin 16,indexByte yHq (dg k.val ||| 32)=(k.val:Int)∧48≤(dg k.val).toNat∧(dg k.val).toNat≤102∧dg k.val≠58∧dg k.val≠47∧dg k.val≠46∧dg k.val≠45:=by decide +kernel
def sgn (c:UInt8):Bool:=c==58||c==47||c==46||c==45
theorem yJk {k:Nat}(h:k < 16){c:UInt8}(hc:sgn c=true):c≠dg k:=by
 obtain⟨_,_,_,a,b,d,e⟩:=yR6 ⟨k,h⟩
 rintro rfl
 simp[sgn] at hc
 rcases hc with((hc|hc)|hc)|hc
 ·exact a hc
 ·exact b hc
 ·exact d hc
 ·exact e hc
theorem hexT_sgn {n:Nat}(h:n < 65536){c:UInt8}(hc:sgn c=true):c∉hexT n:=by
 unfold hexT
 have q:=fun(k:Nat) (h:k < 16)=>yJk h hc
 split
 ·simp[q n (by omega)]
 ·split
  ·simp[q (n / 16) (by omega),q (n % 16) (by omega)]
  ·split
   ·simp[q (n / 256) (by omega),q (n / 16 % 16) (by omega),q (n % 16) (by omega)]
   ·simp[q (n / 4096) (by omega),q (n / 256 % 16) (by omega),q (n / 16 % 16) (by omega),q (n % 16) (by omega)]
theorem decT_sgn {n:Nat}(h:n < 256){c:UInt8}(hc:sgn c=true):c∉decT n:=by
 unfold decT
 have q:=fun(k:Nat) (h:k < 16)=>yJk h hc
 split
 ·simp[q n (by omega)]
 ·split
  ·simp[q (n / 10) (by omega),q (n % 10) (by omega)]
  ·simp[q (n / 100) (by omega),q (n / 10 % 10) (by omega),q (n % 10) (by omega)]
theorem hexT_ne (n:Nat):hexT n≠[]:=by
 unfold hexT
 split
 ·simp
 ·split
  ·simp
  ·split<;>simp
theorem decT_ne (n:Nat):decT n≠[]:=by
 unfold decT
 split
 ·simp
 ·split<;>simp
theorem hexT_len (n:Nat):1≤(hexT n).length∧(hexT n).length≤4:=by
 unfold hexT
 split
 ·simp
 ·split
  ·simp
  ·split<;>simp
end Go.Det.Txt
namespace Go.Proofs.YtfnacgojmdbjmaaGreatDoor
open Go.Det Go.RowKit Go.Proofs.ZW
def dig16:ByteArray:={ data:=#[48,49,50,51,52,53,54,55,56,57,97,98,99,100,101,102] }
def yR7:List Value→Option (ByteArray×Int)
 |[.string s,.int .u8 c]=>some (s,c)
 |_=>none
def yC7:List Value→Option (ByteArray×ByteArray)
 |[.string s,.string t]=>some (s,t)
 |_=>none
def yQ5 (s:ByteArray)(c:Int):Option Int:=some (Lib.indexByte s.data.toList c.toNat.toUInt8)
def zDg (s t:ByteArray):Option (ByteArray×ByteArray×Bool):=if s.size < 4294967281 then some (zVm s t) else none
def yYc (s t:ByteArray):Option Bool:=if s.size < 4294967281 then some (Lib.contains s.data.toList t.data.toList) else none
def zZo (l:List ByteArray)(t:ByteArray):Option ByteArray:=if(zNe l t).size≤140737488355328∧l.length≤140737488355328 then some (zNe l t) else none
def conD92:Con:=Con.opt yR7 (fun x=>yQ5 x.1 x.2) fun r=>.int .i64 r
def conD60:Con:=Con.opt yC7 (fun x=>zDg x.1 x.2) fun y=>.tuple #[.string y.1,.string y.2.1,.bool y.2.2]
def conD51:Con:=Con.opt yC7 (fun x=>yYc x.1 x.2) fun b=>.bool b
theorem yVr {W:World}(hW:GoodW W):zAk Tryz.prog W 6 125 conD92.own:=by
 refine zA6 (fn:=Tryz.f125) (c:=zAa Tryz.f125) hW Tryz.func125 (by kernel_rfl) (by kernel_rfl) fun args v h=>?_
 split at h
 case h_2=>cases h
 rename_i a ha
 split at h
 case h_2=>cases h
 rename_i b hb
 cases h
 unfold yR7 at ha
 split at ha
 case h_2=>cases ha
 cases ha
 exact⟨rfl,rfl,fun w hG=>(zTn hb).mono fun e w' h=>⟨h.1,h.2.below⟩⟩
theorem yR8 {W:World}(hW:GoodW W):zAk Tryz.prog W 6 59 conD60.own:=by
 refine zA6 (fn:=Tryz.f59) (c:=zAa Tryz.f59) hW Tryz.func59 (by kernel_rfl) (by kernel_rfl) fun args v h=>?_
 split at h
 case h_2=>cases h
 rename_i a ha
 split at h
 case h_2=>cases h
 rename_i b hb
 cases h
 unfold yC7 at ha
 split at ha
 case h_2=>cases ha
 cases ha
 exact⟨rfl,rfl,fun w hG=>(yR5 hG hb).mono fun e w' h=>⟨h.1,h.2.below⟩⟩
theorem yVs {W:World}(hW:GoodW W):zAk Tryz.prog W 6 84 conD51.own:=by
 refine zA6 (fn:=Tryz.f84) (c:=zAa Tryz.f84) hW Tryz.func84 (by kernel_rfl) (by kernel_rfl) fun args v h=>?_
 split at h
 case h_2=>cases h
 rename_i a ha
 split at h
 case h_2=>cases h
 rename_i b hb
 cases h
 unfold yC7 at ha
 split at ha
 case h_2=>cases ha
 cases ha
 exact⟨rfl,rfl,fun w hG=>(zNd hG hb).mono fun e w' h=>⟨h.1,h.2.below⟩⟩
def yYd:Value→Option ByteArray
 |.string s=>some s
 |_=>none
def dS1:List Value→Option ByteArray
 |[.string s]=>some s
 |_=>none
def conD55:Con:=Con.reads yYd dS1 zZo fun r=>.string r
theorem yVt {W:World}(hW:GoodW W):zAk Tryz.prog W 6 90 conD55.own:=by
 refine own_reads (fn:=Tryz.f90) (c:=zAa Tryz.f90) (e:=Value.string) (er:=fun s=>[.string s]) (Gd:=GoodW) (fun w k=>hW.later k.size k.old) Tryz.func90 (by kernel_rfl) (by kernel_rfl) (fun v b h=>?_) (fun b=>⟨rfl,by intro h;cases h⟩) (fun r g h=>?_) (fun _=>rfl) fun l g r hF=>⟨rfl,(by intro h;cases h),fun w A c hG hc hR=>?_⟩
 ·unfold yYd at h
  split at h
  ·cases h;rfl
  ·cases h
 ·unfold dS1 at h
  split at h
  ·cases h;rfl
  ·cases h
 ·unfold zZo at hF
  split at hF
  case isFalse=>cases hF
  rename_i hs
  cases hF
  cases l with
  |nil=>
   refine(Tryz.Yu0 A c g w).mono ?_
   rintro e w' ⟨rfl,rfl⟩
   exact⟨rfl,rfl,rfl,rfl,xGv _,fun _ _=>rfl⟩
  |cons x t=>
   rcases hR with hR|⟨b,o,rfl,hcell⟩
   ·cases hR
   have h0:=hcell 0 x rfl
   refine(Tryz.YU b o c (x::t) g w hcell ?_ hs.2 hc ?_).mono ?_
   ·exact World.block_lt_of_cell? w _ h0
   ·have:=hs.1
    unfold zNe at this
    simpa [ByteArray.size] using this
   ·rintro e w' ⟨rfl,hB⟩
    exact⟨rfl,hB.os,hB.tape,hB.output,hB.size,hB.block⟩
end Go.Proofs.YtfnacgojmdbjmaaGreatDoor
namespace Go.Proofs.YtfnacgojmdbjmaaGreatDoor
open Go.Det Go.RowKit  Go.Proofs.ZW
abbrev zl (l:List UInt8):Int:=(↑(ByteArray.size { data:={ toList:=l } }):Int)
abbrev zF:Value:=Value.tuple #[Value.int .u64 0,Value.bool false]
abbrev zu (a:UInt8):Int:=(↑(UInt8.toNat a):Int)
abbrev zd (a:UInt8):Int:=IntKind.wrap .u64 (IntKind.wrap .u8 (zu a - 48))
abbrev zn (n:Int)(a:UInt8):Int:=IntKind.wrap .u64 (IntKind.wrap .u64 (10 * n)+zd a)
abbrev zs (Q:Value→Prop)(m n:Int)(a:UInt8)(r:Prop):Prop:=zAd (zAf (zu a < 48)) (Q zF) (zAd (zAf (57 < zu a)) (Q zF) (((10:Int)≠0)∧zAd (zAf (IntKind.wrap .u64 (Int.tdiv m 10) < n)) (Q zF) (zAd (zAf (IntKind.wrap .u64 (m - if m < zd a then m else zd a) < IntKind.wrap .u64 (10 * n))) (Q zF) r)))
abbrev zh (Q:Value→Prop)(a:UInt8)(r:Int→Prop):Prop:=∃ x:Int,(yQ5 dig16 (orI .u8 (zu a) 32)=some x)∧zAd (zAf (x < 0)) (Q zF) (zAd (zAf (zu a < 48)) (Q zF) (((0:Int)≤4)∧r x))
abbrev zN (n:Nat)(l:List UInt8)(m:Int)(Q:Value→Prop):Prop:=zBj Tryz.prog (cwC []) ox0 n (zAa Tryz.f61) (zAg [.string ⟨⟨l⟩⟩,.int .u64 m] 8) (zAh [] 64) (zA2 Tryz.prog Tryz.f61 fun v _=>Q v)
abbrev zH (n:Nat)(l:List UInt8)(Q:Value→Prop):Prop:=zBj Tryz.prog (cwC [(125,conD92)]) ox0 n (zAa Tryz.f115) (zAg [.string ⟨⟨l⟩⟩] 8) (zAh [] 64) (zA2 Tryz.prog Tryz.f115 fun v _=>Q v)
theorem vh0 (Q:Value→Prop):zH 5 [] Q=(zAd (zAf ((zl []) < 1)) (Q zF) (zAd (zAf (4 < (zl []))) (Q zF) (zAd (zAf (0 < (zl []))) (((((0:Int)≤0)∧(0 < (zl [])))∧False)) (Q (Value.tuple #[Value.int .u64 0,Value.bool true]))))):=by kernel_rfl
theorem vh1 (a:UInt8)(Q:Value→Prop):zH 5 [a] Q=(zAd (zAf ((zl [a]) < 1)) (Q zF) (zAd (zAf (4 < (zl [a]))) (Q zF) (zAd (zAf (0 < (zl [a]))) (((((0:Int)≤0)∧(0 < (zl [a])))∧(zh Q a fun x0=>zAd (zAf (1 < (zl [a]))) (((((0:Int)≤1)∧(1 < (zl [a])))∧False)) (Q (Value.tuple #[Value.int .u64 (orI .u64 (zE2 .u64 0 4) (IntKind.wrap .u64 x0)),Value.bool true]))))) (Q (Value.tuple #[Value.int .u64 0,Value.bool true]))))):=by kernel_rfl
theorem vh2 (a b:UInt8)(Q:Value→Prop):zH 5 [a,b] Q=(zAd (zAf ((zl [a,b]) < 1)) (Q zF) (zAd (zAf (4 < (zl [a,b]))) (Q zF) (zAd (zAf (0 < (zl [a,b]))) (((((0:Int)≤0)∧(0 < (zl [a,b])))∧(zh Q a fun x0=>zAd (zAf (1 < (zl [a,b]))) (((((0:Int)≤1)∧(1 < (zl [a,b])))∧(zh Q b fun x1=>zAd (zAf (2 < (zl [a,b]))) (((((0:Int)≤2)∧(2 < (zl [a,b])))∧False)) (Q (Value.tuple #[Value.int .u64 (orI .u64 (zE2 .u64 (orI .u64 (zE2 .u64 0 4) (IntKind.wrap .u64 x0)) 4) (IntKind.wrap .u64 x1)),Value.bool true]))))) (Q (Value.tuple #[Value.int .u64 (orI .u64 (zE2 .u64 0 4) (IntKind.wrap .u64 x0)),Value.bool true]))))) (Q (Value.tuple #[Value.int .u64 0,Value.bool true]))))):=by kernel_rfl
theorem vh3 (a b c:UInt8)(Q:Value→Prop):zH 5 [a,b,c] Q=(zAd (zAf ((zl [a,b,c]) < 1)) (Q zF) (zAd (zAf (4 < (zl [a,b,c]))) (Q zF) (zAd (zAf (0 < (zl [a,b,c]))) (((((0:Int)≤0)∧(0 < (zl [a,b,c])))∧(zh Q a fun x0=>zAd (zAf (1 < (zl [a,b,c]))) (((((0:Int)≤1)∧(1 < (zl [a,b,c])))∧(zh Q b fun x1=>zAd (zAf (2 < (zl [a,b,c]))) (((((0:Int)≤2)∧(2 < (zl [a,b,c])))∧(zh Q c fun x2=>zAd (zAf (3 < (zl [a,b,c]))) (((((0:Int)≤3)∧(3 < (zl [a,b,c])))∧False)) (Q (Value.tuple #[Value.int .u64 (orI .u64 (zE2 .u64 (orI .u64 (zE2 .u64 (orI .u64 (zE2 .u64 0 4) (IntKind.wrap .u64 x0)) 4) (IntKind.wrap .u64 x1)) 4) (IntKind.wrap .u64 x2)),Value.bool true]))))) (Q (Value.tuple #[Value.int .u64 (orI .u64 (zE2 .u64 (orI .u64 (zE2 .u64 0 4) (IntKind.wrap .u64 x0)) 4) (IntKind.wrap .u64 x1)),Value.bool true]))))) (Q (Value.tuple #[Value.int .u64 (orI .u64 (zE2 .u64 0 4) (IntKind.wrap .u64 x0)),Value.bool true]))))) (Q (Value.tuple #[Value.int .u64 0,Value.bool true]))))):=by kernel_rfl
theorem vh4 (a b c d:UInt8)(Q:Value→Prop):zH 5 [a,b,c,d] Q=(zAd (zAf ((zl [a,b,c,d]) < 1)) (Q zF) (zAd (zAf (4 < (zl [a,b,c,d]))) (Q zF) (zAd (zAf (0 < (zl [a,b,c,d]))) (((((0:Int)≤0)∧(0 < (zl [a,b,c,d])))∧(zh Q a fun x0=>zAd (zAf (1 < (zl [a,b,c,d]))) (((((0:Int)≤1)∧(1 < (zl [a,b,c,d])))∧(zh Q b fun x1=>zAd (zAf (2 < (zl [a,b,c,d]))) (((((0:Int)≤2)∧(2 < (zl [a,b,c,d])))∧(zh Q c fun x2=>zAd (zAf (3 < (zl [a,b,c,d]))) (((((0:Int)≤3)∧(3 < (zl [a,b,c,d])))∧(zh Q d fun x3=>zAd (zAf (4 < (zl [a,b,c,d]))) (((((0:Int)≤4)∧(4 < (zl [a,b,c,d])))∧False)) (Q (Value.tuple #[Value.int .u64 (orI .u64 (zE2 .u64 (orI .u64 (zE2 .u64 (orI .u64 (zE2 .u64 (orI .u64 (zE2 .u64 0 4) (IntKind.wrap .u64 x0)) 4) (IntKind.wrap .u64 x1)) 4) (IntKind.wrap .u64 x2)) 4) (IntKind.wrap .u64 x3)),Value.bool true]))))) (Q (Value.tuple #[Value.int .u64 (orI .u64 (zE2 .u64 (orI .u64 (zE2 .u64 (orI .u64 (zE2 .u64 0 4) (IntKind.wrap .u64 x0)) 4) (IntKind.wrap .u64 x1)) 4) (IntKind.wrap .u64 x2)),Value.bool true]))))) (Q (Value.tuple #[Value.int .u64 (orI .u64 (zE2 .u64 (orI .u64 (zE2 .u64 0 4) (IntKind.wrap .u64 x0)) 4) (IntKind.wrap .u64 x1)),Value.bool true]))))) (Q (Value.tuple #[Value.int .u64 (orI .u64 (zE2 .u64 0 4) (IntKind.wrap .u64 x0)),Value.bool true]))))) (Q (Value.tuple #[Value.int .u64 0,Value.bool true]))))):=by kernel_rfl
theorem vh5 (a b c d e:UInt8)(t:List UInt8)(Q:Value→Prop):zH 0 (a::b::c::d::e::t) Q=(zAd (zAf ((zl (a::b::c::d::e::t)) < 1)) (Q zF) (zAd (zAf (4 < (zl (a::b::c::d::e::t)))) (Q zF) (False))):=by kernel_rfl
theorem vn0 (m:Int)(Q:Value→Prop):zN 1 [] m Q=(zAd (zAf (Array.toList (ByteArray.data { data:={ toList:=[] } })=Array.toList (ByteArray.data { data:=#[] }))) (Q zF) (((((0:Int)≤0)∧(0 < (↑(List.length (Array.toList (ByteArray.data { data:={ toList:=[] } }))):Int)))∧zAd (zAf ((↑(UInt8.toNat (List.getD (Array.toList (ByteArray.data { data:={ toList:=[] } })) (Int.toNat 0) 0)):Int)=48)) (zAd (zAf (1 < (zl []))) (Q zF) (zAd (zAf (0 < (zl []))) (((((0:Int)≤0)∧(0 < (zl [])))∧False)) (zAd (zAf (m < 0)) (Q zF) (Q (Value.tuple #[Value.int .u64 0,Value.bool true]))))) (zAd (zAf (0 < (zl []))) (((((0:Int)≤0)∧(0 < (zl [])))∧False)) (zAd (zAf (m < 0)) (Q zF) (Q (Value.tuple #[Value.int .u64 0,Value.bool true]))))))):=by kernel_rfl
theorem vn1 (a:UInt8)(m:Int)(Q:Value→Prop):zN 2 [a] m Q=(zAd (zAf (Array.toList (ByteArray.data { data:={ toList:=[a] } })=Array.toList (ByteArray.data { data:=#[] }))) (Q zF) (((((0:Int)≤0)∧(0 < (↑(List.length (Array.toList (ByteArray.data { data:={ toList:=[a] } }))):Int)))∧zAd (zAf ((↑(UInt8.toNat (List.getD (Array.toList (ByteArray.data { data:={ toList:=[a] } })) (Int.toNat 0) 0)):Int)=48)) (zAd (zAf (1 < (zl [a]))) (Q zF) (zAd (zAf (0 < (zl [a]))) (((((0:Int)≤0)∧(0 < (zl [a])))∧zs Q m 0 a (zAd (zAf (1 < (zl [a]))) (((((0:Int)≤1)∧(1 < (zl [a])))∧False)) (zAd (zAf (m < zn 0 a)) (Q zF) (Q (Value.tuple #[Value.int .u64 (zn 0 a),Value.bool true])))))) (zAd (zAf (m < 0)) (Q zF) (Q (Value.tuple #[Value.int .u64 0,Value.bool true]))))) (zAd (zAf (0 < (zl [a]))) (((((0:Int)≤0)∧(0 < (zl [a])))∧zs Q m 0 a (zAd (zAf (1 < (zl [a]))) (((((0:Int)≤1)∧(1 < (zl [a])))∧False)) (zAd (zAf (m < zn 0 a)) (Q zF) (Q (Value.tuple #[Value.int .u64 (zn 0 a),Value.bool true])))))) (zAd (zAf (m < 0)) (Q zF) (Q (Value.tuple #[Value.int .u64 0,Value.bool true]))))))):=by kernel_rfl
theorem vn2 (a b:UInt8)(m:Int)(Q:Value→Prop):zN 3 [a,b] m Q=(zAd (zAf (Array.toList (ByteArray.data { data:={ toList:=[a,b] } })=Array.toList (ByteArray.data { data:=#[] }))) (Q zF) (((((0:Int)≤0)∧(0 < (↑(List.length (Array.toList (ByteArray.data { data:={ toList:=[a,b] } }))):Int)))∧zAd (zAf ((↑(UInt8.toNat (List.getD (Array.toList (ByteArray.data { data:={ toList:=[a,b] } })) (Int.toNat 0) 0)):Int)=48)) (zAd (zAf (1 < (zl [a,b]))) (Q zF) (zAd (zAf (0 < (zl [a,b]))) (((((0:Int)≤0)∧(0 < (zl [a,b])))∧zs Q m 0 a (zAd (zAf (1 < (zl [a,b]))) (((((0:Int)≤1)∧(1 < (zl [a,b])))∧zs Q m (zn 0 a) b (zAd (zAf (2 < (zl [a,b]))) (((((0:Int)≤2)∧(2 < (zl [a,b])))∧False)) (zAd (zAf (m < zn (zn 0 a) b)) (Q zF) (Q (Value.tuple #[Value.int .u64 (zn (zn 0 a) b),Value.bool true])))))) (zAd (zAf (m < zn 0 a)) (Q zF) (Q (Value.tuple #[Value.int .u64 (zn 0 a),Value.bool true])))))) (zAd (zAf (m < 0)) (Q zF) (Q (Value.tuple #[Value.int .u64 0,Value.bool true]))))) (zAd (zAf (0 < (zl [a,b]))) (((((0:Int)≤0)∧(0 < (zl [a,b])))∧zs Q m 0 a (zAd (zAf (1 < (zl [a,b]))) (((((0:Int)≤1)∧(1 < (zl [a,b])))∧zs Q m (zn 0 a) b (zAd (zAf (2 < (zl [a,b]))) (((((0:Int)≤2)∧(2 < (zl [a,b])))∧False)) (zAd (zAf (m < zn (zn 0 a) b)) (Q zF) (Q (Value.tuple #[Value.int .u64 (zn (zn 0 a) b),Value.bool true])))))) (zAd (zAf (m < zn 0 a)) (Q zF) (Q (Value.tuple #[Value.int .u64 (zn 0 a),Value.bool true])))))) (zAd (zAf (m < 0)) (Q zF) (Q (Value.tuple #[Value.int .u64 0,Value.bool true]))))))):=by kernel_rfl
theorem vn3 (a b c:UInt8)(m:Int)(Q:Value→Prop):zN 4 [a,b,c] m Q=(zAd (zAf (Array.toList (ByteArray.data { data:={ toList:=[a,b,c] } })=Array.toList (ByteArray.data { data:=#[] }))) (Q zF) (((((0:Int)≤0)∧(0 < (↑(List.length (Array.toList (ByteArray.data { data:={ toList:=[a,b,c] } }))):Int)))∧zAd (zAf ((↑(UInt8.toNat (List.getD (Array.toList (ByteArray.data { data:={ toList:=[a,b,c] } })) (Int.toNat 0) 0)):Int)=48)) (zAd (zAf (1 < (zl [a,b,c]))) (Q zF) (zAd (zAf (0 < (zl [a,b,c]))) (((((0:Int)≤0)∧(0 < (zl [a,b,c])))∧zs Q m 0 a (zAd (zAf (1 < (zl [a,b,c]))) (((((0:Int)≤1)∧(1 < (zl [a,b,c])))∧zs Q m (zn 0 a) b (zAd (zAf (2 < (zl [a,b,c]))) (((((0:Int)≤2)∧(2 < (zl [a,b,c])))∧zs Q m (zn (zn 0 a) b) c (zAd (zAf (3 < (zl [a,b,c]))) (((((0:Int)≤3)∧(3 < (zl [a,b,c])))∧False)) (zAd (zAf (m < zn (zn (zn 0 a) b) c)) (Q zF) (Q (Value.tuple #[Value.int .u64 (zn (zn (zn 0 a) b) c),Value.bool true])))))) (zAd (zAf (m < zn (zn 0 a) b)) (Q zF) (Q (Value.tuple #[Value.int .u64 (zn (zn 0 a) b),Value.bool true])))))) (zAd (zAf (m < zn 0 a)) (Q zF) (Q (Value.tuple #[Value.int .u64 (zn 0 a),Value.bool true])))))) (zAd (zAf (m < 0)) (Q zF) (Q (Value.tuple #[Value.int .u64 0,Value.bool true]))))) (zAd (zAf (0 < (zl [a,b,c]))) (((((0:Int)≤0)∧(0 < (zl [a,b,c])))∧zs Q m 0 a (zAd (zAf (1 < (zl [a,b,c]))) (((((0:Int)≤1)∧(1 < (zl [a,b,c])))∧zs Q m (zn 0 a) b (zAd (zAf (2 < (zl [a,b,c]))) (((((0:Int)≤2)∧(2 < (zl [a,b,c])))∧zs Q m (zn (zn 0 a) b) c (zAd (zAf (3 < (zl [a,b,c]))) (((((0:Int)≤3)∧(3 < (zl [a,b,c])))∧False)) (zAd (zAf (m < zn (zn (zn 0 a) b) c)) (Q zF) (Q (Value.tuple #[Value.int .u64 (zn (zn (zn 0 a) b) c),Value.bool true])))))) (zAd (zAf (m < zn (zn 0 a) b)) (Q zF) (Q (Value.tuple #[Value.int .u64 (zn (zn 0 a) b),Value.bool true])))))) (zAd (zAf (m < zn 0 a)) (Q zF) (Q (Value.tuple #[Value.int .u64 (zn 0 a),Value.bool true])))))) (zAd (zAf (m < 0)) (Q zF) (Q (Value.tuple #[Value.int .u64 0,Value.bool true]))))))):=by kernel_rfl
theorem vn4 (a b c d:UInt8)(t:List UInt8)(m:Int)(Q:Value→Prop):zN 4 (a::b::c::d::t) m Q=(zAd (zAf (Array.toList (ByteArray.data { data:={ toList:=a::b::c::d::t } })=Array.toList (ByteArray.data { data:=#[] }))) (Q zF) (((((0:Int)≤0)∧(0 < (↑(List.length (Array.toList (ByteArray.data { data:={ toList:=a::b::c::d::t } }))):Int)))∧zAd (zAf ((↑(UInt8.toNat (List.getD (Array.toList (ByteArray.data { data:={ toList:=a::b::c::d::t } })) (Int.toNat 0) 0)):Int)=48)) (zAd (zAf (1 < (zl (a::b::c::d::t)))) (Q zF) (zAd (zAf (0 < (zl (a::b::c::d::t)))) (((((0:Int)≤0)∧(0 < (zl (a::b::c::d::t))))∧zs Q m 0 a (zAd (zAf (1 < (zl (a::b::c::d::t)))) (((((0:Int)≤1)∧(1 < (zl (a::b::c::d::t))))∧zs Q m (zn 0 a) b (zAd (zAf (2 < (zl (a::b::c::d::t)))) (((((0:Int)≤2)∧(2 < (zl (a::b::c::d::t))))∧zs Q m (zn (zn 0 a) b) c (zAd (zAf (3 < (zl (a::b::c::d::t)))) (((((0:Int)≤3)∧(3 < (zl (a::b::c::d::t))))∧zs Q m (zn (zn (zn 0 a) b) c) d (False))) (zAd (zAf (m < zn (zn (zn 0 a) b) c)) (Q zF) (Q (Value.tuple #[Value.int .u64 (zn (zn (zn 0 a) b) c),Value.bool true])))))) (zAd (zAf (m < zn (zn 0 a) b)) (Q zF) (Q (Value.tuple #[Value.int .u64 (zn (zn 0 a) b),Value.bool true])))))) (zAd (zAf (m < zn 0 a)) (Q zF) (Q (Value.tuple #[Value.int .u64 (zn 0 a),Value.bool true])))))) (zAd (zAf (m < 0)) (Q zF) (Q (Value.tuple #[Value.int .u64 0,Value.bool true]))))) (zAd (zAf (0 < (zl (a::b::c::d::t)))) (((((0:Int)≤0)∧(0 < (zl (a::b::c::d::t))))∧zs Q m 0 a (zAd (zAf (1 < (zl (a::b::c::d::t)))) (((((0:Int)≤1)∧(1 < (zl (a::b::c::d::t))))∧zs Q m (zn 0 a) b (zAd (zAf (2 < (zl (a::b::c::d::t)))) (((((0:Int)≤2)∧(2 < (zl (a::b::c::d::t))))∧zs Q m (zn (zn 0 a) b) c (zAd (zAf (3 < (zl (a::b::c::d::t)))) (((((0:Int)≤3)∧(3 < (zl (a::b::c::d::t))))∧zs Q m (zn (zn (zn 0 a) b) c) d (False))) (zAd (zAf (m < zn (zn (zn 0 a) b) c)) (Q zF) (Q (Value.tuple #[Value.int .u64 (zn (zn (zn 0 a) b) c),Value.bool true])))))) (zAd (zAf (m < zn (zn 0 a) b)) (Q zF) (Q (Value.tuple #[Value.int .u64 (zn (zn 0 a) b),Value.bool true])))))) (zAd (zAf (m < zn 0 a)) (Q zF) (Q (Value.tuple #[Value.int .u64 (zn 0 a),Value.bool true])))))) (zAd (zAf (m < 0)) (Q zF) (Q (Value.tuple #[Value.int .u64 0,Value.bool true]))))))):=by kernel_rfl
theorem yR9 (a b c0 c1 c2 c3 c4 c5 c6 c7:Int):zBj Tryz.prog (cwC []) ox0 5 (zAa Tryz.f91) (zAg [.agg #[.int .u64 a,.int .u64 b]] 8) (zAh [] 64) (zA2 Tryz.prog Tryz.f91 fun v s=>v=.slice (some ⟨65,0,none⟩) 8 8∧zPj s 65 [.int .u64 c0,.int .u64 c1,.int .u64 c2,.int .u64 c3,.int .u64 c4,.int .u64 c5,.int .u64 c6,.int .u64 c7] 47 false)=(zAd (zAf ((0:Int) < 4)) ((((0:Int)≤0)∧(((0:Int)≤0)∧((((0:Int)≤3)∧(3 < (↑(Int.toNat 8):Int)))∧((((0:Int)≤7)∧(7 < (↑(Int.toNat 8):Int)))∧zAd (zAf ((1:Int) < 4)) ((((0:Int)≤16)∧(((0:Int)≤16)∧((((0:Int)≤2)∧(2 < (↑(Int.toNat 8):Int)))∧((((0:Int)≤6)∧(6 < (↑(Int.toNat 8):Int)))∧zAd (zAf ((2:Int) < 4)) ((((0:Int)≤32)∧(((0:Int)≤32)∧((((0:Int)≤1)∧(1 < (↑(Int.toNat 8):Int)))∧((((0:Int)≤5)∧(5 < (↑(Int.toNat 8):Int)))∧zAd (zAf ((3:Int) < 4)) ((((0:Int)≤48)∧(((0:Int)≤48)∧((((0:Int)≤0)∧(0 < (↑(Int.toNat 8):Int)))∧((((0:Int)≤4)∧(4 < (↑(Int.toNat 8):Int)))∧zAd (zAf ((4:Int) < 4)) ((((0:Int)≤64)∧(((0:Int)≤64)∧(((0≤(-1))∧((-1) < (↑(Int.toNat 8):Int)))∧((((0:Int)≤3)∧(3 < (↑(Int.toNat 8):Int)))∧False))))) (((Value.slice (some { block:=65,off:=0 }) (Int.toNat 8) (Int.toNat 8)=Value.slice (some { block:=65,off:=0 }) 8 8)∧(((Value.int .u64 (andI .u64 (shrI .u64 a (48)) 65535)=Value.int .u64 c0)∧((Value.int .u64 (andI .u64 (shrI .u64 a (32)) 65535)=Value.int .u64 c1)∧((Value.int .u64 (andI .u64 (shrI .u64 a (16)) 65535)=Value.int .u64 c2)∧((Value.int .u64 (andI .u64 (shrI .u64 a (0)) 65535)=Value.int .u64 c3)∧((Value.int .u64 (andI .u64 (shrI .u64 b (48)) 65535)=Value.int .u64 c4)∧((Value.int .u64 (andI .u64 (shrI .u64 b (32)) 65535)=Value.int .u64 c5)∧((Value.int .u64 (andI .u64 (shrI .u64 b (16)) 65535)=Value.int .u64 c6)∧((Value.int .u64 (andI .u64 (shrI .u64 b (0)) 65535)=Value.int .u64 c7)∧True))))))))∧((2 * 23+1=47)∧(false=false)))))))))) (((Value.slice (some { block:=65,off:=0 }) (Int.toNat 8) (Int.toNat 8)=Value.slice (some { block:=65,off:=0 }) 8 8)∧(((Value.int .u64 0=Value.int .u64 c0)∧((Value.int .u64 (andI .u64 (shrI .u64 a (32)) 65535)=Value.int .u64 c1)∧((Value.int .u64 (andI .u64 (shrI .u64 a (16)) 65535)=Value.int .u64 c2)∧((Value.int .u64 (andI .u64 (shrI .u64 a (0)) 65535)=Value.int .u64 c3)∧((Value.int .u64 0=Value.int .u64 c4)∧((Value.int .u64 (andI .u64 (shrI .u64 b (32)) 65535)=Value.int .u64 c5)∧((Value.int .u64 (andI .u64 (shrI .u64 b (16)) 65535)=Value.int .u64 c6)∧((Value.int .u64 (andI .u64 (shrI .u64 b (0)) 65535)=Value.int .u64 c7)∧True))))))))∧((2 * 23+1=47)∧(false=false)))))))))) (((Value.slice (some { block:=65,off:=0 }) (Int.toNat 8) (Int.toNat 8)=Value.slice (some { block:=65,off:=0 }) 8 8)∧(((Value.int .u64 0=Value.int .u64 c0)∧((Value.int .u64 0=Value.int .u64 c1)∧((Value.int .u64 (andI .u64 (shrI .u64 a (16)) 65535)=Value.int .u64 c2)∧((Value.int .u64 (andI .u64 (shrI .u64 a (0)) 65535)=Value.int .u64 c3)∧((Value.int .u64 0=Value.int .u64 c4)∧((Value.int .u64 0=Value.int .u64 c5)∧((Value.int .u64 (andI .u64 (shrI .u64 b (16)) 65535)=Value.int .u64 c6)∧((Value.int .u64 (andI .u64 (shrI .u64 b (0)) 65535)=Value.int .u64 c7)∧True))))))))∧((2 * 23+1=47)∧(false=false)))))))))) (((Value.slice (some { block:=65,off:=0 }) (Int.toNat 8) (Int.toNat 8)=Value.slice (some { block:=65,off:=0 }) 8 8)∧(((Value.int .u64 0=Value.int .u64 c0)∧((Value.int .u64 0=Value.int .u64 c1)∧((Value.int .u64 0=Value.int .u64 c2)∧((Value.int .u64 (andI .u64 (shrI .u64 a (0)) 65535)=Value.int .u64 c3)∧((Value.int .u64 0=Value.int .u64 c4)∧((Value.int .u64 0=Value.int .u64 c5)∧((Value.int .u64 0=Value.int .u64 c6)∧((Value.int .u64 (andI .u64 (shrI .u64 b (0)) 65535)=Value.int .u64 c7)∧True))))))))∧((2 * 23+1=47)∧(false=false)))))))))) (((Value.slice (some { block:=65,off:=0 }) (Int.toNat 8) (Int.toNat 8)=Value.slice (some { block:=65,off:=0 }) 8 8)∧(((Value.int .u64 0=Value.int .u64 c0)∧((Value.int .u64 0=Value.int .u64 c1)∧((Value.int .u64 0=Value.int .u64 c2)∧((Value.int .u64 0=Value.int .u64 c3)∧((Value.int .u64 0=Value.int .u64 c4)∧((Value.int .u64 0=Value.int .u64 c5)∧((Value.int .u64 0=Value.int .u64 c6)∧((Value.int .u64 0=Value.int .u64 c7)∧True))))))))∧((2 * 23+1=47)∧(false=false)))))):=by kernel_rfl
end Go.Proofs.YtfnacgojmdbjmaaGreatDoor
namespace Go.Proofs.YtfnacgojmdbjmaaGreatDoor
open Go.Det Go.RowKit Go.Proofs.ZW
theorem zW7 {r:Option (Value×St)}{v:Value}(h:zZh r v=true):∃ s,r=some (v,s):=by
 unfold zZh at h
 split at h
 case h_2=>cases h
 rename_i x
 exact⟨x.2,by rw[← yJg h]⟩
theorem zNi {f:FuncId}{fn:Func}{c:Code}{args:List Value}{v:Value}{w:World}(hG:GoodW w)(hf:Tryz.prog.funcs[f]?=some fn)(hb:fn.body=some c)(hn:(fn.name== "runtime.NumGoroutine")=false)
  (h1:zCo args=true) (h2:flat v=true) (h3:v≠und) (e:∀ t0 t2 t5,∃ s,zJz Tryz.prog (zE9 zVf (zU3 zQ1)) 1000 60 f args (zAh (zNa t0 t2 t5) 64)=some (v,s)):
  Calls Tryz.prog f ⟨args⟩ w fun e w'=>e=.returned v∧Below w.heap.size w w':=by
 obtain⟨t0,t2,t5,L⟩:=hG.lay
 obtain⟨s,hx2⟩:=e t0 t2 t5
 refine(zWu (args:=args) zAl okA zW3 (zW4 (hG.len.later (xGv _) fun _ _=>rfl) 6) hf hb hn L.hr (zD4 6 w) (zDa h1 _) (fun id q=>zC6 6 w (by decide) id q) (fun id q=>L.top id (xHf (by decide) q)) hx2).mono ?_
 rintro e W' ⟨v',φ',rfl,_,hv,H'⟩
 rw[zI6 h2 hv h3]
 exact⟨rfl,H'.os,H'.tape,H'.output,H'.size,fun j hj=>H'.old j hj⟩
def yZ9:Tbl:=(List.range 256).map fun(n:Nat)=>([.int .u64 (n:Int)],.string ⟨⟨Txt.decT n⟩⟩)
theorem yHr (t0 t2 t5:TypeId):yG5 (fun args=>zJz Tryz.prog (zE9 zVf (zU3 zQ1)) 1000 60 71 args (zAh (zNa t0 t2 t5) 64)) yZ9=true:=by kernel_rfl
def zNj (n:Int):Option ByteArray:=if 0≤n∧n < 256 then some ⟨⟨Txt.decT n.toNat⟩⟩ else none
theorem ySa {n:Int}{r:ByteArray}{w:World}(hG:GoodW w)(h:zNj n=some r):Calls Tryz.prog 71 #[.int .u64 n] w fun e w'=>e=.returned (.string r)∧Below w.heap.size w w':=by
 unfold zNj at h
 split at h
 case isFalse=>cases h
 rename_i hn
 cases h
 obtain⟨k,rfl⟩:=xH8 hn.1
 have hk:k < 256:=by omega
 refine zNi (fn:=Tryz.f71) (c:=zAa Tryz.f71) (args:=[.int .u64 (k:Int)]) hG Tryz.func71 (by kernel_rfl) (by kernel_rfl) rfl rfl (by intro h;cases h) fun t0 t2 t5=>?_
 obtain⟨_,_,s,hs⟩:=zTi (yHr t0 t2 t5) ([.int .u64 (k:Int)],.string ⟨⟨Txt.decT k⟩⟩) (xJb.2 ⟨k,List.mem_range.2 hk,rfl⟩)
 exact⟨s,hs⟩
def zFk:ByteArray:={ data:=#[48,49,50,51,52,53,54,55,56,57,97,98,99,100,101,102,103,104,105,106,107,108,109,110,111,112,113,114,115,116,117,118,119,120,121,122] }
theorem yNh:(List.length (Array.toList (ByteArray.data zFk)))=36:=rfl
def d16:List Value→Option Unit
 |[.int .i64 n]=>match Int.decEq n 16 with|Decidable.isTrue _=>some ()|Decidable.isFalse _=>none
 |_=>none
def yVu:List Value→Option Unit
 |[.int .u64 n]=>match Int.decEq n 16 with|Decidable.isTrue _=>some ()|Decidable.isFalse _=>none
 |_=>none
theorem yNi {args:List Value}{a:Unit}(h:d16 args=some a):args=[.int .i64 16]:=by
 unfold d16 at h
 split at h
 case h_2=>cases h
 split at h
 ·rename_i hn _;rw[hn]
 ·cases h
theorem yHs {args:List Value}{a:Unit}(h:yVu args=some a):args=[.int .u64 16]:=by
 unfold yVu at h
 split at h
 case h_2=>cases h
 split at h
 ·rename_i hn _;rw[hn]
 ·cases h
def conD109:Con:=Con.flat d16 (fun _=>true) fun _=>.bool true
def conD110:Con:=Con.flat yVu (fun _=>true) fun _=>.int .i64 4
theorem ySb (t0 t2 t5:TypeId):zZh (zJz Tryz.prog (zE9 zVf (zU3 zQ1)) 1000 60 133 [.int .i64 16] (zAh (zNa t0 t2 t5) 64)) (.bool true)=true:=by kernel_rfl
theorem ySc (t0 t2 t5:TypeId):zZh (zJz Tryz.prog (zE9 zVf (zU3 zQ1)) 1000 60 134 [.int .u64 16] (zAh (zNa t0 t2 t5) 64)) (.int .i64 4)=true:=by kernel_rfl
theorem ySd {W:World}(hW:GoodW W):zAk Tryz.prog W 6 133 conD109.own:=by
 refine zA6 (fn:=Tryz.f133) (c:=zAa Tryz.f133) hW Tryz.func133 (by kernel_rfl) (by kernel_rfl) fun args v h=>?_
 split at h
 case h_2=>cases h
 rename_i a ha
 cases h
 obtain rfl:=yNi ha
 exact⟨rfl,rfl,fun w hG=>zNi (fn:=Tryz.f133) (c:=zAa Tryz.f133) hG Tryz.func133 (by kernel_rfl) (by kernel_rfl) rfl rfl (by intro h;cases h) fun t0 t2 t5=>zW7 (ySb t0 t2 t5)⟩
theorem ySe {W:World}(hW:GoodW W):zAk Tryz.prog W 6 134 conD110.own:=by
 refine zA6 (fn:=Tryz.f134) (c:=zAa Tryz.f134) hW Tryz.func134 (by kernel_rfl) (by kernel_rfl) fun args v h=>?_
 split at h
 case h_2=>cases h
 rename_i a ha
 cases h
 obtain rfl:=yHs ha
 exact⟨rfl,rfl,fun w hG=>zNi (fn:=Tryz.f134) (c:=zAa Tryz.f134) hG Tryz.func134 (by kernel_rfl) (by kernel_rfl) rfl rfl (by intro h;cases h) fun t0 t2 t5=>zW7 (ySc t0 t2 t5)⟩
end Go.Proofs.YtfnacgojmdbjmaaGreatDoor
namespace Go.Proofs.YtfnacgojmdbjmaaGreatDoor
open Go.Det Go.RowKit  Go.Proofs.ZW
theorem xAa (u:Int)(Q:Value→Prop):zBj Tryz.prog (cwC [(133,conD109),(134,conD110)]) (oxE []) 4 (zAa Tryz.f122) (zAg [.slice none 0 0,.int .u64 u,.int .i64 16,.bool false,.bool false] 8) (zAh [] 64) (zA2 Tryz.prog Tryz.f122 fun v _=>Q v)=(zAd (zAf ((16:Int) < 2)) (False) (zAd (zAf ((16:Int)=10)) (False) (zAd (zAf ((36:Int) < 16)) (False) (((true=true)∧((true=true)∧zAd (zAf (IntKind.wrap .u64 16≤u)) ((((0≤andI .u64 u (IntKind.wrap .u64 (IntKind.wrap .u64 16 - 1)))∧(andI .u64 u (IntKind.wrap .u64 (IntKind.wrap .u64 16 - 1)) < (↑(List.length (Array.toList (ByteArray.data zFk))):Int)))∧((((0:Int)≤64)∧(64 < (↑65:Int)))∧((0≤IntKind.wrap .u64 4)∧zAd (zAf (IntKind.wrap .u64 16≤shrI .u64 u (IntKind.wrap .u64 4))) ((((0≤andI .u64 (shrI .u64 u (IntKind.wrap .u64 4)) (IntKind.wrap .u64 (IntKind.wrap .u64 16 - 1)))∧(andI .u64 (shrI .u64 u (IntKind.wrap .u64 4)) (IntKind.wrap .u64 (IntKind.wrap .u64 16 - 1)) < (↑(List.length (Array.toList (ByteArray.data zFk))):Int)))∧((((0:Int)≤63)∧(63 < (↑65:Int)))∧((0≤IntKind.wrap .u64 4)∧zAd (zAf (IntKind.wrap .u64 16≤shrI .u64 (shrI .u64 u (IntKind.wrap .u64 4)) (IntKind.wrap .u64 4))) ((((0≤andI .u64 (shrI .u64 (shrI .u64 u (IntKind.wrap .u64 4)) (IntKind.wrap .u64 4)) (IntKind.wrap .u64 (IntKind.wrap .u64 16 - 1)))∧(andI .u64 (shrI .u64 (shrI .u64 u (IntKind.wrap .u64 4)) (IntKind.wrap .u64 4)) (IntKind.wrap .u64 (IntKind.wrap .u64 16 - 1)) < (↑(List.length (Array.toList (ByteArray.data zFk))):Int)))∧((((0:Int)≤62)∧(62 < (↑65:Int)))∧((0≤IntKind.wrap .u64 4)∧zAd (zAf (IntKind.wrap .u64 16≤shrI .u64 (shrI .u64 (shrI .u64 u (IntKind.wrap .u64 4)) (IntKind.wrap .u64 4)) (IntKind.wrap .u64 4))) ((((0≤andI .u64 (shrI .u64 (shrI .u64 (shrI .u64 u (IntKind.wrap .u64 4)) (IntKind.wrap .u64 4)) (IntKind.wrap .u64 4)) (IntKind.wrap .u64 (IntKind.wrap .u64 16 - 1)))∧(andI .u64 (shrI .u64 (shrI .u64 (shrI .u64 u (IntKind.wrap .u64 4)) (IntKind.wrap .u64 4)) (IntKind.wrap .u64 4)) (IntKind.wrap .u64 (IntKind.wrap .u64 16 - 1)) < (↑(List.length (Array.toList (ByteArray.data zFk))):Int)))∧((((0:Int)≤61)∧(61 < (↑65:Int)))∧((0≤IntKind.wrap .u64 4)∧False)))) ((((0≤shrI .u64 (shrI .u64 (shrI .u64 u (IntKind.wrap .u64 4)) (IntKind.wrap .u64 4)) (IntKind.wrap .u64 4))∧(shrI .u64 (shrI .u64 (shrI .u64 u (IntKind.wrap .u64 4)) (IntKind.wrap .u64 4)) (IntKind.wrap .u64 4) < (↑(List.length (Array.toList (ByteArray.data zFk))):Int)))∧((((0:Int)≤61)∧(61 < (↑65:Int)))∧Q (Value.tuple #[Value.slice none 0 0,Value.string { data:=#[UInt8.ofNat (Int.toNat (↑(UInt8.toNat (List.getD (Array.toList (ByteArray.data zFk)) (Int.toNat (shrI .u64 (shrI .u64 (shrI .u64 u (IntKind.wrap .u64 4)) (IntKind.wrap .u64 4)) (IntKind.wrap .u64 4))) 0)):Int)),UInt8.ofNat (Int.toNat (↑(UInt8.toNat (List.getD (Array.toList (ByteArray.data zFk)) (Int.toNat (andI .u64 (shrI .u64 (shrI .u64 u (IntKind.wrap .u64 4)) (IntKind.wrap .u64 4)) (IntKind.wrap .u64 (IntKind.wrap .u64 16 - 1)))) 0)):Int)),UInt8.ofNat (Int.toNat (↑(UInt8.toNat (List.getD (Array.toList (ByteArray.data zFk)) (Int.toNat (andI .u64 (shrI .u64 u (IntKind.wrap .u64 4)) (IntKind.wrap .u64 (IntKind.wrap .u64 16 - 1)))) 0)):Int)),UInt8.ofNat (Int.toNat (↑(UInt8.toNat (List.getD (Array.toList (ByteArray.data zFk)) (Int.toNat (andI .u64 u (IntKind.wrap .u64 (IntKind.wrap .u64 16 - 1)))) 0)):Int))] }])))))))) ((((0≤shrI .u64 (shrI .u64 u (IntKind.wrap .u64 4)) (IntKind.wrap .u64 4))∧(shrI .u64 (shrI .u64 u (IntKind.wrap .u64 4)) (IntKind.wrap .u64 4) < (↑(List.length (Array.toList (ByteArray.data zFk))):Int)))∧((((0:Int)≤62)∧(62 < (↑65:Int)))∧Q (Value.tuple #[Value.slice none 0 0,Value.string { data:=#[UInt8.ofNat (Int.toNat (↑(UInt8.toNat (List.getD (Array.toList (ByteArray.data zFk)) (Int.toNat (shrI .u64 (shrI .u64 u (IntKind.wrap .u64 4)) (IntKind.wrap .u64 4))) 0)):Int)),UInt8.ofNat (Int.toNat (↑(UInt8.toNat (List.getD (Array.toList (ByteArray.data zFk)) (Int.toNat (andI .u64 (shrI .u64 u (IntKind.wrap .u64 4)) (IntKind.wrap .u64 (IntKind.wrap .u64 16 - 1)))) 0)):Int)),UInt8.ofNat (Int.toNat (↑(UInt8.toNat (List.getD (Array.toList (ByteArray.data zFk)) (Int.toNat (andI .u64 u (IntKind.wrap .u64 (IntKind.wrap .u64 16 - 1)))) 0)):Int))] }])))))))) ((((0≤shrI .u64 u (IntKind.wrap .u64 4))∧(shrI .u64 u (IntKind.wrap .u64 4) < (↑(List.length (Array.toList (ByteArray.data zFk))):Int)))∧((((0:Int)≤63)∧(63 < (↑65:Int)))∧Q (Value.tuple #[Value.slice none 0 0,Value.string { data:=#[UInt8.ofNat (Int.toNat (↑(UInt8.toNat (List.getD (Array.toList (ByteArray.data zFk)) (Int.toNat (shrI .u64 u (IntKind.wrap .u64 4))) 0)):Int)),UInt8.ofNat (Int.toNat (↑(UInt8.toNat (List.getD (Array.toList (ByteArray.data zFk)) (Int.toNat (andI .u64 u (IntKind.wrap .u64 (IntKind.wrap .u64 16 - 1)))) 0)):Int))] }])))))))) ((((0≤u)∧(u < (↑(List.length (Array.toList (ByteArray.data zFk))):Int)))∧((((0:Int)≤64)∧(64 < (↑65:Int)))∧Q (Value.tuple #[Value.slice none 0 0,Value.string { data:=#[UInt8.ofNat (Int.toNat (↑(UInt8.toNat (List.getD (Array.toList (ByteArray.data zFk)) (Int.toNat u) 0)):Int))] }])))))))))):=by kernel_rfl
end Go.Proofs.YtfnacgojmdbjmaaGreatDoor
namespace Go.Det
theorem zVo {k:Nat}(s:Nat)(hs:s≤64):shrI .u64 (k:Int) (s:Int)=((k / 2 ^ s:Nat):Int):=by
 unfold shrI
 show Int.fdiv (k:Int) (2 ^ (min (Int.toNat (s:Int)) 64))=_
 rw[xG7,Nat.min_eq_left hs,Int.fdiv_eq_ediv_of_nonneg _ (Int.le_of_lt (Int.pow_pos (by decide)))]
 push_cast
 rfl
theorem wrapU {x:Int}(h:0≤x∧x < 18446744073709551616):IntKind.u64.wrap x=x:=by
 obtain⟨n,rfl⟩:=xH8 h.1
 exact wrap_u64 (by unfold M64;omega)
theorem zIj {k:Nat}(hk:k < 18446744073709551616)(j:Nat)(hj:j≤32):andI .u64 (k:Int) ((2 ^ j - 1:Nat):Int)=((k % 2 ^ j:Nat):Int):=by
 have hp:2 ^ j≤2 ^ 32:=xI8 (by decide) hj
 have hp':2 ^ j≤4294967296:=hp
 rw[yHb (inU_iff.2 ⟨by omega,by omega⟩) (inU_iff.2 ⟨by omega,by omega⟩),xG7,xG7,xIo]
theorem zQ8 {a b:Nat}(s:Nat)(hb:b < 2 ^ s)(h:a * 2 ^ s+b < 18446744073709551616):orI .u64 ((a * 2 ^ s:Nat):Int) (b:Int)=((a * 2 ^ s+b:Nat):Int):=by
 have e:a * 2 ^ s ||| b=a * 2 ^ s+b:=by rw[← Nat.shiftLeft_eq,← Nat.shiftLeft_add_eq_or_of_lt hb]
 obtain⟨c,hc⟩:∃ c,c=a * 2 ^ s:=⟨_,rfl⟩
 rw[← hc] at h e ⊢
 rw[yK3 (inU_iff.2 ⟨by omega,by omega⟩) (inU_iff.2 ⟨by omega,by omega⟩),xG7,xG7,e]
theorem yC8 {k:Nat}(s:Nat)(hs:s≤64)(h:k * 2 ^ s < 18446744073709551616):zE2 .u64 (k:Int) (s:Int)=((k * 2 ^ s:Nat):Int):=by
 unfold zE2
 show IntKind.u64.wrap ((k:Int) * 2 ^ (min (Int.toNat (s:Int)) 64))=_
 rw[xG7,Nat.min_eq_left hs]
 have e:((k:Int) * 2 ^ s)=((k * 2 ^ s:Nat):Int):=by push_cast;rfl
 rw[e]
 exact wrap_u64 h
end Go.Det
namespace Go.Proofs.YtfnacgojmdbjmaaGreatDoor
open Go.Det Go.RowKit Go.Proofs.ZW
theorem xAb:IntKind.wrap .u64 16=16:=by decide
theorem hw4:IntKind.wrap .u64 4=4:=by decide
theorem xAc:IntKind.wrap .u64 (16 - 1)=15:=by decide
theorem xAd:IntKind.wrap .i64 (65 - 1)=64:=by decide
theorem xAe:IntKind.wrap .i64 (64 - 1)=63:=by decide
theorem xAf:IntKind.wrap .i64 (63 - 1)=62:=by decide
theorem xAg:IntKind.wrap .i64 (62 - 1)=61:=by decide
theorem xAh (k:Nat):shrI .u64 (k:Int) 4=((k / 16:Nat):Int):=zVo 4 (by decide)
theorem yHt {k:Nat}(h:k < 65536):andI .u64 (k:Int) 15=((k % 16:Nat):Int):=zIj (by omega) 4 (by decide)
theorem yNj:∀ m:Fin 16,UInt8.ofNat (Int.toNat (↑(UInt8.toNat (List.getD (Array.toList (ByteArray.data zFk)) m.val 0)):Int))=Txt.dg m.val:=by decide +kernel
theorem zH4 {m:Nat}(h:m < 16):UInt8.ofNat (Int.toNat (↑(UInt8.toNat (List.getD (Array.toList (ByteArray.data zFk)) (Int.toNat ((m:Nat):Int)) 0)):Int))=Txt.dg m:=yNj ⟨m,h⟩
theorem xAi (k:Nat)(hk:k < 65536):zBj Tryz.prog (cwC [(133,conD109),(134,conD110)]) (oxE []) 4 (zAa Tryz.f122) (zAg [.slice none 0 0,.int .u64 (k:Int),.int .i64 16,.bool false,.bool false] 8) (zAh [] 64) (zA2 Tryz.prog Tryz.f122 fun v _=>v=.tuple #[.slice none 0 0,.string ⟨⟨Txt.hexT k⟩⟩]):=by
 refine(xAa (k:Int) _).mpr ?_
 have a0:=yHt hk
 have a1:=yHt (k:=k / 16) (by omega)
 have a2:=yHt (k:=k / 16 / 16) (by omega)
 have a3:=yHt (k:=k / 16 / 16 / 16) (by omega)
 simp only[xAb,hw4,xAc,xAd,xAe,xAf,xAg,xAh,a0,a1,a2,a3,yNh]
 refine zBh (by decide) (zBh (by decide) (zBh (by decide) ⟨trivial,trivial,?_⟩))
 have e1:k / 16 / 16=k / 256:=by omega
 have e2:k / 16 / 16 / 16=k / 4096:=by omega
 refine bifW_c (fun h1=>⟨⟨by omega,by omega⟩,⟨by decide,by decide⟩,by decide,?_⟩) (fun h1=>⟨⟨by omega,by omega⟩,⟨by decide,by decide⟩,?_⟩)
 ·refine bifW_c (fun h2=>⟨⟨by omega,by omega⟩,⟨by decide,by decide⟩,by decide,?_⟩) (fun h2=>⟨⟨by omega,by omega⟩,⟨by decide,by decide⟩,?_⟩)
  ·refine bifW_c (fun h3=>⟨⟨by omega,by omega⟩,⟨by decide,by decide⟩,by decide,?_⟩) (fun h3=>⟨⟨by omega,by omega⟩,⟨by decide,by decide⟩,?_⟩)
   ·refine zBh (by omega) ⟨⟨by omega,by omega⟩,⟨by decide,by decide⟩,?_⟩
    rw[zH4 (m:=k / 16 / 16 / 16) (by omega),zH4 (m:=k / 16 / 16 % 16) (by omega),zH4 (m:=k / 16 % 16) (by omega),zH4 (m:=k % 16) (by omega),e2,e1]
    unfold Txt.hexT
    rw[xGr (by omega),xGr (by omega),xGr (by omega)]
   ·rw[zH4 (m:=k / 16 / 16) (by omega),zH4 (m:=k / 16 % 16) (by omega),zH4 (m:=k % 16) (by omega),e1]
    unfold Txt.hexT
    rw[xGr (by omega),xGr (by omega),xGq (by omega)]
  ·rw[zH4 (m:=k / 16) (by omega),zH4 (m:=k % 16) (by omega)]
   unfold Txt.hexT
   rw[xGr (by omega),xGq (by omega)]
 ·rw[zH4 (m:=k) (by omega)]
  unfold Txt.hexT
  rw[xGq (by omega)]
def yC9 (n b:Int):Option ByteArray:=if b=16∧(0≤n∧n < 65536) then some ⟨⟨Txt.hexT n.toNat⟩⟩ else none
def d98:List Value→Option Int
 |[.slice none 0 0,.int .u64 u,.int .i64 b,.bool false,.bool false]=>match Int.decEq b 16 with|Decidable.isTrue _=>some u|Decidable.isFalse _=>none
 |_=>none
def e98 (u:Int):List Value:=[.slice none 0 0,.int .u64 u,.int .i64 16,.bool false,.bool false]
theorem yNk {args:List Value}{a:Int}(h:d98 args=some a):args=e98 a:=by
 unfold d98 at h
 split at h
 case h_2=>cases h
 split at h
 ·rename_i hn _;cases h;unfold e98;rw[hn]
 ·cases h
def conD98:Con:=Con.opt d98 (fun u=>yC9 u 16) fun y=>.tuple #[.slice none 0 0,.string y]
theorem yVv {W:World}(hW:GoodW W):zAk Tryz.prog W 6 122 conD98.own:=
 zA0 e98 (Laying.empty hW.size) hW.size (by decide) zAl (OwnsAll.con (ySd hW) (OwnsAll.con (ySe hW) (zAb W 6))) Tryz.func122 (fn:=Tryz.f122) (c:=zAa Tryz.f122) (by kernel_rfl) (by kernel_rfl) (fun _ _ h=>yNk h) (fun a=>⟨rfl,(by kernel_rfl)⟩) (fun b=>rfl) fun a b h=>by
  unfold yC9 at h
  split at h
  case isFalse=>cases h
  rename_i hn
  cases h
  obtain⟨k,rfl⟩:=xH8 hn.2.1
  exact zAs (zAp _) (zEc _) (by kernel_rfl) (xAi k (by omega))
def d85:List Value→Option Int
 |[.int .u64 u,.int .i64 b]=>match Int.decEq b 16 with|Decidable.isTrue _=>some u|Decidable.isFalse _=>none
 |_=>none
def e85 (u:Int):List Value:=[.int .u64 u,.int .i64 16]
theorem yDa {args:List Value}{a:Int}(h:d85 args=some a):args=e85 a:=by
 unfold d85 at h
 split at h
 case h_2=>cases h
 split at h
 ·rename_i hn _;cases h;unfold e85;rw[hn]
 ·cases h
def conD85:Con:=Con.opt d85 (fun u=>yC9 u 16) fun y=>.string y
theorem xAj (u:Int)(Q:Value→Prop):zBj Tryz.prog (cwC [(122,conD98)]) (oxE [10]) 1 (zAa Tryz.f108) (zAg [.int .u64 u,.int .i64 16] 8) (zAh [] 64) (zA2 Tryz.prog Tryz.f108 fun v _=>Q v)=(true=true∧∃ y:ByteArray,yC9 u 16=some y∧Q (.string y)):=by kernel_rfl
theorem yVw {W:World}(hW:GoodW W):zAk Tryz.prog W 6 108 conD85.own:=
 zA0 e85 (Laying.empty hW.size) hW.size (by decide) zAl (OwnsAll.con (yVv hW) (zAb W 6)) Tryz.func108 (fn:=Tryz.f108) (c:=zAa Tryz.f108) (by kernel_rfl) (by kernel_rfl) (fun _ _ h=>yDa h) (fun a=>⟨rfl,(by kernel_rfl)⟩) (fun b=>rfl) fun a b h=>
  zAs (zAp _) (zEc _) (n:=1) (by kernel_rfl) ((xAj a _).mpr ⟨rfl,b,h,rfl⟩)
def conD77:Con:=Con.opt d85 (fun u=>yC9 u 16) fun y=>.string y
theorem xAk (u:Int)(Q:Value→Prop):zBj Tryz.prog (cwC [(108,conD85)]) (oxE []) 1 (zAa Tryz.f94) (zAg [.int .u64 u,.int .i64 16] 8) (zAh [] 64) (zA2 Tryz.prog Tryz.f94 fun v _=>Q v)=(∃ y:ByteArray,yC9 u 16=some y∧Q (.string y)):=by kernel_rfl
theorem yVx {W:World}(hW:GoodW W):zAk Tryz.prog W 6 94 conD77.own:=
 zA0 e85 (Laying.empty hW.size) hW.size (by decide) zAl (OwnsAll.con (yVw hW) (zAb W 6)) Tryz.func94 (fn:=Tryz.f94) (c:=zAa Tryz.f94) (by kernel_rfl) (by kernel_rfl) (fun _ _ h=>yDa h) (fun a=>⟨rfl,(by kernel_rfl)⟩) (fun b=>rfl) fun a b h=>
  zAs (zAp _) (zEc _) (n:=1) (by kernel_rfl) ((xAk a _).mpr ⟨b,h,rfl⟩)
theorem ySf {n b:Int}{r:ByteArray}{w:World}(hG:GoodW w)(h:yC9 n b=some r):Calls Tryz.prog 94 #[.int .u64 n,.int .i64 b] w fun e w'=>e=.returned (.string r)∧Below w.heap.size w w':=by
 have hb:b=16:=by
  unfold yC9 at h
  split at h
  ·rename_i q;exact q.1
  ·cases h
 subst hb
 exact zD6 (fn:=Tryz.f94) (c:=zAa Tryz.f94) (yVx hG) hG Tryz.func94 (by kernel_rfl) (by kernel_rfl) (args:=e85 n) (v:=.string r) (zQy (dec:=d85) (f:=fun u=>yC9 u 16) (enc:=fun y=>.string y) (a:=n) (b:=r) rfl h _) rfl rfl (by intro h;cases h)
def zNk:Int→List UInt8→Option (Int×Bool)
 |n,[]=>some (n,true)
 |n,c::t=>(yQ5 dig16 (orI .u8 (c.toNat:Int) 32)).bind fun x=>if x < 0 then some (0,false) else if(c.toNat:Int) < 48 then some (0,false) else zNk (orI .u64 (zE2 .u64 n 4) (IntKind.wrap .u64 x)) t
def zQ9 (s:ByteArray):Option (Int×Bool):=if s.data.toList.length < 1∨4 < s.data.toList.length then some (0,false) else zNk 0 s.data.toList
theorem zFl (l:List UInt8):ByteArray.size { data:={ toList:=l } }=l.length:=rfl
theorem yFy (l:List UInt8):Array.toList (ByteArray.data { data:={ toList:=l } })=l:=rfl
theorem bcT {A B:Prop}:zAd (zAf True) A B=A:=by rw[zBy.2 trivial];rfl
theorem bcF {A B:Prop}:zAd (zAf False) A B=B:=by rw[zCm.2 id];rfl
theorem wi0:IntKind.wrap .i64 0=0:=by decide
theorem wi5:IntKind.wrap .i64 5=5:=by decide
theorem wi6:IntKind.wrap .i64 6=6:=by decide
theorem wi7:IntKind.wrap .i64 7=7:=by decide
theorem xAl:IntKind.wrap .i64 16=16:=by decide
theorem xAm:IntKind.wrap .i64 32=32:=by decide
theorem xAn:IntKind.wrap .i64 48=48:=by decide
theorem wi1:IntKind.wrap .i64 1=1:=by decide
theorem wi2:IntKind.wrap .i64 2=2:=by decide
theorem wi3:IntKind.wrap .i64 3=3:=by decide
theorem wi4:IntKind.wrap .i64 4=4:=by decide
def zZp:List Value→Option ByteArray
 |[.string s]=>some s
 |_=>none
theorem zGn {args:List Value}{a:ByteArray}(h:zZp args=some a):args=[.string a]:=by
 unfold zZp at h
 split at h
 case h_2=>cases h
 cases h;rfl
def zW8 (y:Int×Bool):Value:=.tuple #[.int .u64 y.1,.bool y.2]
theorem xAo (s:ByteArray)(y:Int×Bool)(hx:zQ9 s=some y):zAo Tryz.prog (cwC [(125,conD92)]) (zAa Tryz.f115) (zAg [.string s] 8) (zAh [] 64) (zA2 Tryz.prog Tryz.f115 fun v' _=>v'=zW8 y):=by
 obtain⟨⟨l⟩⟩:=s
 unfold zQ9 at hx
 rw[yFy] at hx
 match l,hx with
 |[],hx=>
  refine zAs (zAp _) zFd (by kernel_rfl) ((vh0 _).mpr ?_)
  simp only[zl,zF,zu,zd,zn,zs,zh]
  rw[xGq (by simp)] at hx
  cases hx
  simp only[zFl,xHa,xIp]
  exact zW0 (by decide) rfl
 |[a],hx=>
  refine zAs (zAp _) zFd (by kernel_rfl) ((vh1 a _).mpr ?_)
  simp only[zl,zF,zu,zd,zn,zs,zh]
  rw[xGr (by simp)] at hx
  simp only[zNk] at hx
  simp only[zFl,xG4,xHa,Nat.reduceAdd,Int.reduceAdd,wi1,wi2,wi3,wi4,xIp,Int.reduceLT,Int.reduceLE,bcT,bcF,true_and,and_true,and_false,false_and]
  repeat' first
   |(obtain⟨y,hy,hx⟩:=xGs.1 hx;refine⟨y,hy,?_⟩)
   |((refine bifW_c (fun hc=>?_) (fun hc=>?_))<;>first|rw[xGq hc] at hx|rw[xGr hc] at hx)
   |(cases hx;rfl)
 |[a,b],hx=>
  refine zAs (zAp _) zFd (by kernel_rfl) ((vh2 a b _).mpr ?_)
  simp only[zl,zF,zu,zd,zn,zs,zh]
  rw[xGr (by simp)] at hx
  simp only[zNk] at hx
  simp only[zFl,xG4,xHa,Nat.reduceAdd,Int.reduceAdd,wi1,wi2,wi3,wi4,xIp,Int.reduceLT,Int.reduceLE,bcT,bcF,true_and,and_true,and_false,false_and]
  repeat' first
   |(obtain⟨y,hy,hx⟩:=xGs.1 hx;refine⟨y,hy,?_⟩)
   |((refine bifW_c (fun hc=>?_) (fun hc=>?_))<;>first|rw[xGq hc] at hx|rw[xGr hc] at hx)
   |(cases hx;rfl)
 |[a,b,c],hx=>
  refine zAs (zAp _) zFd (by kernel_rfl) ((vh3 a b c _).mpr ?_)
  simp only[zl,zF,zu,zd,zn,zs,zh]
  rw[xGr (by simp)] at hx
  simp only[zNk] at hx
  simp only[zFl,xG4,xHa,Nat.reduceAdd,Int.reduceAdd,wi1,wi2,wi3,wi4,xIp,Int.reduceLT,Int.reduceLE,bcT,bcF,true_and,and_true,and_false,false_and]
  repeat' first
   |(obtain⟨y,hy,hx⟩:=xGs.1 hx;refine⟨y,hy,?_⟩)
   |((refine bifW_c (fun hc=>?_) (fun hc=>?_))<;>first|rw[xGq hc] at hx|rw[xGr hc] at hx)
   |(cases hx;rfl)
 |[a,b,c,d],hx=>
  refine zAs (zAp _) zFd (by kernel_rfl) ((vh4 a b c d _).mpr ?_)
  simp only[zl,zF,zu,zd,zn,zs,zh]
  rw[xGr (by simp)] at hx
  simp only[zNk] at hx
  simp only[zFl,xG4,xHa,Nat.reduceAdd,Int.reduceAdd,wi1,wi2,wi3,wi4,xIp,Int.reduceLT,Int.reduceLE,bcT,bcF,true_and,and_true,and_false,false_and]
  repeat' first
   |(obtain⟨y,hy,hx⟩:=xGs.1 hx;refine⟨y,hy,?_⟩)
   |((refine bifW_c (fun hc=>?_) (fun hc=>?_))<;>first|rw[xGq hc] at hx|rw[xGr hc] at hx)
   |(cases hx;rfl)
 |a::b::c::d::e::t,hx=>
  refine zAs (zAp _) zFd (by kernel_rfl) ((vh5 a b c d e t _).mpr ?_)
  simp only[zl,zF,zu,zd,zn,zs,zh]
  rw[xGq (by simp)] at hx
  cases hx
  simp only[zFl,xG4]
  exact zBh (by omega) (zW0 (by omega) rfl)
def conD83:Con:=Con.opt zZp zQ9 zW8
theorem yVy {W:World}(hW:GoodW W):zAk Tryz.prog W 6 115 conD83.own:=
 zA0 (fun s=>[.string s]) (Laying.empty hW.size) hW.size (by decide) zAl (OwnsAll.con (yVr hW) (zAb W 6)) Tryz.func115 (fn:=Tryz.f115) (c:=zAa Tryz.f115) (by kernel_rfl) (by kernel_rfl) (fun _ _ h=>zGn h) (fun a=>⟨rfl,(by kernel_rfl)⟩) (fun b=>rfl) xAo
theorem ySg {s:ByteArray}{r1:Int}{r2:Bool}{w:World}(hG:GoodW w)(h:zQ9 s=some (r1,r2)):Calls Tryz.prog 115 #[.string s] w fun e w'=>e=.returned (.tuple #[.int .u64 r1,.bool r2])∧Below w.heap.size w w':=
 zD6 (fn:=Tryz.f115) (c:=zAa Tryz.f115) (yVy hG) hG Tryz.func115 (by kernel_rfl) (by kernel_rfl) (args:=[.string s]) (v:=zW8 (r1,r2)) (zQy (dec:=zZp) (f:=zQ9) (enc:=zW8) (a:=s) (b:=(r1,r2)) rfl h _) rfl rfl (by intro h;cases h)
def zUg (m:Int):Int→List UInt8→Option (Int×Bool)
 |n,[]=>if m < n then some (0,false) else some (n,true)
 |n,c::t=>if(c.toNat:Int) < 48 then some (0,false) else if 57 < (c.toNat:Int) then some (0,false) else if IntKind.wrap .u64 (m.tdiv 10) < n then some (0,false) else if IntKind.wrap .u64 (m - if m < IntKind.wrap .u64 (IntKind.wrap .u8 ((c.toNat:Int) - 48)) then m else IntKind.wrap .u64 (IntKind.wrap .u8 ((c.toNat:Int) - 48))) < IntKind.wrap .u64 (10 * n) then some (0,false) else zUg m (IntKind.wrap .u64 (IntKind.wrap .u64 (10 * n)+IntKind.wrap .u64 (IntKind.wrap .u8 ((c.toNat:Int) - 48)))) t
def zRa (s:ByteArray)(m:Int):Option (Int×Bool):=
 if 0≤m∧m≤255 then(match s.data.toList with
  |[]=>some (0,false)
  |c::t=>if(c.toNat:Int)=48 then(if t=[] then zUg m 0 [c] else some (0,false)) else zUg m 0 (c::t))
 else none
def yDb:List Value→Option (ByteArray×Int)
 |[.string s,.int .u64 m]=>some (s,m)
 |_=>none
theorem yDc {args:List Value}{a:ByteArray×Int}(h:yDb args=some a):args=[.string a.1,.int .u64 a.2]:=by
 unfold yDb at h
 split at h
 case h_2=>cases h
 cases h;rfl
theorem zTp:Array.toList (ByteArray.data { data:=#[] })=[]:=rfl
theorem yHu (a:UInt8)(t:List UInt8):List.getD (a::t) 0 0=a:=rfl
theorem zLj (a:UInt8)(t:List UInt8):((a::t)=[])=False:=by simp
theorem xd (c:UInt8)(h1:¬ (c.toNat:Int) < 48)(h2:¬ 57 < (c.toNat:Int)):IntKind.wrap .u64 (IntKind.wrap .u8 ((c.toNat:Int) - 48))=(c.toNat:Int) - 48:=by
 have e:IntKind.wrap .u8 ((c.toNat:Int) - 48)=(c.toNat:Int) - 48:=by
  unfold IntKind.wrap
  simp[IntKind.signed,IntKind.bits]
  omega
 rw[e,Go.Det.wrapU ⟨by omega,by omega⟩]
theorem xAp {m:Int}(hm:0≤m∧m≤255){a b c:UInt8}(h0:¬ (a.toNat:Int)=48)(a1:¬ (a.toNat:Int) < 48)(a2:¬ 57 < (a.toNat:Int))(b1:¬ (b.toNat:Int) < 48)(b2:¬ 57 < (b.toNat:Int))(c1:¬ (c.toNat:Int) < 48)(c2:¬ 57 < (c.toNat:Int)):
  IntKind.wrap .u64 (m.tdiv 10) < IntKind.wrap .u64 (IntKind.wrap .u64 (10 * IntKind.wrap .u64 (IntKind.wrap .u64 (10 * IntKind.wrap .u64 (IntKind.wrap .u64 (10 * 0)+IntKind.wrap .u64 (IntKind.wrap .u8 ((a.toNat:Int) - 48))))+IntKind.wrap .u64 (IntKind.wrap .u8 ((b.toNat:Int) - 48))))+IntKind.wrap .u64 (IntKind.wrap .u8 ((c.toNat:Int) - 48))):=by
 obtain⟨k,rfl⟩:=xH8 hm.1
 rw[xd a a1 a2,xd b b1 b2,xd c c1 c2,show Int.tdiv (k:Int) 10=((k / 10:Nat):Int) from rfl,Go.Det.wrapU (x:=((k / 10:Nat):Int)) ⟨by omega,by omega⟩,Go.Det.wrapU (x:=10 * 0) ⟨by omega,by omega⟩]
 rw[Go.Det.wrapU (x:=10 * 0+((a.toNat:Int) - 48)) ⟨by omega,by omega⟩,Go.Det.wrapU (x:=10 * (10 * 0+((a.toNat:Int) - 48))) ⟨by omega,by omega⟩,Go.Det.wrapU (x:=10 * (10 * 0+((a.toNat:Int) - 48))+((b.toNat:Int) - 48)) ⟨by omega,by omega⟩,Go.Det.wrapU (x:=10 * (10 * (10 * 0+((a.toNat:Int) - 48))+((b.toNat:Int) - 48))) ⟨by omega,by omega⟩,Go.Det.wrapU ⟨by omega,by omega⟩]
 omega
theorem xAq (x:ByteArray×Int)(y:Int×Bool)(hx:zRa x.1 x.2=some y):zAo Tryz.prog (cwC []) (zAa Tryz.f61) (zAg [.string x.1,.int .u64 x.2] 8) (zAh [] 64) (zA2 Tryz.prog Tryz.f61 fun v' _=>v'=zW8 y):=by
 obtain⟨⟨⟨l⟩⟩,m⟩:=x
 unfold zRa at hx
 simp only[yFy] at hx
 split at hx
 case isFalse=>cases hx
 rename_i hm
 match l,hx with
 |[],hx=>
  refine zAs (zAp _) zFd (by kernel_rfl) ((vn0 m _).mpr ?_)
  simp only[zl,zF,zu,zd,zn,zs,zh]
  cases hx
  simp only[yFy,zTp,bcT]
  rfl
 |[a],hx=>
  refine zAs (zAp _) zFd (by kernel_rfl) ((vn1 a m _).mpr ?_)
  simp only[zl,zF,zu,zd,zn,zs,zh]
  simp only[zUg,if_true,reduceCtorEq,if_false] at hx
  simp only[zFl,yFy,zTp,zLj,Int.toNat_zero,yHu,xG4,xHa,Nat.reduceAdd,Int.reduceAdd,wi1,wi2,wi3,wi4,xIp,Int.reduceLT,Int.reduceLE,bcT,bcF,true_and,and_true,and_false,false_and,ne_eq,Int.reduceEq,not_false_eq_true]
  repeat' first
   |((refine bifW_c (fun hc=>?_) (fun hc=>?_))<;>first|rw[xGq hc] at hx|rw[xGr hc] at hx)
   |(cases hx;rfl)
 |[a,b],hx=>
  refine zAs (zAp _) zFd (by kernel_rfl) ((vn2 a b m _).mpr ?_)
  simp only[zl,zF,zu,zd,zn,zs,zh]
  simp only[zUg,if_true,reduceCtorEq,if_false] at hx
  simp only[zFl,yFy,zTp,zLj,Int.toNat_zero,yHu,xG4,xHa,Nat.reduceAdd,Int.reduceAdd,wi1,wi2,wi3,wi4,xIp,Int.reduceLT,Int.reduceLE,bcT,bcF,true_and,and_true,and_false,false_and,ne_eq,Int.reduceEq,not_false_eq_true]
  repeat' first
   |((refine bifW_c (fun hc=>?_) (fun hc=>?_))<;>first|rw[xGq hc] at hx|rw[xGr hc] at hx)
   |(cases hx;rfl)
 |[a,b,c],hx=>
  refine zAs (zAp _) zFd (by kernel_rfl) ((vn3 a b c m _).mpr ?_)
  simp only[zl,zF,zu,zd,zn,zs,zh]
  simp only[zUg,if_true,reduceCtorEq,if_false] at hx
  simp only[zFl,yFy,zTp,zLj,Int.toNat_zero,yHu,xG4,xHa,Nat.reduceAdd,Int.reduceAdd,wi1,wi2,wi3,wi4,xIp,Int.reduceLT,Int.reduceLE,bcT,bcF,true_and,and_true,and_false,false_and,ne_eq,Int.reduceEq,not_false_eq_true]
  repeat' first
   |((refine bifW_c (fun hc=>?_) (fun hc=>?_))<;>first|rw[xGq hc] at hx|rw[xGr hc] at hx)
   |(cases hx;rfl)
 |a::b::c::d::t,hx=>
  refine zAs (zAp _) zFd (by kernel_rfl) ((vn4 a b c d t m _).mpr ?_)
  simp only[zl,zF,zu,zd,zn,zs,zh]
  simp only[zUg,if_true,reduceCtorEq,if_false] at hx
  simp only[zFl,yFy,zTp,zLj,Int.toNat_zero,yHu,xG4,xHa,Nat.reduceAdd,Int.reduceAdd,wi1,wi2,wi3,wi4,xIp,Int.reduceLT,Int.reduceLE,bcT,bcF,true_and,and_true,and_false,false_and,ne_eq,Int.reduceEq,not_false_eq_true]
  have hz:((0:Int) < ((t.length+1+1+1+1:Nat):Int)):=by omega
  have ho:((1:Int) < ((t.length+1+1+1+1:Nat):Int)):=by omega
  have h2:((2:Int) < ((t.length+1+1+1+1:Nat):Int)):=by omega
  have h3:((3:Int) < ((t.length+1+1+1+1:Nat):Int)):=by omega
  simp only[xG2 hz,xG2 ho,xG2 h2,xG2 h3,bcT,and_true,true_and]
  repeat' first
   |((refine bifW_c (fun hc=>?_) (fun hc=>?_))<;>first|rw[xGq hc] at hx|rw[xGr hc] at hx)
   |(cases hx;rfl)
  exact absurd (xAp hm ‹¬ (a.toNat:Int)=48› ‹¬ (a.toNat:Int) < 48› ‹¬ 57 < (a.toNat:Int)› ‹¬ (b.toNat:Int) < 48› ‹¬ 57 < (b.toNat:Int)› ‹¬ (c.toNat:Int) < 48› ‹¬ 57 < (c.toNat:Int)›) (by assumption)
def conD61:Con:=Con.opt yDb (fun x=>zRa x.1 x.2) zW8
theorem yVz {W:World}(hW:GoodW W):zAk Tryz.prog W 6 61 conD61.own:=
 zA0 (fun x:ByteArray×Int=>[.string x.1,.int .u64 x.2]) (Laying.empty hW.size) hW.size (by decide) zAl (zAb W 6) Tryz.func61 (fn:=Tryz.f61) (c:=zAa Tryz.f61) (by kernel_rfl) (by kernel_rfl) (fun _ _ h=>yDc h) (fun a=>⟨rfl,(by kernel_rfl)⟩) (fun b=>rfl) xAq
theorem ySh {s:ByteArray}{m r1:Int}{r2:Bool}{w:World}(hG:GoodW w)(h:zRa s m=some (r1,r2)):Calls Tryz.prog 61 #[.string s,.int .u64 m] w fun e w'=>e=.returned (.tuple #[.int .u64 r1,.bool r2])∧Below w.heap.size w w':=
 zD6 (fn:=Tryz.f61) (c:=zAa Tryz.f61) (yVz hG) hG Tryz.func61 (by kernel_rfl) (by kernel_rfl) (args:=[.string s,.int .u64 m]) (v:=zW8 (r1,r2)) (zQy (dec:=yDb) (f:=fun x=>zRa x.1 x.2) (enc:=zW8) (a:=(s,m)) (b:=(r1,r2)) rfl h _) rfl rfl (by intro h;cases h)
def zDi (a:Int):List Int:=[andI .u64 (shrI .u64 a 48) 65535,andI .u64 (shrI .u64 a 32) 65535,andI .u64 (shrI .u64 a 16) 65535,andI .u64 (shrI .u64 a 0) 65535]
def yDd (x:Int×Int):Option (List Value):=some ((zDi x.1++zDi x.2).map (Value.int .u64))
theorem xAr (x:Int×Int)(cs:List Value)(hx:yDd x=some cs):zAo Tryz.prog (cwC []) (zAa Tryz.f91) (zAg [.agg #[.int .u64 x.1,.int .u64 x.2]] 8) (zAh [] 64) (zA2 Tryz.prog Tryz.f91 fun v' s'=>∃ k,v'=.slice (some ⟨k,0,none⟩) 8 8∧s'.h.get k=some (.cells cs 47 false)):=by
 obtain⟨a,b⟩:=x
 cases hx
 have h:=yR9 a b (andI .u64 (shrI .u64 a 48) 65535) (andI .u64 (shrI .u64 a 32) 65535) (andI .u64 (shrI .u64 a 16) 65535) (andI .u64 (shrI .u64 a 0) 65535) (andI .u64 (shrI .u64 b 48) 65535) (andI .u64 (shrI .u64 b 32) 65535) (andI .u64 (shrI .u64 b 16) 65535) (andI .u64 (shrI .u64 b 0) 65535)
 refine zA1 (zAp _) _ (fun e l s q=>zNf (fun v s q=>?_) q) (zAs (zAp _) zFd (by kernel_rfl) (h.mpr ?_))
 ·exact⟨65,q.1,zBu q.2⟩
 ·simp only[Int.reduceMul,Int.reduceAdd,Int.reduceSub,wi0,wi1,wi2,wi3,wi4,wi5,wi6,wi7,xAl,xAm,xAn,Int.reduceLT,Int.reduceLE,Int.reduceToNat,xIp,bcT,bcF,true_and,and_true]
def yHv:List Value→Option (Int×Int)
 |[.agg ⟨[.int .u64 a,.int .u64 b]⟩]=>some (a,b)
 |_=>none
theorem yDe {args:List Value}{a:Int×Int}(h:yHv args=some a):args=[.agg #[.int .u64 a.1,.int .u64 a.2]]:=by
 unfold yHv at h
 split at h
 case h_2=>cases h
 cases h;rfl
def conD56:Con:=Con.made yHv yDd 8 47
theorem yV0 {W:World}(hW:GoodW W):zAk Tryz.prog W 6 91 conD56.own:=
 yHo (cw:=cwC []) (l:=zZ2 []) (fun x:Int×Int=>[.agg #[.int .u64 x.1,.int .u64 x.2]]) (Laying.empty hW.size) hW.size (by decide) zAl (zAb W 6) (zAq []) Tryz.func91 (fn:=Tryz.f91) (c:=zAa Tryz.f91) (by kernel_rfl) (by kernel_rfl) (by decide) (fun _ _ h=>yDe h) (fun a=>⟨rfl,(by kernel_rfl)⟩) fun a cs h=>⟨fun v hv=>by
  cases h
  obtain⟨x,_,rfl⟩:=xJb.1 hv
  rfl,xAr a cs h⟩
end Go.Proofs.YtfnacgojmdbjmaaGreatDoor
end

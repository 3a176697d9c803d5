/- Texts of a proof, joined: words of the print (those that are named here) and printed functions. -/
import Derived.Test.YtfnacgojmdbjmaaGreatDoorQkm5
import Derived.Test.YtfnacgojmdbjmaaGreatDoorQkm4
set_option linter.unusedSimpArgs false
set_option linter.unusedVariables false
set_option maxRecDepth 100000
set_option maxHeartbeats 8000000
noncomputable section
namespace Go.Proofs.YtfnacgojmdbjmaaGreatDoor.PPH
open Go.RowKit Go.Proofs.ZW Go.Proofs.ZL Go.Proofs.ZM
attribute [local go_sem] zGj zGk zIh zIi zEx zEy zGl zGm
open Go.Det (inQ M64 zB1 qn zJc zJb zFf)
def Ye0.f (a0:ByteArray)(a1:Int):Option (Int×Bool):=zRa a0 a1
theorem Ye0.calls (a0:ByteArray)(a1:Int)(r1:Int)(r2:Bool)(w:World)(hG:GoodW w)(h:Ye0.f a0 a1=some (r1,r2)):
  Calls Tryz.prog 61 #[.string a0,.int .u64 a1] w fun e w'=>e=.returned (.tuple #[.int .u64 r1,.bool r2])∧Below w.heap.size w w':=by exact ySh hG h
def YD.f (a0:ByteArray)(a1:ByteArray):Option (List ByteArray):=if a0.size < 4294967281∧1≤a1.size then some (Lib.splitB a1 0 (Lib.countB a0 a1) a0) else none
theorem YD.calls (a0:ByteArray)(a1:ByteArray)(r:List ByteArray)(w:World)(hG:GoodW w)(h:YD.f a0 a1=some r):
  Calls Tryz.prog 103 #[.string a0,.string a1] w fun e w'=>∃ v0_:Value,e=.returned (v0_)∧Kd.R Kd.string 9 w' w.heap.size (fun _=>True) v0_ r∧Below w.heap.size w w':=yHm hG h
def Yp.l0:Nat→List ByteArray→Int→List ByteArray→Int→Int→Option (Int×Bool)
 |0,_,_,_,_,_=>none
 |k+1,x4,x5,x12,x13,x14=>if x14 < x13 then(if 0≤x14 then(if x14 < (x12.length:Int) then((Ye0.f (zCl ByteArray.empty x12 x14) 255).bind fun bt105=>(if bt105.2=true then(Yp.l0 k x4 (Go.bits .or .u64 (IntKind.u64.wrap (x5 * 256)) (Go.bits .and .u64 bt105.1 255)) x12 x13 (wrap64 (x14+1))) else(some (0,false)))) else(none)) else(none)) else(some (x5,((x4.length:Int)==4)))
def Yp.f (k:Nat)(a0:ByteArray):Option (Int×Bool):=(YD.f a0 (⟨#[46]⟩:ByteArray)).bind fun t101=>(Yp.l0 k t101 0 t101 (t101.length:Int) 0)
set_option maxRecDepth 100000 in
theorem Yp.calls (k:Nat)(a0:ByteArray)(r1:Int)(r2:Bool)(w:World)(hG:GoodW w)(h:Yp.f k a0=some (r1,r2)):
  Calls Tryz.prog 86 #[.string a0] w fun e w'=>e=.returned (.tuple #[.int .u64 r1,.bool r2])∧Below w.heap.size w w':=by
 have HB:=Aside0.mk (Below.refl w.heap.size w);have H:=h;unfold Yp.f at H;clear h;replace H:=zzW H;obtain⟨t101,A2,H⟩:=H;(try dsimp only at H);have H':=Aside0.mk H;clear H;go_enter Tryz.func86,Tryz.ntmps86
 go_wp2_with (first|((with_reducible refine zAu (f:=103) rfl ?_);refine zCj (some 11) rfl rfl Tryz.func103 (by kernel_rfl) rfl #[.string a0,.string (⟨#[46]⟩:ByteArray)] rfl zzM ?_;(with_reducible refine(YD.calls a0 (⟨#[46]⟩:ByteArray) t101 _ ?side1 A2.out).mono ?_);(case side1=>exact zzG);rintro e w3 ⟨v102,rfl,ho0,hb⟩;refine⟨_,rfl,?_⟩;have n0_:=Aside0.mk (Kd.R_lower ho0 (zAi zzB));have n1_:=Aside0.mk (zAe zzB hb);clear HB;have HO103:=n0_;have HB:=n1_;clear n0_ n1_;(try clear hb);(try clear ho0);obtain⟨Ao4,co4,eo4⟩:=Kd.R_slice HO103.out;subst eo4))
 go_loopg [5,14] k (fun kq v5 v14 w'=>∃ (x5_1:Int) (x14_1:Int),v5=.int .u64 x5_1∧v14=.int .i64 x14_1∧Aside0 (Yp.l0 kq t101 x5_1 t101 (t101.length:Int) x14_1=some (r1,r2))∧Aside0 (kq≤k)∧Aside0 (Kd.R Kd.string 9 w' w.heap.size (fun _=>True) (.slice Ao4 t101.length co4) t101)∧Aside0 (Kd.R Kd.string 9 w' w.heap.size (fun _=>True) (.slice Ao4 t101.length co4) t101)∧Aside0 (Below w.heap.size w w'))
 case atStart=>exact⟨(0),(0),zzS,zzS,H',⟨xGv _⟩,⟨zzR HO103⟩,⟨zzR HO103⟩,⟨zzB⟩⟩
 case round=>
  clear H';obtain⟨x5_1,x14_1,rfl,rfl,HA,HK1,HO_4,HO_12,HB⟩:=hrel
  cases gk with
  |zero=>exact absurd HA.out (by simp[Yp.l0])
  |succ k1=>
   have H:=HA.out;clear HA;simp only[Yp.l0] at H
   replace H:=zzC H;rcases H with⟨c5,H⟩|⟨c5,H⟩
   ·have c5b0:=xGx c5;clear c5
    replace H:=zzJ H;obtain⟨c6b0,H⟩:=H
    replace H:=zzJ H;obtain⟨c7b0,H⟩:=H;replace H:=zzW H;obtain⟨⟨t105,t106⟩,A8,H⟩:=H;(try dsimp only at H)
    by_cases c9:t106=true
    ·subst c9;have H1:=H;rw[xGq rfl] at H1;clear H;have H:=H1;clear H1;have H':=Aside0.mk H;clear H;have p104:0≤(x14_1:Int):=xGt zzA;have q104:x14_1 < (t101.length:Int):=xGt zzA;obtain⟨ad104,e104,hx104_0⟩:=Kd.at_string (Kd.R_reads' HO_12.out).2.2 x14_1 p104 q104;cases e104;replace p104:=xG2 p104;replace q104:=xG2 q104
     go_wp2_with (first|((with_reducible refine zAu (f:=61) rfl ?_);refine zCj (some 20) rfl rfl Tryz.func61 (by kernel_rfl) rfl #[.string (zCl ByteArray.empty t101 x14_1),.int .u64 255] rfl zzM ?_;(with_reducible refine(Ye0.calls (zCl ByteArray.empty t101 x14_1) 255 t105 true _ ?side1 A8.out).mono ?_);(case side1=>exact zzG);rintro e w10 ⟨rfl,hb⟩;refine⟨_,rfl,?_⟩;have n0_:=Aside0.mk (Kd.R_below (zzR HO_4) hb);have n1_:=Aside0.mk (Kd.R_below (zzR HO_12) hb);have n2_:=Aside0.mk (zAe zzB hb);clear HO_4;clear HO_12;clear HB;have HO_4:=n0_;have HO_12:=n1_;have HB:=n2_;clear n0_ n1_ n2_;(try clear hb)))
     go_roundg k1
     case measure=>have:=HK1.out;omega
     case rel=>exact⟨(Go.bits .or .u64 (IntKind.u64.wrap (x5_1 * 256)) (Go.bits .and .u64 t105 255)),(wrap64 (x14_1+1)),zzS,zzS,H',⟨by have:=HK1.out;omega⟩,⟨zzR HO_4⟩,⟨zzR HO_12⟩,⟨zzB⟩⟩
    ·replace c9:=Bool.eq_false_iff.mpr c9;subst c9
     have H1:(some (0,false))=some (r1,r2):=by rw[xGr (show ¬ (false=true) by decide)] at H;exact H
     clear H;have H:=H1;clear H1;simp only[xGu,xG5] at H;obtain⟨rfl,rfl⟩:=H;have p104:0≤(x14_1:Int):=xGt zzA;have q104:x14_1 < (t101.length:Int):=xGt zzA;obtain⟨ad104,e104,hx104_0⟩:=Kd.at_string (Kd.R_reads' HO_12.out).2.2 x14_1 p104 q104;cases e104;replace p104:=xG2 p104;replace q104:=xG2 q104
     go_wp2_with (first|((with_reducible refine zAu (f:=61) rfl ?_);refine zCj (some 20) rfl rfl Tryz.func61 (by kernel_rfl) rfl #[.string (zCl ByteArray.empty t101 x14_1),.int .u64 255] rfl zzM ?_;(with_reducible refine(Ye0.calls (zCl ByteArray.empty t101 x14_1) 255 t105 false _ ?side1 A8.out).mono ?_);(case side1=>exact zzG);rintro e w11 ⟨rfl,hb⟩;refine⟨_,rfl,?_⟩;have n0_:=Aside0.mk (Kd.R_below (zzR HO_4) hb);have n1_:=Aside0.mk (Kd.R_below (zzR HO_12) hb);have n2_:=Aside0.mk (zAe zzB hb);clear HO_4;clear HO_12;clear HB;have HO_4:=n0_;have HO_12:=n1_;have HB:=n2_;clear n0_ n1_ n2_;(try clear hb)))
     go_ret2;exact⟨zzE,zzB⟩
   ·have c5b0:=xG1 c5;clear c5;simp only[xGu,xG5] at H;obtain⟨rfl,rfl⟩:=H;go_wp2;go_ret2;exact⟨zzE,zzB⟩
def Yw.f (a0:ByteArray)(a1:ByteArray):Option (Bool):=if a0.size < 4294967281 then some (Lib.contains a0.data.toList a1.data.toList) else none
theorem Yw.calls (a0:ByteArray)(a1:ByteArray)(r:Bool)(w:World)(hG:GoodW w)(h:Yw.f a0 a1=some r):
  Calls Tryz.prog 84 #[.string a0,.string a1] w fun e w'=>e=.returned (.bool r)∧Drawn0 w w':=zNd hG h
def Yk0.f (a0:ByteArray):Option (Int×Bool):=zQ9 a0
theorem Yk0.calls (a0:ByteArray)(r1:Int)(r2:Bool)(w:World)(hG:GoodW w)(h:Yk0.f a0=some (r1,r2)):
  Calls Tryz.prog 115 #[.string a0] w fun e w'=>e=.returned (.tuple #[.int .u64 r1,.bool r2])∧Below w.heap.size w w':=by exact ySg hG h
mutual
def Yg.l0:Nat→Bool→List Int→List ByteArray→List ByteArray→Int→Int→Option (List Int×Bool)
 |0,_,_,_,_,_,_=>none
 |k+1,x1,x6,x7,x18,x19,x20=>if x20 < x19 then(if 0≤x20 then(if x20 < (x18.length:Int) then(if x1=true then(if x20=(wrap64 ((x7.length:Int) - 1)) then((Yw.f (zCl ByteArray.empty x18 x20) (⟨#[46]⟩:ByteArray)).bind fun t111=>(Yg.j1 k x1 x6 x7 (zCl ByteArray.empty x18 x20) x18 x19 x20 t111)) else(Yg.j1 k x1 x6 x7 (zCl ByteArray.empty x18 x20) x18 x19 x20 false)) else(Yg.j1 k x1 x6 x7 (zCl ByteArray.empty x18 x20) x18 x19 x20 false)) else(none)) else(none)) else(some (x6,true))
def Yg.j1:Nat→Bool→List Int→List ByteArray→ByteArray→List ByteArray→Int→Int→Bool→Option (List Int×Bool)
 |0,_,_,_,_,_,_,_,_=>none
 |k+1,x1,x6,x7,x9,x18,x19,x20,x36=>if x36=true then((Yp.f k x9).bind fun bt112=>((some (([bt112.1 / 65536,Go.bits .and .u64 bt112.1 65535]:List Int):List Int)).bind fun y114=>(if x6.length+y114.length < 17592186044416 then(some ((x6++y114),bt112.2)) else(none)))) else((Yk0.f x9).bind fun bt120=>(if bt120.2=true then(if x6.length < 17592186044416 then(Yg.l0 k x1 (x6++[bt120.1]) x7 x18 x19 (wrap64 (x20+1))) else(none)) else(some (([]:List Int),false))))
end
def Yg.f (k:Nat)(a0:ByteArray)(a1:Bool):Option (List Int×Bool):=if a0.toList=([]:List UInt8) then(some (([]:List Int),true)) else((YD.f a0 (⟨#[58]⟩:ByteArray)).bind fun t107=>(Yg.l0 k a1 ([]:List Int) t107 t107 (t107.length:Int) 0))
set_option maxRecDepth 100000 in
theorem Yg.calls (k:Nat)(a0:ByteArray)(a1:Bool)(r1:List Int)(r2:Bool)(w:World)(hG:GoodW w)(h:Yg.f k a0 a1=some (r1,r2)):
  Calls Tryz.prog 102 #[.string a0,.bool a1] w fun e w'=>∃ v0_:Value,e=.returned (.tuple #[v0_,.bool r2])∧Kd.R (Kd.int .u64) 23 w' w.heap.size (fun _=>True) v0_ r1∧Below w.heap.size w w':=by
 have HB:=Aside0.mk (Below.refl w.heap.size w);have H:=h;unfold Yg.f at H;clear h
 replace H:=zzC H;rcases H with⟨c3,H⟩|⟨c3,H⟩
 ·have c3b0:=beq_iff_eq.mpr c3;have c3b1:=bne_eq_false_iff_eq.mpr c3;clear c3;simp only[xGu,xG5] at H;obtain⟨rfl,rfl⟩:=H;go_enter Tryz.func102,Tryz.ntmps102;go_wp2;go_ret2;exact⟨_,zzE,zzN,zzB⟩
 ·have c3b0:=beq_eq_false_iff_ne.mpr c3;have c3b1:=bne_iff_ne.mpr c3;replace H:=zzW H;obtain⟨t107,A4,H⟩:=H;(try dsimp only at H);have H':=Aside0.mk H;clear H;go_enter Tryz.func102,Tryz.ntmps102
  go_wp2_with (first|((with_reducible refine zAu (f:=103) rfl ?_);refine zCj (some 17) rfl rfl Tryz.func103 (by kernel_rfl) rfl #[.string a0,.string (⟨#[58]⟩:ByteArray)] rfl zzM ?_;(with_reducible refine(YD.calls a0 (⟨#[58]⟩:ByteArray) t107 _ ?side1 A4.out).mono ?_);(case side1=>exact zzG);rintro e w5 ⟨v108,rfl,ho0,hb⟩;refine⟨_,rfl,?_⟩;have n0_:=Aside0.mk (Kd.R_lower ho0 (zAi zzB));have n1_:=Aside0.mk (zAe zzB hb);clear HB;have HO109:=n0_;have HB:=n1_;clear n0_ n1_;(try clear hb);(try clear ho0);obtain⟨Ao6,co6,eo6⟩:=Kd.R_slice HO109.out;subst eo6))
  go_loopg [6,20] k (fun kq v6 v20 w'=>∃ (x6_1:List Int) (x20_1:Int),v20=.int .i64 x20_1∧Aside0 (Yg.l0 kq a1 x6_1 t107 t107 (t107.length:Int) x20_1=some (r1,r2))∧Aside0 (kq≤k)∧Aside0 (Kd.R (Kd.int .u64) 23 w' w.heap.size (fun _=>True) v6 x6_1)∧Aside0 (Kd.R Kd.string 9 w' w.heap.size (fun _=>True) (.slice Ao6 t107.length co6) t107)∧Aside0 (Kd.R Kd.string 9 w' w.heap.size (fun _=>True) (.slice Ao6 t107.length co6) t107)∧Aside0 (Below w.heap.size w w'))
  case atStart=>exact⟨(([]:List Int)),(0),zzS,H',⟨xGv _⟩,⟨zzN⟩,⟨zzR HO109⟩,⟨zzR HO109⟩,⟨zzB⟩⟩
  case round=>
   clear H';(try clear c3);(try clear c3b0);(try clear c3b1);obtain⟨x6_1,x20_1,rfl,HA,HK1,HO_6,HO_7,HO_18,HB⟩:=hrel
   cases gk with
   |zero=>exact absurd HA.out (by simp[Yg.l0])
   |succ k1=>
    have H:=HA.out;clear HA;simp only[Yg.l0] at H
    replace H:=zzC H;rcases H with⟨c7,H⟩|⟨c7,H⟩
    ·have c7b0:=xGx c7;clear c7
     replace H:=zzJ H;obtain⟨c8b0,H⟩:=H
     replace H:=zzJ H;obtain⟨c9b0,H⟩:=H;have HC10:=Aside0.mk H;clear H;have p110:0≤(x20_1:Int):=xGt zzA;have q110:x20_1 < (t107.length:Int):=xGt zzA;obtain⟨ad110,e110,hx110_0⟩:=Kd.at_string (Kd.R_reads' HO_18.out).2.2 x20_1 p110 q110;cases e110;replace p110:=xG2 p110;replace q110:=xG2 q110
     go_upto_region 8 with(fail)
     go_cut [36] (fun v36 wc=>∃ (kq:Nat) (x36_9:Bool),v36=.bool x36_9∧Aside0 (Yg.j1 kq a1 x6_1 t107 (zCl ByteArray.empty t107 x20_1) t107 (t107.length:Int) x20_1 x36_9=some (r1,r2))∧Aside0 (kq≤k1)∧Aside0 (Kd.R (Kd.int .u64) 23 wc w.heap.size (fun _=>True) u6 x6_1)∧Aside0 (Kd.R Kd.string 9 wc w.heap.size (fun _=>True) (.slice (some ad110) t107.length co6) t107)∧Aside0 (Kd.R Kd.string 9 wc w.heap.size (fun _=>True) (.slice (some ad110) t107.length co6) t107)∧Aside0 (Below w.heap.size w wc))
     case first=>
      have H:=HC10.out;clear HC10
      by_cases c11:a1=true
      ·subst c11;have H1:=H;rw[xGq rfl] at H1;clear H;have H:=H1;clear H1
       replace H:=zzC H;rcases H with⟨c12,H⟩|⟨c12,H⟩
       ·have c12b0:=beq_iff_eq.mpr c12;have c12b1:=bne_eq_false_iff_eq.mpr c12;clear c12
        (first|rw[c12b0]|(simp only[zFy,zH0];rw[c12b0])|skip)
        replace H:=zzW H;obtain⟨t111,A13,H⟩:=H;(try dsimp only at H);have H':=Aside0.mk H;clear H
        go_wp2_with (first|(go_at_call 84;(with_reducible refine(Yw.calls (zCl ByteArray.empty t107 x20_1) (⟨#[46]⟩:ByteArray) t111 _ ?side1 A13.out).mono ?_);(case side1=>exact zzG);rintro e w' ⟨rfl,⟨nd,rfl⟩⟩))
        go_meet
        case rel=>exact⟨_,(t111),zzS,H',⟨zzO⟩,⟨zzR HO_6⟩,⟨zzR HO_7⟩,⟨zzR HO_18⟩,⟨zzB⟩⟩
       ·have c12b0:=beq_eq_false_iff_ne.mpr c12;have c12b1:=bne_iff_ne.mpr c12
        (first|rw[c12b0]|(simp only[zFy,zH0];rw[c12b0])|skip)
        have H':=Aside0.mk H;clear H;go_wp2;go_meet
        case rel=>exact⟨_,(false),zzS,H',⟨zzO⟩,⟨zzR HO_6⟩,⟨zzR HO_7⟩,⟨zzR HO_18⟩,⟨zzB⟩⟩
      ·replace c11:=Bool.eq_false_iff.mpr c11;subst c11
       have H1:(Yg.j1 k1 false x6_1 t107 (zCl ByteArray.empty t107 x20_1) t107 (t107.length:Int) x20_1 false)=some (r1,r2):=by rw[xGr (show ¬ (false=true) by decide)] at H;exact H
       clear H;have H:=H1;clear H1;have H':=Aside0.mk H;clear H;go_wp2;go_meet
       case rel=>exact⟨_,(false),zzS,H',⟨zzO⟩,⟨zzR HO_6⟩,⟨zzR HO_7⟩,⟨zzR HO_18⟩,⟨zzB⟩⟩
     case rest=>
      clear HC10;(try clear c3);(try clear c3b0);(try clear c3b1);(try clear c7);(try clear c7b0);(try clear c8b0);(try clear c9b0);(try clear hx110_0);(try clear p110);(try clear q110);obtain⟨kq,x36_9,rfl,HA,HJ9,HO_6,HO_7,HO_18,HB⟩:=hcut
      cases kq with
      |zero=>exact absurd HA.out (by simp[Yg.j1])
      |succ kj9=>
       have H:=HA.out;clear HA;simp only[Yg.j1] at H
       by_cases c14:x36_9=true
       ·subst c14;have H1:=H;rw[xGq rfl] at H1;clear H;have H:=H1;clear H1;replace H:=zzW H;obtain⟨⟨t112,t113⟩,A15,H⟩:=H;(try dsimp only at H);obtain⟨y114,hy114⟩:∃ y_:List Int,y_=(([t112 / 65536,Go.bits .and .u64 t112 65535]:List Int)):=⟨_,rfl⟩
        replace H:(if x6_1.length+y114.length < 17592186044416 then(some ((x6_1++y114),t113)) else(none))=some (r1,r2):=by first|(rw[hy114];with_reducible exact H)|(have H2_:=(xGp _ _).symm.trans H;rw[hy114];with_reducible exact H2_)|(have H2_:=(xGp _ _).symm.trans H;with_reducible exact H2_)|with_reducible exact H|(rw[hy114];exact H)|exact H
        have Ny114:=Aside0.mk hy114;clear hy114
        have c16:=zzI H;rw[xGq c16] at H;have LMc16:=Aside0.mk c16;clear c16;obtain⟨y117,hy117⟩:∃ y_:List Int,y_=(x6_1++y114):=⟨_,rfl⟩
        replace H:(some (y117,t113))=some (r1,r2):=by first|(rw[hy117];with_reducible exact H)|(have H2_:=(xGp _ _).symm.trans H;rw[hy117];with_reducible exact H2_)|(have H2_:=(xGp _ _).symm.trans H;with_reducible exact H2_)|with_reducible exact H|(rw[hy117];exact H)|exact H
        have Ny117:=Aside0.mk hy117;clear hy117;simp only[xGu,xG5] at H;obtain⟨rfl,rfl⟩:=H
        go_wp2_with (first|((with_reducible refine zAu (f:=86) rfl ?_);refine zCj (some 39) rfl rfl Tryz.func86 (by kernel_rfl) rfl #[.string (zCl ByteArray.empty t107 x20_1)] rfl zzM ?_;(with_reducible refine(Yp.calls kj9 (zCl ByteArray.empty t107 x20_1) t112 t113 _ ?side1 A15.out).mono ?_);(case side1=>exact zzG);rintro e w17 ⟨rfl,hb⟩;refine⟨_,rfl,?_⟩;have n0_:=Aside0.mk (Kd.R_below (zzR HO_6) hb);have n1_:=Aside0.mk (Kd.R_below (zzR HO_7) hb);have n2_:=Aside0.mk (Kd.R_below (zzR HO_18) hb);have n3_:=Aside0.mk (zAe zzB hb);clear HO_6;clear HO_7;clear HO_18;clear HB;have HO_6:=n0_;have HO_7:=n1_;have HO_18:=n2_;have HB:=n3_;clear n0_ n1_ n2_ n3_;(try clear hb);)|((with_reducible refine zBv (N:=47) rfl ?_);(try(refine zC3 (by rfl) ?_;dsimp only));refine Kd.R_lit (Kd.int .u64) _ 23 ?hg (N:=47) ?hd (xs:=([t112 / 65536,Go.bits .and .u64 t112 65535]:List Int)) (inner:=[.int .u64 (t112 / 65536),.int .u64 (Go.bits .and .u64 t112 65535)]) (ok:=fun _=>True) (okp:=fun _=>True) ?hr ?hp (fun _ hk=>hk) trivial (Below.refl _ _) (xGv _) (by simp) ?_;(case hd=>rfl);(case hg=>rfl);(case hr=>first|(go_simp;done)|(go_simp;rfl));(case hp=>exact(Reps.one (show Kd.M (Kd.int .u64) _ _ _ (t112 / 65536) [.int .u64 (t112 / 65536)] from rfl) (Reps.one (show Kd.M (Kd.int .u64) _ _ _ (Go.bits .and .u64 t112 65535) [.int .u64 (Go.bits .and .u64 t112 65535)] from rfl) (Reps.none _ _))));intro v115 w18 ho19 hb hg_ hnew_;clear hg_ hnew_;(first|rw[← Ny114.out] at ho19|(simp only[Int.reduceToNat] at ho19;rw[← Ny114.out] at ho19));have n0_:=Aside0.mk (Kd.R_elder' (zzR HO_6) (Kd.R_base ho19) hb);have n1_:=Aside0.mk (Kd.R_below (zzR HO_7) hb);have n2_:=Aside0.mk (Kd.R_below (zzR HO_18) hb);have n3_:=Aside0.mk (Kd.R_lower (Kd.R_new' ho19 (Kd.R_lt (zzR HO_6))) (zAi zzB));have n4_:=Aside0.mk (zAe zzB hb);clear HO_6;clear HO_7;clear HO_18;clear HB;have HO_6:=n0_;have HO_7:=n1_;have HO_18:=n2_;have HO116:=n3_;have HB:=n4_;clear n0_ n1_ n2_ n3_ n4_;clear hb ho19;obtain⟨Ao21,co21,eo21⟩:=Kd.R_slice HO116.out;subst eo21)|((with_reducible refine zC0 (b:=.append) (xs:=#[.tmp 42,.tmp 47]) rfl ?_);(try(refine zC3 (by rfl) ?_;dsimp only));at_builtin;refine Kd.R_append_rows (Kd.int .u64) (w0:=w) w.heap.size rfl (.tmp 42) (.tmp 47) 95 23 (.int .u64 0) 8 rfl Tryz.underlying95 info23 rfl (by decide) (by omega) u6 x6_1 y114 _ _ _ (fun k_=>some k_≠(.slice Ao21 y114.length co21:Value).ownBlock) (fun _=>False) rfl rfl ?aO ?aR (fun _ _ h=>h) (fun _ h=>h.elim) ?aF ?aB ?aS ?aL ?_;(case aR=>repeat (first|exact(Kd.R_reads' HO116.out).2.2|(with_reducible refine Kd.C_alloc ?_ _)|(with_reducible refine Kd.C_drewN ?_ _)|(with_reducible refine Kd.C_drew ?_)));(case aB=>exact zzB);(case aF=>exact(fun k_ hk=>Kd.fresh' (Kd.R_lt (zzR HO116)) k_ hk));(case aO=>exact(by(with_reducible repeat (first|apply Kd.R_alloc|apply Kd.R_drewN|apply Kd.R_drew));exact Kd.R_mono HO_6.out (fun _ hk=>hk.2)));(case aS=>exact(zAi zzB));(case aL=>have:=LMc16.out;omega);intro v118 w20 ho hb hg hat;rw[← Ny117.out] at ho;have n0_:=Aside0.mk (Kd.R_over' (zzR HO_7) (Kd.R_typed (zzR HO_6)) (by decide) hg);have n1_:=Aside0.mk (Kd.R_over' (zzR HO_18) (Kd.R_typed (zzR HO_6)) (by decide) hg);have n2_:=Aside0.mk (Kd.R_after (ok:=(fun _=>True)) (zzR HO116) hg hat);have n3_:=Aside0.mk (hb);have n4_:=Aside0.mk (ho);clear HO_7;clear HO_18;clear HO116;clear HB;clear HO_6;have HO_7:=n0_;have HO_18:=n1_;have HO116:=n2_;have HB:=n3_;have HO119:=n4_;clear n0_ n1_ n2_ n3_ n4_;clear ho hb hg hat))
        go_ret2;exact⟨_,zzE,by(with_reducible repeat (first|apply Kd.R_alloc|apply Kd.R_drewN|apply Kd.R_drew));exact Kd.R_mono HO119.out (fun _ hk=>trivial),zzB⟩
       ·replace c14:=Bool.eq_false_iff.mpr c14;subst c14
        have H1:((Yk0.f (zCl ByteArray.empty t107 x20_1)).bind fun bt120=>(if bt120.2=true then(if x6_1.length < 17592186044416 then(Yg.l0 kj9 a1 (x6_1++[bt120.1]) t107 t107 (t107.length:Int) (wrap64 (x20_1+1))) else(none)) else(some (([]:List Int),false))))=some (r1,r2):=by rw[xGr (show ¬ (false=true) by decide)] at H;exact H
        clear H;have H:=H1;clear H1;replace H:=zzW H;obtain⟨⟨t120,t121⟩,A22,H⟩:=H;(try dsimp only at H)
        by_cases c23:t121=true
        ·subst c23;have H1:=H;rw[xGq rfl] at H1;clear H;have H:=H1;clear H1
         have c24:=zzI H;rw[xGq c24] at H;have LMc24:=Aside0.mk c24;clear c24;obtain⟨y122,hy122⟩:∃ y_:List Int,y_=(x6_1++[t120]):=⟨_,rfl⟩
         replace H:(Yg.l0 kj9 a1 y122 t107 t107 (t107.length:Int) (wrap64 (x20_1+1)))=some (r1,r2):=by first|(rw[hy122];with_reducible exact H)|(have H2_:=(xGp _ _).symm.trans H;rw[hy122];with_reducible exact H2_)|(have H2_:=(xGp _ _).symm.trans H;with_reducible exact H2_)|with_reducible exact H|(rw[hy122];exact H)|exact H
         have Ny122:=Aside0.mk hy122;clear hy122;have H':=Aside0.mk H;clear H
         go_wp2_with (first|((with_reducible refine zAu (f:=115) rfl ?_);refine zCj (some 52) rfl rfl Tryz.func115 (by kernel_rfl) rfl #[.string (zCl ByteArray.empty t107 x20_1)] rfl zzM ?_;(with_reducible refine(Yk0.calls (zCl ByteArray.empty t107 x20_1) t120 true _ ?side1 A22.out).mono ?_);(case side1=>exact zzG);rintro e w25 ⟨rfl,hb⟩;refine⟨_,rfl,?_⟩;have n0_:=Aside0.mk (Kd.R_below (zzR HO_6) hb);have n1_:=Aside0.mk (Kd.R_below (zzR HO_7) hb);have n2_:=Aside0.mk (Kd.R_below (zzR HO_18) hb);have n3_:=Aside0.mk (zAe zzB hb);clear HO_6;clear HO_7;clear HO_18;clear HB;have HO_6:=n0_;have HO_7:=n1_;have HO_18:=n2_;have HB:=n3_;clear n0_ n1_ n2_ n3_;(try clear hb);)|((with_reducible refine zC0 (b:=.append) (xs:=#[.tmp 57,.tmp 59]) rfl ?_);(try(refine zC3 (by rfl) ?_;dsimp only));at_builtin;refine Kd.R_append (Kd.int .u64) (w0:=w) w.heap.size rfl (.tmp 57) (.tmp 59) 95 23 (.int .u64 0) 8 rfl Tryz.underlying95 info23 rfl (by decide) (by omega) u6 x6_1 t120 [.int .u64 t120] (fun _=>True) (fun _=>False) rfl rfl ?aP (fun _ hk=>hk.elim) ?aF ?aO ?aB ?aS ?aL ?_;(case aP=>exact rfl);(case aB=>exact zzB);(case aF=>exact(fun _ _=>trivial));(case aO=>exact(zzR HO_6));(case aS=>exact(zAi zzB));(case aL=>have:=LMc24.out;omega);intro v123 w26 ho hb hg hat;rw[← Ny122.out] at ho;have n0_:=Aside0.mk (Kd.R_over' (zzR HO_7) (Kd.R_typed (zzR HO_6)) (by decide) hg);have n1_:=Aside0.mk (Kd.R_over' (zzR HO_18) (Kd.R_typed (zzR HO_6)) (by decide) hg);have n2_:=Aside0.mk (hb);have n3_:=Aside0.mk (ho);clear HO_7;clear HO_18;clear HB;clear HO_6;have HO_7:=n0_;have HO_18:=n1_;have HB:=n2_;have HO124:=n3_;clear n0_ n1_ n2_ n3_;clear ho hb hg hat))
         go_roundg kj9
         case measure=>have:=HK1.out;have:=HJ9.out;omega
         case rel=>exact⟨(y122),(wrap64 (x20_1+1)),zzS,H',⟨by have:=HK1.out;have:=HJ9.out;omega⟩,⟨zzR HO124⟩,⟨zzR HO_7⟩,⟨zzR HO_18⟩,⟨zzB⟩⟩
        ·replace c23:=Bool.eq_false_iff.mpr c23;subst c23
         have H1:(some (([]:List Int),false))=some (r1,r2):=by rw[xGr (show ¬ (false=true) by decide)] at H;exact H
         clear H;have H:=H1;clear H1;simp only[xGu,xG5] at H;obtain⟨rfl,rfl⟩:=H
         go_wp2_with (first|((with_reducible refine zAu (f:=115) rfl ?_);refine zCj (some 52) rfl rfl Tryz.func115 (by kernel_rfl) rfl #[.string (zCl ByteArray.empty t107 x20_1)] rfl zzM ?_;(with_reducible refine(Yk0.calls (zCl ByteArray.empty t107 x20_1) t120 false _ ?side1 A22.out).mono ?_);(case side1=>exact zzG);rintro e w27 ⟨rfl,hb⟩;refine⟨_,rfl,?_⟩;have n0_:=Aside0.mk (Kd.R_below (zzR HO_6) hb);have n1_:=Aside0.mk (Kd.R_below (zzR HO_7) hb);have n2_:=Aside0.mk (Kd.R_below (zzR HO_18) hb);have n3_:=Aside0.mk (zAe zzB hb);clear HO_6;clear HO_7;clear HO_18;clear HB;have HO_6:=n0_;have HO_7:=n1_;have HO_18:=n2_;have HB:=n3_;clear n0_ n1_ n2_ n3_;(try clear hb)))
         go_ret2;exact⟨_,zzE,zzN,zzB⟩
    ·have c7b0:=xG1 c7;clear c7;simp only[xGu,xG5] at H;obtain⟨rfl,rfl⟩:=H;go_wp2;go_ret2;exact⟨_,zzE,by(with_reducible repeat (first|apply Kd.R_alloc|apply Kd.R_drewN|apply Kd.R_drew));exact HO_6.out,zzB⟩
mutual
def Yn.l0:Nat→List Int→Int→Int→Int→Int→Option (Int×Int)
 |0,_,_,_,_,_=>none
 |k+1,x0,x4,x5,x9,x10=>if x10 < x9 then(Yn.l1 k x0 x4 x5 x10 x10 x9 x10) else(some (x4,x5))
def Yn.l1:Nat→List Int→Int→Int→Int→Int→Int→Int→Option (Int×Int)
 |0,_,_,_,_,_,_,_=>none
 |k+1,x0,x4,x5,x6,x7,x9,x10=>if x7 < (x0.length:Int) then(if 0≤x7 then(if(rd x0 x7)=0 then(Yn.l1 k x0 x4 x5 x6 (wrap64 (x7+1)) x9 x10) else(if(wrap64 (x7 - x6)) > (wrap64 (x5 - x4)) then(if(wrap64 (x7 - x6)) > 1 then(Yn.l0 k x0 x6 x7 x9 (wrap64 (x10+1))) else(Yn.l0 k x0 x4 x5 x9 (wrap64 (x10+1)))) else(Yn.l0 k x0 x4 x5 x9 (wrap64 (x10+1))))) else(none)) else(if(wrap64 (x7 - x6)) > (wrap64 (x5 - x4)) then(if(wrap64 (x7 - x6)) > 1 then(Yn.l0 k x0 x6 x7 x9 (wrap64 (x10+1))) else(Yn.l0 k x0 x4 x5 x9 (wrap64 (x10+1)))) else(Yn.l0 k x0 x4 x5 x9 (wrap64 (x10+1))))
end
def Yn.f (k:Nat)(l0:List Int):Option (Int×Int):=Yn.l0 k l0 0 0 (l0.length:Int) 0
set_option maxRecDepth 100000 in
theorem Yn.calls (k:Nat)(A0:Option Addr)(c0:Nat)(l0:List Int)(r1:Int)(r2:Int)(w:World)(hr0:Kd.C (Kd.int .u64) w A0 l0.length l0)(hc0:l0.length≤c0)(hG:GoodW w)(h:Yn.f k l0=some (r1,r2)):
  Calls Tryz.prog 92 #[.slice A0 l0.length c0] w fun e w'=>e=.returned (.tuple #[.int .i64 r1,.int .i64 r2])∧Drawn0 w w':=by
 have HR0:=Aside0.mk hr0;have HC0:=Aside0.mk hc0;clear hr0 hc0;have H:=h;unfold Yn.f at H;clear h;have H':=Aside0.mk H;clear H;go_enter Tryz.func92,Tryz.ntmps92;go_wp2
 go_loopg [4,5,10] k (fun kq v4 v5 v10 w'=>∃ (x4_1:Int) (x5_1:Int) (x10_1:Int),v4=.int .i64 x4_1∧v5=.int .i64 x5_1∧v10=.int .i64 x10_1∧Aside0 (Yn.l0 kq l0 x4_1 x5_1 (l0.length:Int) x10_1=some (r1,r2))∧Aside0 (kq≤k)∧Drawn0 w w')
 case atStart=>exact⟨(0),(0),(0),zzS,zzS,zzS,H',⟨xGv _⟩,zzD⟩
 case round=>
  clear H';obtain⟨x4_1,x5_1,x10_1,rfl,rfl,rfl,HA,HK1,⟨m1,rfl⟩⟩:=hrel
  cases gk with
  |zero=>exact absurd HA.out (by simp[Yn.l0])
  |succ k1=>
   have H:=HA.out;clear HA;simp only[Yn.l0] at H
   replace H:=zzC H;rcases H with⟨c2,H⟩|⟨c2,H⟩
   ·have c2b0:=xGx c2;clear c2;have H':=Aside0.mk H;clear H;go_wp2
    go_loopg [7] k1 (fun kq v7 w'=>∃ (x7_2:Int),v7=.int .i64 x7_2∧Aside0 (Yn.l1 kq l0 x4_1 x5_1 x10_1 x7_2 (l0.length:Int) x10_1=some (r1,r2))∧Aside0 (kq≤k1)∧Drawn0 w w')
    case atStart=>exact⟨(x10_1),zzS,H',⟨xGv _⟩,zzD⟩
    case round=>
     clear H';(try clear c2);(try clear c2b0);obtain⟨x7_2,rfl,HA,HK2,⟨m2,rfl⟩⟩:=hrel
     cases gk with
     |zero=>exact absurd HA.out (by simp[Yn.l1])
     |succ k2=>
      have H:=HA.out;clear HA;simp only[Yn.l1] at H
      replace H:=zzC H;rcases H with⟨c3,H⟩|⟨c3,H⟩
      ·have c3b0:=xGx c3;clear c3
       replace H:=zzJ H;obtain⟨c4b0,H⟩:=H
       replace H:=zzC H;rcases H with⟨c5,H⟩|⟨c5,H⟩
       ·have c5b0:=beq_iff_eq.mpr c5;have c5b1:=bne_eq_false_iff_eq.mpr c5;clear c5;have H':=Aside0.mk H;clear H;have p125:0≤(x7_2:Int):=xGt zzA;have q125:x7_2 < (l0.length:Int):=xGt zzA;obtain⟨ad125,e125,hx125_0⟩:=Kd.at_int HR0.out x7_2 p125 q125;cases e125;replace p125:=xG2 p125;replace q125:=xG2 q125;go_wp2
        go_roundg k2
        case measure=>have:=HK1.out;have:=HK2.out;omega
        case rel=>exact⟨(wrap64 (x7_2+1)),zzS,H',⟨zzP⟩,zzD⟩
       ·have c5b0:=beq_eq_false_iff_ne.mpr c5;have c5b1:=bne_iff_ne.mpr c5
        replace H:=zzC H;rcases H with⟨c6,H⟩|⟨c6,H⟩
        ·have c6b0:=xGx c6;clear c6
         replace H:=zzC H;rcases H with⟨c7,H⟩|⟨c7,H⟩
         ·have c7b0:=xGx c7;clear c7;have H':=Aside0.mk H;clear H;have p125:0≤(x7_2:Int):=xGt zzA;have q125:x7_2 < (l0.length:Int):=xGt zzA;obtain⟨ad125,e125,hx125_0⟩:=Kd.at_int HR0.out x7_2 p125 q125;cases e125;replace p125:=xG2 p125;replace q125:=xG2 q125;go_wp2
          go_roundg k2
          case measure=>have:=HK1.out;have:=HK2.out;omega
          case rel=>exact⟨(x10_1),(x7_2),(wrap64 (x10_1+1)),zzS,zzS,zzS,H',⟨zzP⟩,zzD⟩
         ·have c7b0:=xG1 c7;clear c7;have H':=Aside0.mk H;clear H;have p125:0≤(x7_2:Int):=xGt zzA;have q125:x7_2 < (l0.length:Int):=xGt zzA;obtain⟨ad125,e125,hx125_0⟩:=Kd.at_int HR0.out x7_2 p125 q125;cases e125;replace p125:=xG2 p125;replace q125:=xG2 q125;go_wp2
          go_roundg k2
          case measure=>have:=HK1.out;have:=HK2.out;omega
          case rel=>exact⟨(x4_1),(x5_1),(wrap64 (x10_1+1)),zzS,zzS,zzS,H',⟨zzP⟩,zzD⟩
        ·have c6b0:=xG1 c6;clear c6;have H':=Aside0.mk H;clear H;have p125:0≤(x7_2:Int):=xGt zzA;have q125:x7_2 < (l0.length:Int):=xGt zzA;obtain⟨ad125,e125,hx125_0⟩:=Kd.at_int HR0.out x7_2 p125 q125;cases e125;replace p125:=xG2 p125;replace q125:=xG2 q125;go_wp2
         go_roundg k2
         case measure=>have:=HK1.out;have:=HK2.out;omega
         case rel=>exact⟨(x4_1),(x5_1),(wrap64 (x10_1+1)),zzS,zzS,zzS,H',⟨zzP⟩,zzD⟩
      ·have c3b0:=xG1 c3;clear c3
       replace H:=zzC H;rcases H with⟨c8,H⟩|⟨c8,H⟩
       ·have c8b0:=xGx c8;clear c8
        replace H:=zzC H;rcases H with⟨c9,H⟩|⟨c9,H⟩
        ·have c9b0:=xGx c9;clear c9;have H':=Aside0.mk H;clear H;go_wp2
         go_roundg k2
         case measure=>have:=HK1.out;have:=HK2.out;omega
         case rel=>exact⟨(x10_1),(x7_2),(wrap64 (x10_1+1)),zzS,zzS,zzS,H',⟨zzP⟩,zzD⟩
        ·have c9b0:=xG1 c9;clear c9;have H':=Aside0.mk H;clear H;go_wp2
         go_roundg k2
         case measure=>have:=HK1.out;have:=HK2.out;omega
         case rel=>exact⟨(x4_1),(x5_1),(wrap64 (x10_1+1)),zzS,zzS,zzS,H',⟨zzP⟩,zzD⟩
       ·have c8b0:=xG1 c8;clear c8;have H':=Aside0.mk H;clear H;go_wp2
        go_roundg k2
        case measure=>have:=HK1.out;have:=HK2.out;omega
        case rel=>exact⟨(x4_1),(x5_1),(wrap64 (x10_1+1)),zzS,zzS,zzS,H',⟨zzP⟩,zzD⟩
   ·have c2b0:=xG1 c2;clear c2;simp only[xGu,xG5] at H;obtain⟨rfl,rfl⟩:=H;go_wp2;go_ret2;exact⟨zzS,zzD⟩
def YU.f (l0:List ByteArray)(a1:ByteArray):Option (ByteArray):=if(zNe l0 a1).size≤140737488355328∧l0.length≤140737488355328 then some (zNe l0 a1) else none
theorem YU.calls (A0:Option Addr)(c0:Nat)(l0:List ByteArray)(a1:ByteArray)(r:ByteArray)(w:World)(hr0:Kd.C Kd.string w A0 l0.length l0)(hc0:l0.length≤c0)(hG:GoodW w)(h:YU.f l0 a1=some r):
  Calls Tryz.prog 90 #[.slice A0 l0.length c0,.string a1] w fun e w'=>e=.returned (.string r)∧Below w.heap.size w w':=yNg hr0 hc0 h
def Yb0.f (a0:Int)(a1:Int):Option (ByteArray):=yC9 a0 a1
theorem Yb0.calls (a0:Int)(a1:Int)(r:ByteArray)(w:World)(hG:GoodW w)(h:Yb0.f a0 a1=some r):
  Calls Tryz.prog 94 #[.int .u64 a0,.int .i64 a1] w fun e w'=>e=.returned (.string r)∧Below w.heap.size w w':=by exact ySf hG h
def YQ.l0:Nat→List ByteArray→List Int→Int→Int→Option (ByteArray)
 |0,_,_,_,_=>none
 |k+1,x3,x6,x7,x8=>if x8 < x7 then(if 0≤x8 then(if x8 < (x6.length:Int) then((Yb0.f (rd x6 x8) 16).bind fun t127=>(if x3.length < 8796093022208 then(YQ.l0 k (x3++[t127]) x6 x7 (wrap64 (x8+1))) else(none))) else(none)) else(none)) else((YU.f x3 (⟨#[58]⟩:ByteArray)).bind fun t131=>(some t131))
def YQ.f (k:Nat)(l0:List Int):Option (ByteArray):=YQ.l0 k ([]:List ByteArray) l0 (l0.length:Int) 0
set_option maxRecDepth 100000 in
theorem YQ.calls (k:Nat)(A0:Option Addr)(c0:Nat)(l0:List Int)(r:ByteArray)(w:World)(hr0:Kd.C (Kd.int .u64) w A0 l0.length l0)(hc0:l0.length≤c0)(hG:GoodW w)(h:YQ.f k l0=some r):
  Calls Tryz.prog 93 #[.slice A0 l0.length c0] w fun e w'=>e=.returned (.string r)∧Below w.heap.size w w':=by
 have HR0:=Aside0.mk hr0;have HC0:=Aside0.mk hc0;clear hr0 hc0;have HB:=Aside0.mk (Below.refl w.heap.size w);have H:=h;unfold YQ.f at H;clear h;have H':=Aside0.mk H;clear H;go_enter Tryz.func93,Tryz.ntmps93;go_wp2
 go_loopg [3,8] k (fun kq v3 v8 w'=>∃ (x3_1:List ByteArray) (x8_1:Int),v8=.int .i64 x8_1∧Aside0 (YQ.l0 kq x3_1 l0 (l0.length:Int) x8_1=some r)∧Aside0 (kq≤k)∧Aside0 (Kd.R Kd.string 9 w' w.heap.size (fun _=>True) v3 x3_1)∧Aside0 (Below w.heap.size w w'))
 case atStart=>exact⟨(([]:List ByteArray)),(0),zzS,H',⟨xGv _⟩,⟨zzN⟩,⟨zzB⟩⟩
 case round=>
  clear H';obtain⟨x3_1,x8_1,rfl,HA,HK1,HO_3,HB⟩:=hrel
  cases gk with
  |zero=>exact absurd HA.out (by simp[YQ.l0])
  |succ k1=>
   have H:=HA.out;clear HA;simp only[YQ.l0] at H
   replace H:=zzC H;rcases H with⟨c2,H⟩|⟨c2,H⟩
   ·have c2b0:=xGx c2;clear c2
    replace H:=zzJ H;obtain⟨c3b0,H⟩:=H
    replace H:=zzJ H;obtain⟨c4b0,H⟩:=H;replace H:=zzW H;obtain⟨t127,A5,H⟩:=H;(try dsimp only at H)
    have c6:=zzI H;rw[xGq c6] at H;have LMc6:=Aside0.mk c6;clear c6;obtain⟨y128,hy128⟩:∃ y_:List ByteArray,y_=(x3_1++[t127]):=⟨_,rfl⟩
    replace H:(YQ.l0 k1 y128 l0 (l0.length:Int) (wrap64 (x8_1+1)))=some r:=by first|(rw[hy128];with_reducible exact H)|(have H2_:=(xGp _ _).symm.trans H;rw[hy128];with_reducible exact H2_)|(have H2_:=(xGp _ _).symm.trans H;with_reducible exact H2_)|with_reducible exact H|(rw[hy128];exact H)|exact H
    have Ny128:=Aside0.mk hy128;clear hy128;have H':=Aside0.mk H;clear H;have p126:0≤(x8_1:Int):=xGt zzA;have q126:x8_1 < (l0.length:Int):=xGt zzA;obtain⟨ad126,e126,hx126_0⟩:=Kd.at_int HR0.out x8_1 p126 q126;cases e126;replace hx126_0:=(HB.out.cell (World.block_lt_of_cell? w _ hx126_0)).trans hx126_0;replace p126:=xG2 p126;replace q126:=xG2 q126
    go_wp2_with (first|((with_reducible refine zAu (f:=94) rfl ?_);refine zCj (some 14) rfl rfl Tryz.func94 (by kernel_rfl) rfl #[.int .u64 (rd l0 x8_1),.int .i64 16] rfl zzM ?_;(with_reducible refine(Yb0.calls (rd l0 x8_1) 16 t127 _ ?side1 A5.out).mono ?_);(case side1=>exact zzG);rintro e w7 ⟨rfl,hb⟩;refine⟨_,rfl,?_⟩;have n0_:=Aside0.mk (Kd.R_below (zzR HO_3) hb);have n1_:=Aside0.mk (zAe zzB hb);clear HO_3;clear HB;have HO_3:=n0_;have HB:=n1_;clear n0_ n1_;(try clear hb);)|((with_reducible refine zC0 (b:=.append) (xs:=#[.tmp 12,.tmp 15]) rfl ?_);at_builtin;refine Kd.R_append Kd.string (w0:=w) w.heap.size rfl (.tmp 12) (.tmp 15) 36 9 (.string ⟨#[]⟩) 16 rfl Tryz.underlying36 info9 rfl (by decide) (by omega) u3 x3_1 t127 [.string t127] (fun _=>True) (fun _=>False) rfl rfl ?aP (fun _ hk=>hk.elim) ?aF ?aO ?aB ?aS ?aL ?_;(case aP=>exact rfl);(case aB=>exact zzB);(case aF=>exact(fun _ _=>trivial));(case aO=>exact(zzR HO_3));(case aS=>exact(zAi zzB));(case aL=>have:=LMc6.out;omega);intro v129 w8 ho hb hg hat;rw[← Ny128.out] at ho;have n0_:=Aside0.mk (hb);have n1_:=Aside0.mk (ho);clear HB;clear HO_3;have HB:=n0_;have HO130:=n1_;clear n0_ n1_;clear ho hb hg hat))
    go_roundg k1
    case measure=>have:=HK1.out;omega
    case rel=>exact⟨(y128),(wrap64 (x8_1+1)),zzS,H',⟨by have:=HK1.out;omega⟩,⟨zzR HO130⟩,⟨zzB⟩⟩
   ·have c2b0:=xG1 c2;clear c2;replace H:=zzW H;obtain⟨t131,A9,H⟩:=H;(try dsimp only at H);obtain rfl:=xHc H;obtain⟨Ao10,co10,eo10⟩:=Kd.R_slice HO_3.out;subst eo10
    go_wp2_with (first|((with_reducible refine zAu (f:=90) rfl ?_);refine zCj (some 19) rfl rfl Tryz.func90 (by kernel_rfl) rfl #[.slice Ao10 x3_1.length co10,.string (⟨#[58]⟩:ByteArray)] rfl zzM ?_;(with_reducible refine(YU.calls _ _ x3_1 (⟨#[58]⟩:ByteArray) t131 _ ?side1 ?side2 ?side3 A9.out).mono ?_);(case side1=>repeat (first|exact(Kd.R_reads' HO_3.out).2.2|(with_reducible refine Kd.C_alloc ?_ _)|(with_reducible refine Kd.C_drewN ?_ _)|(with_reducible refine Kd.C_drew ?_)));(case side2=>exact(Kd.R_reads' HO_3.out).2.1);(case side3=>first|exact hG|exact GoodW.below hG zzB|(repeat (first|exact hG|apply GoodW.drewN|apply GoodW.drew)));rintro e w11 ⟨rfl,hb⟩;refine⟨_,rfl,?_⟩;have n0_:=Aside0.mk (Kd.R_below (zzR HO_3) hb);have n1_:=Aside0.mk (zAe zzB hb);clear HO_3;clear HB;have HO_3:=n0_;have HB:=n1_;clear n0_ n1_;(try clear hb)))
    go_ret
    exact⟨zzE,zzB⟩
end Go.Proofs.YtfnacgojmdbjmaaGreatDoor.PPH
namespace Go.Det
def exN:Nat→(List Int→Prop)→Prop
 |0,k=>k []
 |n+1,k=>∃ x:Int,exN n fun l=>k (x::l)
theorem zE0 {k:List Int→Prop}:∀ {n:Nat} {l:List Int},l.length=n→k l→exN n k
 |0,[],_,h=>h
 |n+1,x::t,e,h=>⟨x,zE0 (n:=n) (l:=t) (by simpa using e) h⟩
 |0,_::_,e,_=>by simp at e
 |_+1,[],e,_=>by simp at e
theorem zGo {k:List Int→Prop}:∀ {n:Nat},exN n k→∃ l,l.length=n∧k l
 |0,h=>⟨[],rfl,h⟩
 |n+1,h=>by
  obtain⟨x,h⟩:=h
  obtain⟨l,e,h⟩:=zGo (n:=n) h
  exact⟨x::l,by simp[e],h⟩
def yHw {α:Type}:List α→(α→Prop)→Prop
 |[],_=>False
 |x::t,k=>k x∨yHw t k
theorem zKa {α:Type}{k:α→Prop}:∀ {l:List α},yHw l k→∃ x∈l,k x
 |[],h=>h.elim
 |x::t,h=>by
  rcases h with h|h
  ·exact⟨x,xH1,h⟩
  ·obtain⟨y,h1,h2⟩:=zKa h
   exact⟨y,xIg _ h1,h2⟩
theorem zGp {α:Type}{k:α→Prop}:∀ {l:List α} {x:α},x∈l→k x→yHw l k
 |y::t,x,h,hk=>by
  rcases xG6.1 h with rfl|h
  ·exact .inl hk
  ·exact .inr (zGp h hk)
def Con.readsS {β γ δ:Type}(shapes:List δ)(d:Value→Option β)(dr:List Value→Option γ)(F:List β→γ→Option δ)(enc:δ→Value):Con where
 own:=zNg d dr F enc
 w:=fun args s K=>match args with
  |v::rest=>(match yUd v with
   |true=>(match dr rest with
    |some g=>(match yF3 v with
     |some n=>(match zBr s 1 n v with
      |some x=>(match yFx d x.1 with
       |some l=>yHw shapes fun r=>F l g=some r∧K (enc r) x.2
       |none=>False)
      |none=>False)
     |none=>False)
    |none=>False)
   |false=>False)
  |[]=>False
 ok:=by
  intro args s K h
  unfold zNg
  split at h
  case h_2=>exact h.elim
  split at h
  case h_2=>exact h.elim
  rename_i h1
  split at h
  case h_2=>exact h.elim
  rename_i g h2
  split at h
  case h_2=>exact h.elim
  rename_i n h3
  split at h
  case h_2=>exact h.elim
  rename_i x h4
  split at h
  case h_2=>exact h.elim
  rename_i l h5
  obtain⟨r,hm,hr,hk⟩:=zKa h
  exact⟨enc r,x.2,by simp only[h1,h2,h3,h4,h5,hr],hk,fun K' k=>zGp hm ⟨hr,k⟩⟩
 mono:=by
  intro args s K K' k h
  split at h
  case h_2=>exact h.elim
  split at h
  case h_2=>exact h.elim
  rename_i h1
  split at h
  case h_2=>exact h.elim
  rename_i g h2
  split at h
  case h_2=>exact h.elim
  rename_i n h3
  split at h
  case h_2=>exact h.elim
  rename_i x h4
  split at h
  case h_2=>exact h.elim
  rename_i l h5
  obtain⟨r,hm,hr,hk⟩:=zKa h
  first|exact zGp hm ⟨hr,k _ _ hk⟩|(simp only[*];exact zGp hm ⟨hr,k _ _ hk⟩)
def zVp:List Value→Option (ByteArray×Bool)
 |[.string t,.bool last]=>some (t,last)
 |_=>none
theorem yDf {args:List Value}{a:ByteArray×Bool}(h:zVp args=some a):args=[.string a.1,.bool a.2]:=by
 unfold zVp at h
 split at h
 case h_2=>cases h
 cases h;rfl
def zRb (F:ByteArray×Bool→Option (List Int×Bool))(e:TypeId)(args:List Value)(s:St):Option (Value×St):=
 match zVp args with
 |some a=>(match F a with
  |some r=>(match a.1.data.toList with
   |[]=>some (.tuple #[.slice none 0 0,.bool r.2],s)
   |_::_=>(match r.1 with
    |[]=>some (.tuple #[emp,.bool r.2],s)
    |_::_=>some (.tuple #[.slice (some ⟨s.next,0,none⟩) r.1.length (zBa+1),.bool r.2],s.new (.cells (r.1.map (Value.int .u64)) (2 * e) false))))
  |none=>none)
 |none=>none
theorem yNl (F:ByteArray×Bool→Option (List Int×Bool))(e:TypeId)(args:List Value):Tr (zRb F e args):=by
 cases h1:zVp args with
 |none=>exact zBe none fun s=>by unfold zRb;simp only[h1]
 |some a=>
  cases h2:F a with
  |none=>exact zBe none fun s=>by unfold zRb;simp only[h1,h2]
  |some r=>
   cases h3:a.1.data.toList with
   |nil=>exact zBe (some (.tuple #[.slice none 0 0,.bool r.2])) fun s=>by unfold zRb;simp only[h1,h2,h3]
   |cons x t=>
    cases h4:r.1 with
    |nil=>exact zBe (some (.tuple #[emp,.bool r.2])) fun s=>by unfold zRb;simp only[h1,h2,h3,h4]
    |cons y u=>exact zI2 (some (Blk.cells (r.1.map (Value.int .u64)) (2 * e) false,fun k=>.tuple #[.slice (some ⟨k,0,none⟩) r.1.length (zBa+1),.bool r.2])) fun s=>by unfold zRb;simp only[h1,h2,h3,h4]
def Con.rowS (F:ByteArray×Bool→Option (List Int×Bool))(e:TypeId)(h t:Nat):Con where
 own:=zRb F e
 w:=fun args s K=>match zVp args with
  |some a=>(match(match a.2 with|true=>t|false=>h) with
   |0=>a.1.data.toList=[]∧(F a=some ([],true)∧K (.tuple #[.slice none 0 0,.bool true]) s)
   |n+1=>a.1.data.toList≠[]∧exN (n+1) fun l=>F a=some (l,true)∧K (.tuple #[.slice (some ⟨s.next,0,none⟩) (n+1) (zBa+1),.bool true]) (s.new (.cells (l.map (Value.int .u64)) (2 * e) false)))
  |none=>False
 ok:=by
  intro args s K h
  unfold zRb
  split at h
  case h_2=>exact h.elim
  rename_i a h1
  split at h
  ·rename_i hn
   obtain⟨h2,h3,hk⟩:=h
   exact⟨_,_,by simp only[h1,h3,h2],hk,fun K' k=>by(try simp only[h1,hn]);exact⟨h2,h3,k⟩⟩
  ·rename_i n hn
   obtain⟨h2,h⟩:=h
   obtain⟨l,hl,h3,hk⟩:=zGo h
   cases hl2:a.1.data.toList with
   |nil=>exact absurd hl2 h2
   |cons x u=>
    cases l with
    |nil=>simp at hl
    |cons y v=>
     refine⟨_,_,by simp only[h1,h3,hl2];rfl,by rw[hl];exact hk,fun K' k=>?_⟩
     rw[hl] at k
     try simp only[h1,hn]
     exact⟨by simp,zE0 hl ⟨h3,k⟩⟩
 mono:=by
  intro args s K K' k h
  split at h
  case h_2=>exact h.elim
  rename_i a h1
  split at h
  ·rename_i hn
   try simp only[h1,hn]
   exact⟨h.1,h.2.1,k _ _ h.2.2⟩
  ·rename_i n hn
   obtain⟨h2,h⟩:=h
   obtain⟨l,hl,h3,hk⟩:=zGo h
   try simp only[h1,hn]
   exact⟨h2,zE0 hl ⟨h3,k _ _ hk⟩⟩
def Con.rowB (F:ByteArray×Bool→Option (List Int×Bool))(e:TypeId):Con where
 own:=zRb F e
 w:=fun args s K=>match zVp args with
  |some a=>∃ r:List Int×Bool,F a=some r∧((a.1.data.toList=[]∧K (.tuple #[.slice none 0 0,.bool r.2]) s)∨((a.1.data.toList≠[]∧(r.1=[]∧K (.tuple #[emp,.bool r.2]) s))∨(a.1.data.toList≠[]∧(r.1≠[]∧K (.tuple #[.slice (some ⟨s.next,0,none⟩) r.1.length (zBa+1),.bool r.2]) (s.new (.cells (r.1.map (Value.int .u64)) (2 * e) false))))))
  |none=>False
 ok:=by
  intro args s K h
  unfold zRb
  split at h
  case h_2=>exact h.elim
  rename_i a h1
  obtain⟨r,h2,h|h|h⟩:=h
  ·exact⟨_,_,by simp only[h1,h2,h.1],h.2,fun K' k=>by(try simp only[h1]);exact⟨r,h2,.inl ⟨h.1,k⟩⟩⟩
  ·cases hl:a.1.data.toList with
   |nil=>exact absurd hl h.1
   |cons x t=>exact⟨_,_,by simp only[h1,h2,hl,h.2.1],h.2.2,fun K' k=>by(try simp only[h1]);exact⟨r,h2,.inr (.inl ⟨by simp,h.2.1,k⟩)⟩⟩
  ·cases hl:a.1.data.toList with
   |nil=>exact absurd hl h.1
   |cons x t=>cases hr:r.1 with
    |nil=>exact absurd hr h.2.1
    |cons y u=>
     refine⟨_,_,by simp only[h1,h2,hl,hr];rfl,by rw[← hr];exact h.2.2,fun K' k=>?_⟩
     rw[← hr] at k
     try simp only[h1]
     exact⟨r,h2,.inr (.inr ⟨by simp,h.2.1,k⟩)⟩
 mono:=by
  intro args s K K' k h
  split at h
  case h_2=>exact h.elim
  rename_i a h1
  obtain⟨r,h2,h|h|h⟩:=h
  ·(try simp only[h1]);exact⟨r,h2,.inl ⟨h.1,k _ _ h.2⟩⟩
  ·(try simp only[h1]);exact⟨r,h2,.inr (.inl ⟨h.1,h.2.1,k _ _ h.2.2⟩)⟩
  ·(try simp only[h1]);exact⟨r,h2,.inr (.inr ⟨h.1,h.2.1,k _ _ h.2.2⟩)⟩
theorem zW9 {P:Program}{W:World}{G:Nat}{Gd:World→Prop}{f:FuncId}{fn:Func}{c:Code}{F:ByteArray×Bool→Option (List Int×Bool)}{e:TypeId}{g:Own}
  (hW:∀ w,Later W w→Gd w) (hf:P.funcs[f]?=some fn) (hb:fn.body=some c) (hnm:(fn.name== "runtime.NumGoroutine")=false)
  (hE:zAk P W G f g) (hg:∀ last r s,F (⟨⟨[]⟩⟩,last)=some r→g [.string ⟨⟨[]⟩⟩,.bool last] s=some (.tuple #[.slice none 0 0,.bool r.2],s))
  (h:∀ t last r,F (t,last)=some r→∀ w,Gd w→Calls P f #[.string t,.bool last] w fun z w'=>∃ v,z=.returned (.tuple #[v,.bool r.2])∧(w'.os=w.os∧w'.tape=w.tape∧w'.output=w.output∧w.heap.size≤w'.heap.size∧∀ j,j < w.heap.size→w'.heap[j]?=w.heap[j]?)∧w'.ownsRow w.heap.size e 1 v r.1.length (r.1.map (Value.int .u64))):
  zAk P W G f (zRb F e):=by
 refine⟨yNl F e,fun W1 k1 args s v s' ed φ w args' H hGl hA hfr hfull=>?_⟩
 unfold zRb at ed
 split at ed
 case h_2=>cases ed
 rename_i a h1
 obtain rfl:=yDf h1
 split at ed
 case h_2=>cases ed
 rename_i r h2
 obtain⟨t,last⟩:=a
 split at ed
 ·rename_i h3
  cases ed
  have ht:t=⟨⟨[]⟩⟩:=by
   obtain⟨⟨l⟩⟩:=t
   have:l=[]:=h3
   rw[this]
  subst ht
  exact hE.2 W1 k1 _ _ _ _ (hg last r s h2) φ w args' H hGl hA hfr hfull
 ·have kw:Later W w:=k1.trans H.later
  rw[zB5 (show zCo [.string t,.bool last]=true from rfl) hA,zBg hf hb hnm]
  have hc:=h t last r h2 w (hW w kw)
  split at ed
  ·rename_i h4
   cases ed
   refine Calls.mono hc ?_
   rintro z W' ⟨v,rfl,hB,hl,ho⟩
   refine⟨_,φ,rfl,Ext.refl _ _ _,VR.tuple_of ⟨rfl,fun i=>?_⟩,H.keep ⟨hB.1,hB.2.2.1,hB.2.2.2.1,hB.2.2.2.2⟩ hB.2.1⟩
   match i with
   |0=>
    rw[h4] at ho
    rcases ho with⟨rfl,_⟩|⟨g,cap,cur,rfl,_⟩
    ·exact VR.emp none 0 (by intro x hx;cases hx)
    ·exact VR.emp _ cap (by intro x hx;cases hx;rfl)
   |1=>exact VR.bool _
   |n+2=>exact VR.any _
  ·rename_i x u h4
   cases ed
   refine Calls.mono hc ?_
   rintro z W' ⟨v,rfl,hB,hl,ho⟩
   rcases ho with⟨_,ho⟩|⟨g,cap,cur,rfl,hg',hblk,hcap,_,hsz,hcur⟩
   ·rw[h4] at ho;simp at ho
   have hnew:φ s.next=none:=hfr s.next (xGv _) (by show s.next < Nat.max s.hi (s.next+1);exact xHd (xHw _) (xIy _ _))
   rw[Nat.mul_one] at hsz hl hcur
   refine⟨_,upd φ s.next (g,0,cur.size),rfl,Ext.upd hnew _,VR.tuple_of ⟨rfl,fun i=>?_⟩,?_⟩
   ·match i with
    |0=>exact VR.sliceU (φ:=upd φ s.next (g,0,cur.size)) s.next 0 g 0 cur.size r.1.length cap 1 (zBd _ _ _) (by decide) (by omega) hcap
    |1=>exact VR.bool _
    |n+2=>exact VR.any _
   ·refine H.adopt (w':=W') hnew hB.1 hB.2.2.1 hB.2.1 hB.2.2.2.1 (fun j hj _=>hB.2.2.2.2 j hj) (xHf H.size hg') (fz:=(0,0)) (c:=cur) (by rw[zSa];exact hblk) (fun _=>rfl) ?_ rfl ?_ (fun i hi=>?_) (fun _ o _=>by simp) (fun O q=>by rw[xIb hg'] at q;cases q)
    ·intro j cj ej rj bj sj zj _ a'
     have:=H.dom _ _ _ _ a'
     omega
    ·rw[hl,hsz];omega
    ·have hv:(r.1.map (Value.int .u64)).getD i und=cur.getD i und:=by
      rw[← hcur,xGw,xHb,xIh,xGq (by rw[← hl];exact hi)]
      simp
     rw[xIz,hv]
     refine zCp ?_ _
     rw[← hv,xGw,xGz hi]
     have hm:=xH3 hi
     obtain⟨y,_,hy⟩:=xJb.1 hm
     simp only[Option.getD_some]
     rw[← hy];rfl
end Go.Det
namespace Go.Proofs.YtfnacgojmdbjmaaGreatDoor
open Go.Det Go.RowKit  Go.Proofs.ZW
theorem vr0 (l:Bool)(Q:Value→Prop):zBj Tryz.prog (cwC []) ox0 0 (zAa Tryz.f102) (zAg [.string ⟨⟨[]⟩⟩,.bool l] 8) (zAh [] 64) (zA2 Tryz.prog Tryz.f102 fun v _=>Q v)=(zAd (zAf (Array.toList (ByteArray.data { data:={ toList:=[] } })=Array.toList (ByteArray.data { data:=#[] }))) (Q (Value.tuple #[Value.slice Option.none 0 0,Value.bool Bool.true])) (False)):=by kernel_rfl
end Go.Proofs.YtfnacgojmdbjmaaGreatDoor
namespace Go.Proofs.YtfnacgojmdbjmaaGreatDoor
open Go.Det Go.RowKit Go.Proofs.ZW PPH
theorem zLk {α:Type}{R:α→List Value→Prop}{enc:α→Value}(hR:∀ p c,R p c→c=[enc p]):∀ {ps:List α} {cs:List Value},Reps R 1 ps cs→cs=ps.map enc
 |[],cs,h=>by
  have:=h.1
  simp at this
  simpa using this
 |x::t,cs,h=>by
  have h0:=hR _ _ (h.2 0 x rfl)
  rw[Nat.zero_mul,xIm] at h0
  have ht:Reps R 1 t (cs.drop 1):=by
   refine⟨by rw[xHt,h.1,xG4,Nat.succ_mul];omega,fun j p hj=>?_⟩
   have:=h.2 (j+1) p (by simpa using hj)
   rw[List.drop_drop,show 1+j * 1=(j+1) * 1 by omega]
   exact this
  rw[xHx,← zLk hR ht]
  conv=>lhs;rw[← List.take_append_drop 1 cs,h0]
  rfl
def zBi (x:ByteArray×Bool):Option (List Int×Bool):=Yg.f 1000 x.1 x.2
def yUe:List Value→Option Bool
 |[.string ⟨⟨[]⟩⟩,.bool l]=>some l
 |_=>none
theorem zXa {args:List Value}{a:Bool}(h:yUe args=some a):args=[.string ⟨⟨[]⟩⟩,.bool a]:=by
 unfold yUe at h
 split at h
 case h_2=>cases h
 cases h;rfl
def conD75e:Con:=Con.flat yUe (fun _=>true) fun _=>.tuple #[.slice none 0 0,.bool true]
theorem ySi {W:World}(hW:GoodW W):zAk Tryz.prog W 6 102 conD75e.own:=
 zQx (fun l:Bool=>[.string ⟨⟨[]⟩⟩,.bool l]) (Laying.empty hW.size) hW.size (by decide) zAl (l:=[]) (zAb W 6) Tryz.func102 (fn:=Tryz.f102) (c:=zAa Tryz.f102) (by kernel_rfl) (by kernel_rfl) (fun _ _ h=>zXa h) (fun a=>⟨rfl,rfl,(by kernel_rfl)⟩) fun a _=>
  zAs (zAp _) zFd (by kernel_rfl) ((vr0 a _).mpr (zW0 rfl rfl))
theorem yYe {l:Bool}{r:List Int×Bool}(h:zBi (⟨⟨[]⟩⟩,l)=some r):r=([],true):=by
 unfold zBi Yg.f at h
 rw[xGq (show ByteArray.toList ⟨⟨[]⟩⟩=[] by rw[ByteArray.toList_eq])] at h
 cases h;rfl
theorem yV1 {W:World}(hW:GoodW W):zAk Tryz.prog W 6 102 (zRb zBi 23):=
 zW9 (fn:=Tryz.f102) (c:=zAa Tryz.f102) (Gd:=GoodW) (g:=conD75e.own) (fun w k=>hW.later k.size k.old) Tryz.func102 (by kernel_rfl) (by kernel_rfl) (ySi hW)
  (fun last r s h=>by cases yYe h;rfl)
  fun t last r h w hG=>(Yg.calls 1000 t last r.1 r.2 w hG h).mono (by
   rintro e w' ⟨v,rfl,hR,hB⟩
   obtain⟨_,inner,ho,hreps⟩:=hR
   obtain rfl:=zLk (enc:=Value.int .u64) (fun p c h=>h) hreps
   exact⟨v,rfl,⟨hB.os,hB.tape,hB.output,hB.size,hB.block⟩,ho⟩)
def ySj (h t:Nat):Con:=Con.rowS zBi 23 h t
def yNm:Con:=Con.rowB zBi 23
def dU:Value→Option Int
 |.int .u64 n=>some n
 |_=>none
def dNo:List Value→Option Unit
 |[]=>some ()
 |_=>none
theorem yJl {v:Value}{b:Int}(h:dU v=some b):v=.int .u64 b:=by
 unfold dU at h
 split at h
 ·cases h;rfl
 ·cases h
theorem yDg {r:List Value}{g:Unit}(h:dNo r=some g):r=[]:=by
 unfold dNo at h
 split at h
 ·rfl
 ·cases h
theorem zTq {w:World}{A:Option Addr}{l:List Int}(hl:l.length≤9223372036854775807)(h:yC5 (Value.int .u64) w A l):Kd.C (Kd.int .u64) w A l.length l:=by
 refine⟨rfl,hl,fun h0=>?_⟩
 rcases h with rfl|⟨b,o,rfl,h⟩
 ·simp at h0
 refine⟨_,rfl,fun j p hj=>⟨[.int .u64 p],rfl,rfl,fun i u hu=>?_⟩⟩
 match i,hu with
 |0,hu=>
  cases hu
  have:=h j p hj
  unfold Addr.add
  split
  ·rename_i q
   have:j=0:=by simpa [Kd.int,Kd.scalar] using q
   subst this;simpa using ‹w.cell? _=_›
  ·simpa [Kd.int,Kd.scalar] using this
 |i+1,hu=>simp at hu
def zGu (l:List Int)(_:Unit):Option (Int×Int):=if l.length≤8 then Yn.f 300 l else none
def zNl (l:List Int)(_:Unit):Option ByteArray:=if l.length≤8 then YQ.f 300 l else none
def yYf (y:Int×Int):Value:=.tuple #[.int .i64 y.1,.int .i64 y.2]
def enS (y:ByteArray):Value:=.string y
theorem yV2 {W:World}(hW:GoodW W):zAk Tryz.prog W 6 92 (zNg dU dNo zGu yYf):=
 own_reads (fn:=Tryz.f92) (c:=zAa Tryz.f92) (e:=Value.int .u64) (er:=fun _=>[]) (Gd:=GoodW) (fun w k=>hW.later k.size k.old) Tryz.func92 (by kernel_rfl) (by kernel_rfl) (fun v b h=>yJl h) (fun b=>⟨rfl,by intro h;cases h⟩) (fun r g h=>yDg h) (fun _=>rfl) fun l g r hF=>⟨rfl,(by intro h;cases h),fun w A c hG hc hR=>by
  unfold zGu at hF
  split at hF
  case isFalse=>cases hF
  rename_i hl
  refine(Yn.calls 300 A c l r.1 r.2 w (zTq (by omega) hR) hc hG hF).mono ?_
  rintro e w' ⟨rfl,hB⟩
  have hB:=hB.below
  exact⟨rfl,hB.os,hB.tape,hB.output,hB.size,hB.block⟩⟩
theorem yV3 {W:World}(hW:GoodW W):zAk Tryz.prog W 6 93 (zNg dU dNo zNl enS):=
 own_reads (fn:=Tryz.f93) (c:=zAa Tryz.f93) (e:=Value.int .u64) (er:=fun _=>[]) (Gd:=GoodW) (fun w k=>hW.later k.size k.old) Tryz.func93 (by kernel_rfl) (by kernel_rfl) (fun v b h=>yJl h) (fun b=>⟨rfl,by intro h;cases h⟩) (fun r g h=>yDg h) (fun _=>rfl) fun l g r hF=>⟨rfl,(by intro h;cases h),fun w A c hG hc hR=>by
  unfold zNl at hF
  split at hF
  case isFalse=>cases hF
  rename_i hl
  refine(YQ.calls 300 A c l r w (zTq (by omega) hR) hc hG hF).mono ?_
  rintro e w' ⟨rfl,hB⟩
  exact⟨rfl,hB.os,hB.tape,hB.output,hB.size,hB.block⟩⟩
def zPq:List (Int×Int):=[(0,0),(0,2),(0,3),(0,4),(0,5),(0,6),(0,7),(0,8),(1,3),(1,4),(1,5),(1,6),(1,7),(1,8),(2,4),(2,5),(2,6),(2,7),(2,8),(3,5),(3,6),(3,7),(3,8),(4,6),(4,7),(4,8),(5,7),(5,8),(6,8)]
def yJm:Con:=Con.readsS zPq dU dNo zGu yYf
def yJn:Con:=Con.reads dU dNo zNl enS
def zVq (b:Bool):Con where
 own:=conD60.own
 w:=fun args s K=>match yC7 args with
  |some a=>∃ x y:ByteArray,zDg a.1 a.2=some (x,y,b)∧K (.tuple #[.string x,.string y,.bool b]) s
  |none=>False
 ok:=by
  intro args s K h
  split at h
  ·rename_i a ha
   obtain⟨x,y,h,hk⟩:=h
   exact⟨.tuple #[.string x,.string y,.bool b],s,by unfold conD60 Con.opt zCz;simp only[ha,h],hk,fun K' k=>⟨x,y,h,k⟩⟩
  ·exact h.elim
 mono:=by
  intro args s K K' k h
  split at h
  ·obtain⟨x,y,h,hk⟩:=h
   exact⟨x,y,h,k _ _ hk⟩
  ·exact h.elim
def zAy (h t:Nat):List (Nat×Con):=[(59,zVq true),(102,ySj h t)]
def zZq (b:Bool):List (Nat×Con):=[(59,zVq b),(102,yNm)]
def yNn:Con where
 own:=zRb zBi 23
 w:=fun args s K=>match zVp args with
  |some a=>(a.1.data.toList=[]∧(zBi a=some ([],true)∧K (.tuple #[.slice none 0 0,.bool true]) s))∨(a.1.data.toList≠[]∧exN 8 fun l=>zBi a=some (l,true)∧K (.tuple #[.slice (some ⟨s.next,0,none⟩) 8 (zBa+1),.bool true]) (s.new (.cells (l.map (Value.int .u64)) (2 * 23) false)))
  |none=>False
 ok:=by
  intro args s K h
  split at h
  case h_2=>exact h.elim
  rename_i a ha
  rcases h with⟨h2,h3,hk⟩|⟨h2,h⟩
  ·refine⟨_,_,by unfold zRb;simp only[ha,h3,h2],hk,fun K' k=>.inl ⟨h2,h3,k⟩⟩
  ·obtain⟨l,hl,h3,hk⟩:=zGo h
   cases hl2:a.1.data.toList with
   |nil=>exact absurd hl2 h2
   |cons x u=>
    cases l with
    |nil=>simp at hl
    |cons y v=>
     refine⟨_,_,by unfold zRb;simp only[ha,h3,hl2];rfl,by rw[hl];exact hk,fun K' k=>?_⟩
     rw[hl] at k
     exact .inr ⟨by simp,zE0 hl ⟨h3,k⟩⟩
 mono:=by
  intro args s K K' k h
  split at h
  case h_2=>exact h.elim
  rename_i a ha
  rcases h with⟨h2,h3,hk⟩|⟨h2,h⟩
  ·exact .inl ⟨h2,h3,k _ _ hk⟩
  ·obtain⟨l,hl,h3,hk⟩:=zGo h
   exact .inr ⟨h2,zE0 hl ⟨h3,k _ _ hk⟩⟩
def yNo:List (Nat×Con):=[(59,zVq false),(102,yNn)]
end Go.Proofs.YtfnacgojmdbjmaaGreatDoor
namespace Go.Proofs.YtfnacgojmdbjmaaGreatDoor
open Go.Det Go.RowKit  Go.Proofs.ZW
abbrev z0:Value:=.tuple #[.agg #[.int .i64 0,.int .u64 0,.int .u64 0],.bool false]
abbrev zw (a b c d:Int):Int:=orI .u64 (zE2 .u64 (orI .u64 (zE2 .u64 (orI .u64 (zE2 .u64 (orI .u64 (zE2 .u64 0 16) a) 16) b) 16) c) 16) d
abbrev z6 (a b c d e f g h:Int):Value:=.tuple #[.agg #[.int .i64 6,.int .u64 (zw a b c d),.int .u64 (zw e f g h)],.bool true]
abbrev zt (p:Prop):Prop:=true=true∧(true=true∧(true=true∧p))
abbrev zr (p:Prop):Prop:=(((0:Int)≤16)∧((((0:Int)≤0)∧(0 < (↑8:Int)))∧(((0:Int)≤16)∧((((0:Int)≤4)∧(4 < (↑8:Int)))∧((true=true)∧(((0:Int)≤16)∧((((0:Int)≤1)∧(1 < (↑8:Int)))∧(((0:Int)≤16)∧((((0:Int)≤5)∧(5 < (↑8:Int)))∧((true=true)∧(((0:Int)≤16)∧((((0:Int)≤2)∧(2 < (↑8:Int)))∧(((0:Int)≤16)∧((((0:Int)≤6)∧(6 < (↑8:Int)))∧((true=true)∧(((0:Int)≤16)∧((((0:Int)≤3)∧(3 < (↑8:Int)))∧(((0:Int)≤16)∧((((0:Int)≤7)∧(7 < (↑8:Int)))∧((true=true)∧p))))))))))))))))))))
abbrev zb (s:ByteArray)(Q:Value→Prop)(p:Prop):Prop:=zAd (zAf (s.data.toList=Array.toList (ByteArray.data { data:=#[] }))) (Q z0) p
abbrev zc (a b:Bool)(Q:Value→Prop)(p:Prop):Prop:=zAd (!a) (Q z0) (zAd (!b) (Q z0) p)
abbrev zS (l:List (Nat×Con))(s:ByteArray)(Q:Value→Prop):Prop:=zBj Tryz.prog (cwC l) (oxE [51,59,68,76]) 9 (zAa Tryz.f85) (zAg [.string s] 8) (zAh [] 64) (zA2 Tryz.prog Tryz.f85 fun v _=>Q v)
theorem xAs (s:ByteArray)(Q:Value→Prop):zS (zAy 0 1) s Q=((∃ x0:ByteArray,(∃ x1:ByteArray,((zDg s { data:=#[58,58] }=some (x0,x1,true))∧((x0.data.toList=[])∧((zBi (x0,!true)=some ([],true))∧((x1.data.toList≠[])∧(∃ x2:Int,((zBi (x1,true)=some ([x2],true))∧zb s Q ((zt ((zt ((zt (((true=true)∧zr (Q (z6 0 0 0 0 0 0 0 x2))))))))))))))))))):=by kernel_rfl
theorem xAt (s:ByteArray)(Q:Value→Prop):zS (zAy 0 3) s Q=((∃ x0:ByteArray,(∃ x1:ByteArray,((zDg s { data:=#[58,58] }=some (x0,x1,true))∧((x0.data.toList=[])∧((zBi (x0,!true)=some ([],true))∧((x1.data.toList≠[])∧(∃ x2:Int,(∃ x3:Int,(∃ x4:Int,((zBi (x1,true)=some ([x2,x3,x4],true))∧zb s Q ((zt ((zt (((true=true)∧((true=true)∧zr (Q (z6 0 0 0 0 0 x2 x3 x4)))))))))))))))))))):=by kernel_rfl
theorem xAu (s:ByteArray)(Q:Value→Prop):zS (zAy 0 5) s Q=((∃ x0:ByteArray,(∃ x1:ByteArray,((zDg s { data:=#[58,58] }=some (x0,x1,true))∧((x0.data.toList=[])∧((zBi (x0,!true)=some ([],true))∧((x1.data.toList≠[])∧(∃ x2:Int,(∃ x3:Int,(∃ x4:Int,(∃ x5:Int,(∃ x6:Int,((zBi (x1,true)=some ([x2,x3,x4,x5,x6],true))∧zb s Q ((zt ((zt (zr (Q (z6 0 0 0 x2 x3 x4 x5 x6)))))))))))))))))))):=by kernel_rfl
theorem xAv (s:ByteArray)(Q:Value→Prop):zS (zAy 0 7) s Q=((∃ x0:ByteArray,(∃ x1:ByteArray,((zDg s { data:=#[58,58] }=some (x0,x1,true))∧((x0.data.toList=[])∧((zBi (x0,!true)=some ([],true))∧((x1.data.toList≠[])∧(∃ x2:Int,(∃ x3:Int,(∃ x4:Int,(∃ x5:Int,(∃ x6:Int,(∃ x7:Int,(∃ x8:Int,((zBi (x1,true)=some ([x2,x3,x4,x5,x6,x7,x8],true))∧zb s Q ((zt (((true=true)∧zr (Q (z6 0 x2 x3 x4 x5 x6 x7 x8))))))))))))))))))))):=by kernel_rfl
theorem xAw (s:ByteArray)(Q:Value→Prop):zS (zAy 1 1) s Q=((∃ x0:ByteArray,(∃ x1:ByteArray,((zDg s { data:=#[58,58] }=some (x0,x1,true))∧((x0.data.toList≠[])∧(∃ x2:Int,((zBi (x0,!true)=some ([x2],true))∧((x1.data.toList≠[])∧(∃ x3:Int,((zBi (x1,true)=some ([x3],true))∧zb s Q ((zt ((zt ((zt (zr (Q (z6 x2 0 0 0 0 0 0 x3))))))))))))))))))):=by kernel_rfl
theorem xAx (s:ByteArray)(Q:Value→Prop):zS (zAy 1 3) s Q=((∃ x0:ByteArray,(∃ x1:ByteArray,((zDg s { data:=#[58,58] }=some (x0,x1,true))∧((x0.data.toList≠[])∧(∃ x2:Int,((zBi (x0,!true)=some ([x2],true))∧((x1.data.toList≠[])∧(∃ x3:Int,(∃ x4:Int,(∃ x5:Int,((zBi (x1,true)=some ([x3,x4,x5],true))∧zb s Q ((zt ((zt (((true=true)∧zr (Q (z6 x2 0 0 0 0 x3 x4 x5)))))))))))))))))))):=by kernel_rfl
theorem xAy (s:ByteArray)(Q:Value→Prop):zS (zAy 1 5) s Q=((∃ x0:ByteArray,(∃ x1:ByteArray,((zDg s { data:=#[58,58] }=some (x0,x1,true))∧((x0.data.toList≠[])∧(∃ x2:Int,((zBi (x0,!true)=some ([x2],true))∧((x1.data.toList≠[])∧(∃ x3:Int,(∃ x4:Int,(∃ x5:Int,(∃ x6:Int,(∃ x7:Int,((zBi (x1,true)=some ([x3,x4,x5,x6,x7],true))∧zb s Q ((zt (((true=true)∧((true=true)∧zr (Q (z6 x2 0 0 x3 x4 x5 x6 x7))))))))))))))))))))):=by kernel_rfl
theorem xAz (s:ByteArray)(Q:Value→Prop):zS (zAy 2 0) s Q=((∃ x0:ByteArray,(∃ x1:ByteArray,((zDg s { data:=#[58,58] }=some (x0,x1,true))∧((x0.data.toList≠[])∧(∃ x2:Int,(∃ x3:Int,((zBi (x0,!true)=some ([x2,x3],true))∧((x1.data.toList=[])∧((zBi (x1,true)=some ([],true))∧zb s Q ((zt ((zt ((zt (zr (Q (z6 x2 x3 0 0 0 0 0 0))))))))))))))))))):=by kernel_rfl
theorem xA0 (s:ByteArray)(Q:Value→Prop):zS (zAy 2 2) s Q=((∃ x0:ByteArray,(∃ x1:ByteArray,((zDg s { data:=#[58,58] }=some (x0,x1,true))∧((x0.data.toList≠[])∧(∃ x2:Int,(∃ x3:Int,((zBi (x0,!true)=some ([x2,x3],true))∧((x1.data.toList≠[])∧(∃ x4:Int,(∃ x5:Int,((zBi (x1,true)=some ([x4,x5],true))∧zb s Q ((zt ((zt (((true=true)∧zr (Q (z6 x2 x3 0 0 0 0 x4 x5)))))))))))))))))))):=by kernel_rfl
theorem xA1 (s:ByteArray)(Q:Value→Prop):zS (zAy 2 4) s Q=((∃ x0:ByteArray,(∃ x1:ByteArray,((zDg s { data:=#[58,58] }=some (x0,x1,true))∧((x0.data.toList≠[])∧(∃ x2:Int,(∃ x3:Int,((zBi (x0,!true)=some ([x2,x3],true))∧((x1.data.toList≠[])∧(∃ x4:Int,(∃ x5:Int,(∃ x6:Int,(∃ x7:Int,((zBi (x1,true)=some ([x4,x5,x6,x7],true))∧zb s Q ((zt (((true=true)∧((true=true)∧zr (Q (z6 x2 x3 0 0 x4 x5 x6 x7))))))))))))))))))))):=by kernel_rfl
theorem xA2 (s:ByteArray)(Q:Value→Prop):zS (zAy 3 0) s Q=((∃ x0:ByteArray,(∃ x1:ByteArray,((zDg s { data:=#[58,58] }=some (x0,x1,true))∧((x0.data.toList≠[])∧(∃ x2:Int,(∃ x3:Int,(∃ x4:Int,((zBi (x0,!true)=some ([x2,x3,x4],true))∧((x1.data.toList=[])∧((zBi (x1,true)=some ([],true))∧zb s Q ((zt ((zt (((true=true)∧((true=true)∧zr (Q (z6 x2 x3 x4 0 0 0 0 0)))))))))))))))))))):=by kernel_rfl
theorem xA3 (s:ByteArray)(Q:Value→Prop):zS (zAy 3 2) s Q=((∃ x0:ByteArray,(∃ x1:ByteArray,((zDg s { data:=#[58,58] }=some (x0,x1,true))∧((x0.data.toList≠[])∧(∃ x2:Int,(∃ x3:Int,(∃ x4:Int,((zBi (x0,!true)=some ([x2,x3,x4],true))∧((x1.data.toList≠[])∧(∃ x5:Int,(∃ x6:Int,((zBi (x1,true)=some ([x5,x6],true))∧zb s Q ((zt ((zt (zr (Q (z6 x2 x3 x4 0 0 0 x5 x6)))))))))))))))))))):=by kernel_rfl
theorem xA4 (s:ByteArray)(Q:Value→Prop):zS (zAy 3 4) s Q=((∃ x0:ByteArray,(∃ x1:ByteArray,((zDg s { data:=#[58,58] }=some (x0,x1,true))∧((x0.data.toList≠[])∧(∃ x2:Int,(∃ x3:Int,(∃ x4:Int,((zBi (x0,!true)=some ([x2,x3,x4],true))∧((x1.data.toList≠[])∧(∃ x5:Int,(∃ x6:Int,(∃ x7:Int,(∃ x8:Int,((zBi (x1,true)=some ([x5,x6,x7,x8],true))∧zb s Q ((zt (((true=true)∧zr (Q (z6 x2 x3 x4 0 x5 x6 x7 x8))))))))))))))))))))):=by kernel_rfl
theorem xA5 (s:ByteArray)(Q:Value→Prop):zS (zAy 4 1) s Q=((∃ x0:ByteArray,(∃ x1:ByteArray,((zDg s { data:=#[58,58] }=some (x0,x1,true))∧((x0.data.toList≠[])∧(∃ x2:Int,(∃ x3:Int,(∃ x4:Int,(∃ x5:Int,((zBi (x0,!true)=some ([x2,x3,x4,x5],true))∧((x1.data.toList≠[])∧(∃ x6:Int,((zBi (x1,true)=some ([x6],true))∧zb s Q ((zt ((zt (zr (Q (z6 x2 x3 x4 x5 0 0 0 x6)))))))))))))))))))):=by kernel_rfl
theorem xA6 (s:ByteArray)(Q:Value→Prop):zS (zAy 4 3) s Q=((∃ x0:ByteArray,(∃ x1:ByteArray,((zDg s { data:=#[58,58] }=some (x0,x1,true))∧((x0.data.toList≠[])∧(∃ x2:Int,(∃ x3:Int,(∃ x4:Int,(∃ x5:Int,((zBi (x0,!true)=some ([x2,x3,x4,x5],true))∧((x1.data.toList≠[])∧(∃ x6:Int,(∃ x7:Int,(∃ x8:Int,((zBi (x1,true)=some ([x6,x7,x8],true))∧zb s Q ((zt (((true=true)∧zr (Q (z6 x2 x3 x4 x5 0 x6 x7 x8))))))))))))))))))))):=by kernel_rfl
theorem xA7 (s:ByteArray)(Q:Value→Prop):zS (zAy 5 1) s Q=((∃ x0:ByteArray,(∃ x1:ByteArray,((zDg s { data:=#[58,58] }=some (x0,x1,true))∧((x0.data.toList≠[])∧(∃ x2:Int,(∃ x3:Int,(∃ x4:Int,(∃ x5:Int,(∃ x6:Int,((zBi (x0,!true)=some ([x2,x3,x4,x5,x6],true))∧((x1.data.toList≠[])∧(∃ x7:Int,((zBi (x1,true)=some ([x7],true))∧zb s Q ((zt (((true=true)∧((true=true)∧zr (Q (z6 x2 x3 x4 x5 x6 0 0 x7))))))))))))))))))))):=by kernel_rfl
theorem xA8 (s:ByteArray)(Q:Value→Prop):zS (zAy 6 0) s Q=((∃ x0:ByteArray,(∃ x1:ByteArray,((zDg s { data:=#[58,58] }=some (x0,x1,true))∧((x0.data.toList≠[])∧(∃ x2:Int,(∃ x3:Int,(∃ x4:Int,(∃ x5:Int,(∃ x6:Int,(∃ x7:Int,((zBi (x0,!true)=some ([x2,x3,x4,x5,x6,x7],true))∧((x1.data.toList=[])∧((zBi (x1,true)=some ([],true))∧zb s Q ((zt (((true=true)∧((true=true)∧zr (Q (z6 x2 x3 x4 x5 x6 x7 0 0))))))))))))))))))))):=by kernel_rfl
theorem xA9 (s:ByteArray)(Q:Value→Prop):zS (zAy 7 0) s Q=((∃ x0:ByteArray,(∃ x1:ByteArray,((zDg s { data:=#[58,58] }=some (x0,x1,true))∧((x0.data.toList≠[])∧(∃ x2:Int,(∃ x3:Int,(∃ x4:Int,(∃ x5:Int,(∃ x6:Int,(∃ x7:Int,(∃ x8:Int,((zBi (x0,!true)=some ([x2,x3,x4,x5,x6,x7,x8],true))∧((x1.data.toList=[])∧((zBi (x1,true)=some ([],true))∧zb s Q ((zt (((true=true)∧zr (Q (z6 x2 x3 x4 x5 x6 x7 x8 0))))))))))))))))))))):=by kernel_rfl
theorem xBa (s:ByteArray)(Q:Value→Prop):zS (zAy 0 0) s Q=((∃ x0:ByteArray,(∃ x1:ByteArray,((zDg s { data:=#[58,58] }=some (x0,x1,true))∧((x0.data.toList=[])∧((zBi (x0,!true)=some ([],true))∧((x1.data.toList=[])∧((zBi (x1,true)=some ([],true))∧zb s Q ((zt ((zt ((zt (((true=true)∧((true=true)∧zr (Q (z6 0 0 0 0 0 0 0 0))))))))))))))))))):=by kernel_rfl
theorem xBb (s:ByteArray)(Q:Value→Prop):zS (zAy 0 2) s Q=((∃ x0:ByteArray,(∃ x1:ByteArray,((zDg s { data:=#[58,58] }=some (x0,x1,true))∧((x0.data.toList=[])∧((zBi (x0,!true)=some ([],true))∧((x1.data.toList≠[])∧(∃ x2:Int,(∃ x3:Int,((zBi (x1,true)=some ([x2,x3],true))∧zb s Q ((zt ((zt ((zt (zr (Q (z6 0 0 0 0 0 0 x2 x3))))))))))))))))))):=by kernel_rfl
theorem xBc (s:ByteArray)(Q:Value→Prop):zS (zAy 0 4) s Q=((∃ x0:ByteArray,(∃ x1:ByteArray,((zDg s { data:=#[58,58] }=some (x0,x1,true))∧((x0.data.toList=[])∧((zBi (x0,!true)=some ([],true))∧((x1.data.toList≠[])∧(∃ x2:Int,(∃ x3:Int,(∃ x4:Int,(∃ x5:Int,((zBi (x1,true)=some ([x2,x3,x4,x5],true))∧zb s Q ((zt ((zt (((true=true)∧zr (Q (z6 0 0 0 0 x2 x3 x4 x5)))))))))))))))))))):=by kernel_rfl
theorem xBd (s:ByteArray)(Q:Value→Prop):zS (zAy 0 6) s Q=((∃ x0:ByteArray,(∃ x1:ByteArray,((zDg s { data:=#[58,58] }=some (x0,x1,true))∧((x0.data.toList=[])∧((zBi (x0,!true)=some ([],true))∧((x1.data.toList≠[])∧(∃ x2:Int,(∃ x3:Int,(∃ x4:Int,(∃ x5:Int,(∃ x6:Int,(∃ x7:Int,((zBi (x1,true)=some ([x2,x3,x4,x5,x6,x7],true))∧zb s Q ((zt (((true=true)∧((true=true)∧zr (Q (z6 0 0 x2 x3 x4 x5 x6 x7))))))))))))))))))))):=by kernel_rfl
theorem xBe (s:ByteArray)(Q:Value→Prop):zS (zAy 1 0) s Q=((∃ x0:ByteArray,(∃ x1:ByteArray,((zDg s { data:=#[58,58] }=some (x0,x1,true))∧((x0.data.toList≠[])∧(∃ x2:Int,((zBi (x0,!true)=some ([x2],true))∧((x1.data.toList=[])∧((zBi (x1,true)=some ([],true))∧zb s Q ((zt ((zt ((zt (((true=true)∧zr (Q (z6 x2 0 0 0 0 0 0 0))))))))))))))))))):=by kernel_rfl
theorem xBf (s:ByteArray)(Q:Value→Prop):zS (zAy 1 2) s Q=((∃ x0:ByteArray,(∃ x1:ByteArray,((zDg s { data:=#[58,58] }=some (x0,x1,true))∧((x0.data.toList≠[])∧(∃ x2:Int,((zBi (x0,!true)=some ([x2],true))∧((x1.data.toList≠[])∧(∃ x3:Int,(∃ x4:Int,((zBi (x1,true)=some ([x3,x4],true))∧zb s Q ((zt ((zt (((true=true)∧((true=true)∧zr (Q (z6 x2 0 0 0 0 0 x3 x4)))))))))))))))))))):=by kernel_rfl
theorem xBg (s:ByteArray)(Q:Value→Prop):zS (zAy 1 4) s Q=((∃ x0:ByteArray,(∃ x1:ByteArray,((zDg s { data:=#[58,58] }=some (x0,x1,true))∧((x0.data.toList≠[])∧(∃ x2:Int,((zBi (x0,!true)=some ([x2],true))∧((x1.data.toList≠[])∧(∃ x3:Int,(∃ x4:Int,(∃ x5:Int,(∃ x6:Int,((zBi (x1,true)=some ([x3,x4,x5,x6],true))∧zb s Q ((zt ((zt (zr (Q (z6 x2 0 0 0 x3 x4 x5 x6)))))))))))))))))))):=by kernel_rfl
theorem xBh (s:ByteArray)(Q:Value→Prop):zS (zAy 1 6) s Q=((∃ x0:ByteArray,(∃ x1:ByteArray,((zDg s { data:=#[58,58] }=some (x0,x1,true))∧((x0.data.toList≠[])∧(∃ x2:Int,((zBi (x0,!true)=some ([x2],true))∧((x1.data.toList≠[])∧(∃ x3:Int,(∃ x4:Int,(∃ x5:Int,(∃ x6:Int,(∃ x7:Int,(∃ x8:Int,((zBi (x1,true)=some ([x3,x4,x5,x6,x7,x8],true))∧zb s Q ((zt (((true=true)∧zr (Q (z6 x2 0 x3 x4 x5 x6 x7 x8))))))))))))))))))))):=by kernel_rfl
theorem xBi (s:ByteArray)(Q:Value→Prop):zS (zAy 2 1) s Q=((∃ x0:ByteArray,(∃ x1:ByteArray,((zDg s { data:=#[58,58] }=some (x0,x1,true))∧((x0.data.toList≠[])∧(∃ x2:Int,(∃ x3:Int,((zBi (x0,!true)=some ([x2,x3],true))∧((x1.data.toList≠[])∧(∃ x4:Int,((zBi (x1,true)=some ([x4],true))∧zb s Q ((zt ((zt (((true=true)∧((true=true)∧zr (Q (z6 x2 x3 0 0 0 0 0 x4)))))))))))))))))))):=by kernel_rfl
theorem xBj (s:ByteArray)(Q:Value→Prop):zS (zAy 2 3) s Q=((∃ x0:ByteArray,(∃ x1:ByteArray,((zDg s { data:=#[58,58] }=some (x0,x1,true))∧((x0.data.toList≠[])∧(∃ x2:Int,(∃ x3:Int,((zBi (x0,!true)=some ([x2,x3],true))∧((x1.data.toList≠[])∧(∃ x4:Int,(∃ x5:Int,(∃ x6:Int,((zBi (x1,true)=some ([x4,x5,x6],true))∧zb s Q ((zt ((zt (zr (Q (z6 x2 x3 0 0 0 x4 x5 x6)))))))))))))))))))):=by kernel_rfl
theorem xBk (s:ByteArray)(Q:Value→Prop):zS (zAy 2 5) s Q=((∃ x0:ByteArray,(∃ x1:ByteArray,((zDg s { data:=#[58,58] }=some (x0,x1,true))∧((x0.data.toList≠[])∧(∃ x2:Int,(∃ x3:Int,((zBi (x0,!true)=some ([x2,x3],true))∧((x1.data.toList≠[])∧(∃ x4:Int,(∃ x5:Int,(∃ x6:Int,(∃ x7:Int,(∃ x8:Int,((zBi (x1,true)=some ([x4,x5,x6,x7,x8],true))∧zb s Q ((zt (((true=true)∧zr (Q (z6 x2 x3 0 x4 x5 x6 x7 x8))))))))))))))))))))):=by kernel_rfl
theorem xBl (s:ByteArray)(Q:Value→Prop):zS (zAy 3 1) s Q=((∃ x0:ByteArray,(∃ x1:ByteArray,((zDg s { data:=#[58,58] }=some (x0,x1,true))∧((x0.data.toList≠[])∧(∃ x2:Int,(∃ x3:Int,(∃ x4:Int,((zBi (x0,!true)=some ([x2,x3,x4],true))∧((x1.data.toList≠[])∧(∃ x5:Int,((zBi (x1,true)=some ([x5],true))∧zb s Q ((zt ((zt (((true=true)∧zr (Q (z6 x2 x3 x4 0 0 0 0 x5)))))))))))))))))))):=by kernel_rfl
theorem xBm (s:ByteArray)(Q:Value→Prop):zS (zAy 3 3) s Q=((∃ x0:ByteArray,(∃ x1:ByteArray,((zDg s { data:=#[58,58] }=some (x0,x1,true))∧((x0.data.toList≠[])∧(∃ x2:Int,(∃ x3:Int,(∃ x4:Int,((zBi (x0,!true)=some ([x2,x3,x4],true))∧((x1.data.toList≠[])∧(∃ x5:Int,(∃ x6:Int,(∃ x7:Int,((zBi (x1,true)=some ([x5,x6,x7],true))∧zb s Q ((zt (((true=true)∧((true=true)∧zr (Q (z6 x2 x3 x4 0 0 x5 x6 x7))))))))))))))))))))):=by kernel_rfl
theorem xBn (s:ByteArray)(Q:Value→Prop):zS (zAy 4 0) s Q=((∃ x0:ByteArray,(∃ x1:ByteArray,((zDg s { data:=#[58,58] }=some (x0,x1,true))∧((x0.data.toList≠[])∧(∃ x2:Int,(∃ x3:Int,(∃ x4:Int,(∃ x5:Int,((zBi (x0,!true)=some ([x2,x3,x4,x5],true))∧((x1.data.toList=[])∧((zBi (x1,true)=some ([],true))∧zb s Q ((zt ((zt (((true=true)∧zr (Q (z6 x2 x3 x4 x5 0 0 0 0)))))))))))))))))))):=by kernel_rfl
theorem xBo (s:ByteArray)(Q:Value→Prop):zS (zAy 4 2) s Q=((∃ x0:ByteArray,(∃ x1:ByteArray,((zDg s { data:=#[58,58] }=some (x0,x1,true))∧((x0.data.toList≠[])∧(∃ x2:Int,(∃ x3:Int,(∃ x4:Int,(∃ x5:Int,((zBi (x0,!true)=some ([x2,x3,x4,x5],true))∧((x1.data.toList≠[])∧(∃ x6:Int,(∃ x7:Int,((zBi (x1,true)=some ([x6,x7],true))∧zb s Q ((zt (((true=true)∧((true=true)∧zr (Q (z6 x2 x3 x4 x5 0 0 x6 x7))))))))))))))))))))):=by kernel_rfl
theorem xBp (s:ByteArray)(Q:Value→Prop):zS (zAy 5 0) s Q=((∃ x0:ByteArray,(∃ x1:ByteArray,((zDg s { data:=#[58,58] }=some (x0,x1,true))∧((x0.data.toList≠[])∧(∃ x2:Int,(∃ x3:Int,(∃ x4:Int,(∃ x5:Int,(∃ x6:Int,((zBi (x0,!true)=some ([x2,x3,x4,x5,x6],true))∧((x1.data.toList=[])∧((zBi (x1,true)=some ([],true))∧zb s Q ((zt ((zt (zr (Q (z6 x2 x3 x4 x5 x6 0 0 0)))))))))))))))))))):=by kernel_rfl
theorem xBq (s:ByteArray)(Q:Value→Prop):zS (zAy 5 2) s Q=((∃ x0:ByteArray,(∃ x1:ByteArray,((zDg s { data:=#[58,58] }=some (x0,x1,true))∧((x0.data.toList≠[])∧(∃ x2:Int,(∃ x3:Int,(∃ x4:Int,(∃ x5:Int,(∃ x6:Int,((zBi (x0,!true)=some ([x2,x3,x4,x5,x6],true))∧((x1.data.toList≠[])∧(∃ x7:Int,(∃ x8:Int,((zBi (x1,true)=some ([x7,x8],true))∧zb s Q ((zt (((true=true)∧zr (Q (z6 x2 x3 x4 x5 x6 0 x7 x8))))))))))))))))))))):=by kernel_rfl
theorem xBr (s:ByteArray)(Q:Value→Prop):zS (zAy 6 1) s Q=((∃ x0:ByteArray,(∃ x1:ByteArray,((zDg s { data:=#[58,58] }=some (x0,x1,true))∧((x0.data.toList≠[])∧(∃ x2:Int,(∃ x3:Int,(∃ x4:Int,(∃ x5:Int,(∃ x6:Int,(∃ x7:Int,((zBi (x0,!true)=some ([x2,x3,x4,x5,x6,x7],true))∧((x1.data.toList≠[])∧(∃ x8:Int,((zBi (x1,true)=some ([x8],true))∧zb s Q ((zt (((true=true)∧zr (Q (z6 x2 x3 x4 x5 x6 x7 0 x8))))))))))))))))))))):=by kernel_rfl
theorem vsw (s:ByteArray)(Q:Value→Prop):zBj Tryz.prog (cwC yNo) (oxE [51,59,68,76]) 9 (zAa Tryz.f85) (zAg [.string s] 8) (zAh [] 64) (zA2 Tryz.prog Tryz.f85 fun v _=>Q v)=((∃ x0:ByteArray,(∃ x1:ByteArray,((zDg s { data:=#[58,58] }=some (x0,x1,false))∧(((x0.data.toList=[])∧((zBi (x0,!false)=some ([],true))∧(((x1.data.toList=[])∧((zBi (x1,true)=some ([],true))∧zb s Q (((true=true)∧Q z0))))∨((x1.data.toList≠[])∧(∃ x2:Int,(∃ x3:Int,(∃ x4:Int,(∃ x5:Int,(∃ x6:Int,(∃ x7:Int,(∃ x8:Int,(∃ x9:Int,((zBi (x1,true)=some ([x2,x3,x4,x5,x6,x7,x8,x9],true))∧zb s Q ((zt (zr (Q (z6 x2 x3 x4 x5 x6 x7 x8 x9))))))))))))))))))∨((x0.data.toList≠[])∧(∃ x2:Int,(∃ x3:Int,(∃ x4:Int,(∃ x5:Int,(∃ x6:Int,(∃ x7:Int,(∃ x8:Int,(∃ x9:Int,((zBi (x0,!false)=some ([x2,x3,x4,x5,x6,x7,x8,x9],true))∧(((x1.data.toList=[])∧((zBi (x1,true)=some ([],true))∧zb s Q ((zt (zr (Q (z6 x2 x3 x4 x5 x6 x7 x8 x9)))))))∨((x1.data.toList≠[])∧(∃ x10:Int,(∃ x11:Int,(∃ x12:Int,(∃ x13:Int,(∃ x14:Int,(∃ x15:Int,(∃ x16:Int,(∃ x17:Int,((zBi (x1,true)=some ([x10,x11,x12,x13,x14,x15,x16,x17],true))∧zb s Q (((true=true)∧Q z0)))))))))))))))))))))))))))):=by kernel_rfl
theorem xBs (s:ByteArray)(Q:Value→Prop):zBj Tryz.prog (cwC (zZq true)) (oxE []) 0 (zAa Tryz.f85) (zAg [.string s] 8) (zAh [] 64) (zA2 Tryz.prog Tryz.f85 fun v _=>Q v)=((∃ x0:ByteArray,(∃ x1:ByteArray,((zDg s { data:=#[58,58] }=some (x0,x1,true))∧(∃ x2:List Int×Bool,((zBi (x0,!true)=some x2)∧(((x0.data.toList=[])∧(∃ x3:List Int×Bool,((zBi (x1,true)=some x3)∧(((x1.data.toList=[])∧zc x2.2 x3.2 Q (zb s Q (zAd (zAf (8≤IntKind.wrap .i64 ((↑0:Int)+(↑0:Int)))) (Q z0) (False))))∨(((x1.data.toList≠[])∧((x3.1=[])∧zc x2.2 x3.2 Q (zb s Q (zAd (zAf (8≤IntKind.wrap .i64 ((↑0:Int)+(↑0:Int)))) (Q z0) (False)))))∨((x1.data.toList≠[])∧((x3.1≠[])∧zc x2.2 x3.2 Q (zb s Q (zAd (zAf (8≤IntKind.wrap .i64 ((↑0:Int)+(↑(List.length (x3.1)):Int)))) (Q z0) (False))))))))))∨(((x0.data.toList≠[])∧((x2.1=[])∧(∃ x3:List Int×Bool,((zBi (x1,true)=some x3)∧(((x1.data.toList=[])∧zc x2.2 x3.2 Q (zb s Q (zAd (zAf (8≤IntKind.wrap .i64 ((↑0:Int)+(↑0:Int)))) (Q z0) (False))))∨(((x1.data.toList≠[])∧((x3.1=[])∧zc x2.2 x3.2 Q (zb s Q (zAd (zAf (8≤IntKind.wrap .i64 ((↑0:Int)+(↑0:Int)))) (Q z0) (False)))))∨((x1.data.toList≠[])∧((x3.1≠[])∧zc x2.2 x3.2 Q (zb s Q (zAd (zAf (8≤IntKind.wrap .i64 ((↑0:Int)+(↑(List.length (x3.1)):Int)))) (Q z0) (False)))))))))))∨((x0.data.toList≠[])∧((x2.1≠[])∧(∃ x3:List Int×Bool,((zBi (x1,true)=some x3)∧(((x1.data.toList=[])∧zc x2.2 x3.2 Q (zb s Q (zAd (zAf (8≤IntKind.wrap .i64 ((↑(List.length (x2.1)):Int)+(↑0:Int)))) (Q z0) (False))))∨(((x1.data.toList≠[])∧((x3.1=[])∧zc x2.2 x3.2 Q (zb s Q (zAd (zAf (8≤IntKind.wrap .i64 ((↑(List.length (x2.1)):Int)+(↑0:Int)))) (Q z0) (False)))))∨((x1.data.toList≠[])∧((x3.1≠[])∧zc x2.2 x3.2 Q (zb s Q (zAd (zAf (8≤IntKind.wrap .i64 ((↑(List.length (x2.1)):Int)+(↑(List.length (x3.1)):Int)))) (Q z0) (False))))))))))))))))))):=by kernel_rfl
theorem xBt (s:ByteArray)(Q:Value→Prop):zBj Tryz.prog (cwC (zZq false)) (oxE []) 0 (zAa Tryz.f85) (zAg [.string s] 8) (zAh [] 64) (zA2 Tryz.prog Tryz.f85 fun v _=>Q v)=((∃ x0:ByteArray,(∃ x1:ByteArray,((zDg s { data:=#[58,58] }=some (x0,x1,false))∧(∃ x2:List Int×Bool,((zBi (x0,!false)=some x2)∧(((x0.data.toList=[])∧(∃ x3:List Int×Bool,((zBi (x1,true)=some x3)∧(((x1.data.toList=[])∧zc x2.2 x3.2 Q (zb s Q (zAd (zAf (IntKind.wrap .i64 ((↑0:Int)+(↑0:Int))≠8)) (Q z0) (False))))∨(((x1.data.toList≠[])∧((x3.1=[])∧zc x2.2 x3.2 Q (zb s Q (zAd (zAf (IntKind.wrap .i64 ((↑0:Int)+(↑0:Int))≠8)) (Q z0) (False)))))∨((x1.data.toList≠[])∧((x3.1≠[])∧zc x2.2 x3.2 Q (zb s Q (zAd (zAf (IntKind.wrap .i64 ((↑0:Int)+(↑(List.length (x3.1)):Int))≠8)) (Q z0) (False))))))))))∨(((x0.data.toList≠[])∧((x2.1=[])∧(∃ x3:List Int×Bool,((zBi (x1,true)=some x3)∧(((x1.data.toList=[])∧zc x2.2 x3.2 Q (zb s Q (zAd (zAf (IntKind.wrap .i64 ((↑0:Int)+(↑0:Int))≠8)) (Q z0) (False))))∨(((x1.data.toList≠[])∧((x3.1=[])∧zc x2.2 x3.2 Q (zb s Q (zAd (zAf (IntKind.wrap .i64 ((↑0:Int)+(↑0:Int))≠8)) (Q z0) (False)))))∨((x1.data.toList≠[])∧((x3.1≠[])∧zc x2.2 x3.2 Q (zb s Q (zAd (zAf (IntKind.wrap .i64 ((↑0:Int)+(↑(List.length (x3.1)):Int))≠8)) (Q z0) (False)))))))))))∨((x0.data.toList≠[])∧((x2.1≠[])∧(∃ x3:List Int×Bool,((zBi (x1,true)=some x3)∧(((x1.data.toList=[])∧zc x2.2 x3.2 Q (zb s Q (zAd (zAf (IntKind.wrap .i64 ((↑(List.length (x2.1)):Int)+(↑0:Int))≠8)) (Q z0) (False))))∨(((x1.data.toList≠[])∧((x3.1=[])∧zc x2.2 x3.2 Q (zb s Q (zAd (zAf (IntKind.wrap .i64 ((↑(List.length (x2.1)):Int)+(↑0:Int))≠8)) (Q z0) (False)))))∨((x1.data.toList≠[])∧((x3.1≠[])∧zc x2.2 x3.2 Q (zb s Q (zAd (zAf (IntKind.wrap .i64 ((↑(List.length (x2.1)):Int)+(↑(List.length (x3.1)):Int))≠8)) (Q z0) (False))))))))))))))))))):=by kernel_rfl
end Go.Proofs.YtfnacgojmdbjmaaGreatDoor
namespace Go.Proofs.YtfnacgojmdbjmaaGreatDoor
open Go.Det Go.RowKit Go.Proofs.ZW PPH
theorem yNp (k:Nat):
  (∀ x1 x6 x7 x18 x19 x20 r b,Yg.l0 k x1 x6 x7 x18 x19 x20=some (r,b)→r.length≤x6.length+k+2∧(b=true→x6≠[]∨x20 < x19→r≠[]))∧
  (∀ x1 x6 x7 x9 x18 x19 x20 x36 r b,Yg.j1 k x1 x6 x7 x9 x18 x19 x20 x36=some (r,b)→r.length≤x6.length+k+2∧(b=true→r≠[])):=by
 induction k with
 |zero=>exact⟨fun _ _ _ _ _ _ _ _ h=>by simp[Yg.l0] at h,fun _ _ _ _ _ _ _ _ _ _ h=>by simp[Yg.j1] at h⟩
 |succ k ih=>
  obtain⟨i0,i1⟩:=ih
  refine⟨fun x1 x6 x7 x18 x19 x20 r b h=>?_,fun x1 x6 x7 x9 x18 x19 x20 x36 r b h=>?_⟩
  ·unfold Yg.l0 at h
   split at h
   ·split at h
    case isFalse=>cases h
    split at h
    case isFalse=>cases h
    split at h
    ·split at h
     ·obtain⟨t,_,h⟩:=xGs.1 h
      have:=i1 _ _ _ _ _ _ _ _ _ _ h
      exact⟨by omega,fun hb _=>this.2 hb⟩
     ·have:=i1 _ _ _ _ _ _ _ _ _ _ h
      exact⟨by omega,fun hb _=>this.2 hb⟩
    ·have:=i1 _ _ _ _ _ _ _ _ _ _ h
     exact⟨by omega,fun hb _=>this.2 hb⟩
   ·rename_i hn
    cases h
    exact⟨by omega,fun _ q=>by rcases q with q|q;exact q;exact absurd q hn⟩
  ·unfold Yg.j1 at h
   split at h
   ·obtain⟨t,_,h⟩:=xGs.1 h
    obtain⟨u,hu,h⟩:=xGs.1 h
    cases hu
    split at h
    case isFalse=>cases h
    cases h
    exact⟨by(simp;try omega),fun _=>by simp⟩
   ·obtain⟨t,_,h⟩:=xGs.1 h
    split at h
    ·split at h
     case isFalse=>cases h
     have:=i0 _ _ _ _ _ _ _ _ h
     exact⟨by have:=this.1;simp at this;omega,fun hb=>this.2 hb (.inl (by simp))⟩
    ·cases h
     exact⟨by simp,fun hb=>by cases hb⟩
theorem yDh (sep:ByteArray)(k:Nat)(s:ByteArray):Lib.splitB sep 0 k s≠[]:=by
 cases k with
 |zero=>simp[Lib.splitB]
 |succ k=>
  unfold Lib.splitB
  split<;>simp
theorem zGq {s:ByteArray}{l:Bool}{r:List Int}{b:Bool}(h:zBi (s,l)=some (r,b)):r.length≤1002∧(b=true→r=[]→s.data.toList=[]):=by
 unfold zBi Yg.f at h
 split at h
 ·rename_i h0
  cases h
  simp only[ByteArray.toList_eq] at h0
  exact⟨by simp,fun _ _=>h0⟩
 ·obtain⟨t,ht,h⟩:=xGs.1 h
  have q:=(yNp 1000).1 _ _ _ _ _ _ _ _ h
  refine⟨by have:=q.1;simp at this;omega,fun hb hr=>?_⟩
  refine absurd hr (q.2 hb (.inr ?_))
  unfold YD.f at ht
  split at ht
  case isFalse=>cases ht
  cases ht
  have:=List.length_pos_iff.2 (yDh ⟨#[58]⟩ (Lib.countB s ⟨#[58]⟩) s)
  simp only
  omega
end Go.Proofs.YtfnacgojmdbjmaaGreatDoor
namespace Go.Det
variable {P:Program}
theorem zNm {W:World}{G:Nat}{l:List (Nat×Own)}{h:Heap}{f:FuncId}{fn:Func}{c:Code}{F:List Value→Option Value}(L:Laying G W h)(hGW:G≤W.heap.size)(hG64:G≤64)
  (hm:P.follows .mixedOrders=true) (hl:OwnsAll P W G l) (hf:P.funcs[f]?=some fn) (hb:fn.body=some c) (hok:zEb G fn=true)
  (hF:∀ args v,F args=some v→zCo args=true∧flat v=true∧Nat.ble args.length fn.ntmps=true∧∃ cw,CwOk (zDc l) cw∧zAo P cw c (zAg args 8) (zAh h 64) (zA2 P fn fun v' _=>v'=v)):zAk P W G f (zCz F):=by
 refine⟨zFb F,fun W1 k1 args s v s' e φ w args' H _ hA _ _=>?_⟩
 unfold zCz at e
 split at e
 case h_2=>cases e
 rename_i r hr
 cases e
 obtain⟨h1,h2,h3,cw,ho,h4⟩:=hF args v hr
 have hn:(fn.name== "runtime.NumGoroutine")=false:=by
  unfold zEb at hok
  rw[hb] at hok
  simp only[xG0,xIi] at hok
  exact hok.2
 rw[zB5 h1 hA,zBg hf hb hn]
 have kw:Later W w:=k1.trans H.later
 have Lw:=L.move kw.size kw.old hGW
 refine(zHd (P:=P) (w0:=w) (φ0:=glob G w) (G:=G) ho (zFx hl kw) (zFw hl) hm (zD4 G w) (fun id q=>zC6 G w hG64 id q) hf hb hok h3 Lw.hr (zDa h1 _) (fun id q=>zC6 G w hG64 id q) (fun id q=>Lw.top id (xHf hG64 q)) (xGv 64) h4).mono ?_
 rintro e W' ⟨v1,v',s1,φ',rfl,rfl,hv,H',_,_⟩
 exact⟨v',φ,rfl,Ext.refl _ _ _,zE8 h2 hv,H.keep H'.kept H'.tape⟩
end Go.Det
namespace Go.Proofs.YtfnacgojmdbjmaaGreatDoor
open Go.Det Go.RowKit Go.Proofs.ZW PPH
def zVr (a b c d:Int):Int:=orI .u64 (zE2 .u64 (orI .u64 (zE2 .u64 (orI .u64 (zE2 .u64 (orI .u64 (zE2 .u64 0 16) a) 16) b) 16) c) 16) d
def zFm:List Int→Int×Int
 |[a,b,c,d,e,f,g,h]=>(zVr a b c d,zVr e f g h)
 |_=>(0,0)
def zXb (s:ByteArray)(cut:Bool)(a b:List Int×Bool):Bool:=
 !a.2||(!b.2||(decide (s.data.toList=[])||(match cut with|true=>decide (8≤a.1.length+b.1.length)|false=>decide (a.1.length+b.1.length≠8))))
def zVs (s:ByteArray):Option (Int×Int×Int×Bool):=
 (zDg s { data:=#[58,58] }).bind fun c=>(zBi (c.1,!c.2.2)).bind fun a=>(zBi (c.2.1,true)).bind fun b=>
  if zXb s c.2.2 a b=true then some (0,0,0,false) else some (6,(zFm (a.1++List.replicate (8 - (a.1.length+b.1.length)) 0++b.1)).1,(zFm (a.1++List.replicate (8 - (a.1.length+b.1.length)) 0++b.1)).2,true)
def yFz (y:Int×Int×Int×Bool):Value:=.tuple #[.agg #[.int .i64 y.1,.int .u64 y.2.1,.int .u64 y.2.2.1],.bool y.2.2.2]
theorem wrap_i64 {x:Int}(h:0≤x∧x < 9223372036854775808):IntKind.wrap .i64 x=x:=by
 unfold IntKind.wrap
 simp[IntKind.signed,IntKind.bits]
 omega
theorem zRc {b2 b3:Bool}{s t:List UInt8}{p q:Nat}{Q0:Prop}(hQ:Q0)(hp:p≤1002)(hq:q≤1002)(H:b2=false∨b3=false∨s=t∨8≤p+q):
  zAd (!b2) Q0 (zAd (!b3) Q0 (zAd (zAf (s=t)) Q0 (zAd (zAf (8≤IntKind.wrap .i64 ((p:Int)+(q:Int)))) Q0 False))):=by
 rw[wrap_i64 ⟨by omega,by omega⟩]
 refine bifW_n (fun h2=>bifW_n (fun h3=>bifW_c (fun _=>hQ) fun h4=>bifW_c (fun _=>hQ) fun h5=>?_) fun _=>hQ) fun _=>hQ
 rcases H with H|H|H|H
 ·rw[H] at h2;cases h2
 ·rw[H] at h3;cases h3
 ·exact h4 H
 ·omega
theorem zRd {b2 b3:Bool}{s t:List UInt8}{p q:Nat}{Q0:Prop}(hQ:Q0)(hp:p≤1002)(hq:q≤1002)(H:b2=false∨b3=false∨s=t∨p+q≠8):
  zAd (!b2) Q0 (zAd (!b3) Q0 (zAd (zAf (s=t)) Q0 (zAd (zAf (IntKind.wrap .i64 ((p:Int)+(q:Int))≠8)) Q0 False))):=by
 rw[wrap_i64 ⟨by omega,by omega⟩]
 refine bifW_n (fun h2=>bifW_n (fun h3=>bifW_c (fun _=>hQ) fun h4=>bifW_c (fun _=>hQ) fun h5=>?_) fun _=>hQ) fun _=>hQ
 rcases H with H|H|H|H
 ·rw[H] at h2;cases h2
 ·rw[H] at h3;cases h3
 ·exact h4 H
 ·omega
theorem zHg {x:ByteArray}{l:Bool}{r:List Int×Bool}(hx:x.data.toList=[])(h:zBi (x,l)=some r):r=([],true):=by
 obtain⟨⟨t⟩⟩:=x
 have:t=[]:=hx
 subst this
 exact yYe h
def zGv (cw:Cw)(s:ByteArray)(y:Int×Int×Int×Bool):Prop:=zAo Tryz.prog cw (zAa Tryz.f85) (zAg [.string s] 8) (zAh [] 64) (zA2 Tryz.prog Tryz.f85 fun v' _=>v'=yFz y)
def zCu (a b:List Int):Int×Int×Int×Bool:=(6,(zFm (a++List.replicate (8 - (a.length+b.length)) 0++b)).1,(zFm (a++List.replicate (8 - (a.length+b.length)) 0++b)).2,true)
theorem zCv {h t:Nat}{s:ByteArray}{y:Int×Int×Int×Bool}(k:zBj Tryz.prog (cwC (zAy h t)) (oxE [51,59,68,76]) 9 (zAa Tryz.f85) (zAg [.string s] 8) (zAh [] 64) (zA2 Tryz.prog Tryz.f85 fun v' _=>v'=yFz y)):zGv (cwC (zAy h t)) s y:=zAs (zAp _) (zEc _) (n:=9) (by kernel_rfl) k
structure SixH (s x0 x1:ByteArray) (a b:List Int):Prop where
 c:zDg s { data:=#[58,58] }=some (x0,x1,true)
 a:zBi (x0,!true)=some (a,true)
 b:zBi (x1,true)=some (b,true)
 s:¬ s.data.toList=[]
def yNq:List (Nat×Own):=[(59,conD60.own),(102,zRb zBi 23)]
theorem ySk {s x0 x1:ByteArray}{a b:List Int×Bool}(hc:zDg s { data:=#[58,58] }=some (x0,x1,true))(ha:zBi (x0,!true)=some a)(hb:zBi (x1,true)=some b)(H:zXb s true a b=true):
  zAo Tryz.prog (cwC (zZq true)) (zAa Tryz.f85) (zAg [.string s] 8) (zAh [] 64) (zA2 Tryz.prog Tryz.f85 fun v' _=>v'=yFz (0,0,0,false)):=by
 refine zAs (zAp _) (zEc _) (n:=0) (by kernel_rfl) ((xBs s _).mpr ⟨x0,x1,hc,a,ha,?_⟩)
 have la:=(zGq (r:=a.1) (b:=a.2) ha).1
 have lb:=(zGq (r:=b.1) (b:=b.2) hb).1
 have H:a.2=false∨b.2=false∨s.data.toList=[]∨8≤a.1.length+b.1.length:=by
  unfold zXb at H
  simp only[xIr,xIi,xIj] at H
  exact H
 by_cases h0:x0.data.toList=[]
 ·have e0:=zHg h0 ha
  refine .inl ⟨h0,b,hb,?_⟩
  by_cases h1:x1.data.toList=[]
  ·have e1:=zHg h1 hb
   exact .inl ⟨h1,zRc (p:=0) (q:=0) rfl (by omega) (by omega) (by rw[e0,e1] at H ⊢;exact H)⟩
  ·by_cases h2:b.1=[]
   ·exact .inr (.inl ⟨h1,h2,zRc (p:=0) (q:=0) rfl (by omega) (by omega) (by rw[h2,e0] at H;rw[e0];exact H)⟩)
   ·exact .inr (.inr ⟨h1,h2,zRc (p:=0) rfl (by omega) (by omega) (by rw[e0] at H ⊢;exact H)⟩)
 ·by_cases h2:a.1=[]
  ·refine .inr (.inl ⟨h0,h2,b,hb,?_⟩)
   by_cases h1:x1.data.toList=[]
   ·have e1:=zHg h1 hb
    exact .inl ⟨h1,zRc (p:=0) (q:=0) rfl (by omega) (by omega) (by rw[h2,e1] at H;rw[e1];exact H)⟩
   ·by_cases h3:b.1=[]
    ·exact .inr (.inl ⟨h1,h3,zRc (p:=0) (q:=0) rfl (by omega) (by omega) (by rw[h2,h3] at H;exact H)⟩)
    ·exact .inr (.inr ⟨h1,h3,zRc (p:=0) rfl (by omega) (by omega) (by rw[h2] at H;exact H)⟩)
  ·refine .inr (.inr ⟨h0,h2,b,hb,?_⟩)
   by_cases h1:x1.data.toList=[]
   ·have e1:=zHg h1 hb
    exact .inl ⟨h1,zRc (q:=0) rfl (by omega) (by omega) (by rw[e1] at H ⊢;exact H)⟩
   ·by_cases h3:b.1=[]
    ·exact .inr (.inl ⟨h1,h3,zRc (q:=0) rfl (by omega) (by omega) (by rw[h3] at H;exact H)⟩)
    ·exact .inr (.inr ⟨h1,h3,zRc rfl (by omega) (by omega) H⟩)
theorem ySl {s x0 x1:ByteArray}{a b:List Int×Bool}(hc:zDg s { data:=#[58,58] }=some (x0,x1,false))(ha:zBi (x0,!false)=some a)(hb:zBi (x1,true)=some b)(H:zXb s false a b=true):
  zAo Tryz.prog (cwC (zZq false)) (zAa Tryz.f85) (zAg [.string s] 8) (zAh [] 64) (zA2 Tryz.prog Tryz.f85 fun v' _=>v'=yFz (0,0,0,false)):=by
 refine zAs (zAp _) (zEc _) (n:=0) (by kernel_rfl) ((xBt s _).mpr ⟨x0,x1,hc,a,ha,?_⟩)
 have la:=(zGq (r:=a.1) (b:=a.2) ha).1
 have lb:=(zGq (r:=b.1) (b:=b.2) hb).1
 have H:a.2=false∨b.2=false∨s.data.toList=[]∨a.1.length+b.1.length≠8:=by
  unfold zXb at H
  simp only[xIr,xIi,xIj] at H
  exact H
 by_cases h0:x0.data.toList=[]
 ·have e0:=zHg h0 ha
  refine .inl ⟨h0,b,hb,?_⟩
  by_cases h1:x1.data.toList=[]
  ·have e1:=zHg h1 hb
   exact .inl ⟨h1,zRd (p:=0) (q:=0) rfl (by omega) (by omega) (by rw[e0,e1] at H ⊢;exact H)⟩
  ·by_cases h2:b.1=[]
   ·exact .inr (.inl ⟨h1,h2,zRd (p:=0) (q:=0) rfl (by omega) (by omega) (by rw[h2,e0] at H;rw[e0];exact H)⟩)
   ·exact .inr (.inr ⟨h1,h2,zRd (p:=0) rfl (by omega) (by omega) (by rw[e0] at H ⊢;exact H)⟩)
 ·by_cases h2:a.1=[]
  ·refine .inr (.inl ⟨h0,h2,b,hb,?_⟩)
   by_cases h1:x1.data.toList=[]
   ·have e1:=zHg h1 hb
    exact .inl ⟨h1,zRd (p:=0) (q:=0) rfl (by omega) (by omega) (by rw[h2,e1] at H;rw[e1];exact H)⟩
   ·by_cases h3:b.1=[]
    ·exact .inr (.inl ⟨h1,h3,zRd (p:=0) (q:=0) rfl (by omega) (by omega) (by rw[h2,h3] at H;exact H)⟩)
    ·exact .inr (.inr ⟨h1,h3,zRd (p:=0) rfl (by omega) (by omega) (by rw[h2] at H;exact H)⟩)
  ·refine .inr (.inr ⟨h0,h2,b,hb,?_⟩)
   by_cases h1:x1.data.toList=[]
   ·have e1:=zHg h1 hb
    exact .inl ⟨h1,zRd (q:=0) rfl (by omega) (by omega) (by rw[e1] at H ⊢;exact H)⟩
   ·by_cases h3:b.1=[]
    ·exact .inr (.inl ⟨h1,h3,zRd (q:=0) rfl (by omega) (by omega) (by rw[h3] at H;exact H)⟩)
    ·exact .inr (.inr ⟨h1,h3,zRd rfl (by omega) (by omega) H⟩)
theorem ex0 {l:List Int}(h:l.length=0):l=[]:=xHq h
theorem ex1 {l:List Int}(h:l.length=1):∃ a0:Int,l=[a0]:=by
 match l,h with
 |[a0],_=>exact⟨a0,rfl⟩
theorem ex2 {l:List Int}(h:l.length=2):∃ a0 a1:Int,l=[a0,a1]:=by
 match l,h with
 |[a0,a1],_=>exact⟨a0,a1,rfl⟩
theorem ex3 {l:List Int}(h:l.length=3):∃ a0 a1 a2:Int,l=[a0,a1,a2]:=by
 match l,h with
 |[a0,a1,a2],_=>exact⟨a0,a1,a2,rfl⟩
theorem ex4 {l:List Int}(h:l.length=4):∃ a0 a1 a2 a3:Int,l=[a0,a1,a2,a3]:=by
 match l,h with
 |[a0,a1,a2,a3],_=>exact⟨a0,a1,a2,a3,rfl⟩
theorem ex5 {l:List Int}(h:l.length=5):∃ a0 a1 a2 a3 a4:Int,l=[a0,a1,a2,a3,a4]:=by
 match l,h with
 |[a0,a1,a2,a3,a4],_=>exact⟨a0,a1,a2,a3,a4,rfl⟩
theorem ex6 {l:List Int}(h:l.length=6):∃ a0 a1 a2 a3 a4 a5:Int,l=[a0,a1,a2,a3,a4,a5]:=by
 match l,h with
 |[a0,a1,a2,a3,a4,a5],_=>exact⟨a0,a1,a2,a3,a4,a5,rfl⟩
theorem ex7 {l:List Int}(h:l.length=7):∃ a0 a1 a2 a3 a4 a5 a6:Int,l=[a0,a1,a2,a3,a4,a5,a6]:=by
 match l,h with
 |[a0,a1,a2,a3,a4,a5,a6],_=>exact⟨a0,a1,a2,a3,a4,a5,a6,rfl⟩
theorem ex8 {l:List Int}(h:l.length=8):∃ a0 a1 a2 a3 a4 a5 a6 a7:Int,l=[a0,a1,a2,a3,a4,a5,a6,a7]:=by
 match l,h with
 |[a0,a1,a2,a3,a4,a5,a6,a7],_=>exact⟨a0,a1,a2,a3,a4,a5,a6,a7,rfl⟩
theorem zBp {x:ByteArray}{l b:Bool}{r:List Int}(hr:r≠[])(h:zBi (x,l)=some (r,b)):x.data.toList≠[]:=by
 intro hx
 have:=zHg hx h
 cases this
 exact hr rfl
theorem zB0 {x:ByteArray}{l:Bool}(h:zBi (x,l)=some ([],true)):x.data.toList=[]:=(zGq h).2 rfl rfl
variable {s x y:ByteArray}
theorem xBu (k:SixH s x y [] []):zGv (cwC (zAy 0 0)) s (zCu [] []):=by
 refine zCv ((xBa s _).mpr ⟨x,y,k.c,zB0 k.a,k.a,zB0 k.b,k.b,zBh k.s ?_⟩)
 repeat'(first|rfl|decide|refine xGy ?_ ?_)
theorem xBv {b0:Int}(k:SixH s x y [] [b0]):zGv (cwC (zAy 0 1)) s (zCu [] [b0]):=by
 refine zCv ((xAs s _).mpr ⟨x,y,k.c,zB0 k.a,k.a,zBp (by simp) k.b,b0,k.b,zBh k.s ?_⟩)
 repeat'(first|rfl|decide|refine xGy ?_ ?_)
theorem xBw {b0 b1:Int}(k:SixH s x y [] [b0,b1]):zGv (cwC (zAy 0 2)) s (zCu [] [b0,b1]):=by
 refine zCv ((xBb s _).mpr ⟨x,y,k.c,zB0 k.a,k.a,zBp (by simp) k.b,b0,b1,k.b,zBh k.s ?_⟩)
 repeat'(first|rfl|decide|refine xGy ?_ ?_)
theorem xBx {b0 b1 b2:Int}(k:SixH s x y [] [b0,b1,b2]):zGv (cwC (zAy 0 3)) s (zCu [] [b0,b1,b2]):=by
 refine zCv ((xAt s _).mpr ⟨x,y,k.c,zB0 k.a,k.a,zBp (by simp) k.b,b0,b1,b2,k.b,zBh k.s ?_⟩)
 repeat'(first|rfl|decide|refine xGy ?_ ?_)
theorem xBy {b0 b1 b2 b3:Int}(k:SixH s x y [] [b0,b1,b2,b3]):zGv (cwC (zAy 0 4)) s (zCu [] [b0,b1,b2,b3]):=by
 refine zCv ((xBc s _).mpr ⟨x,y,k.c,zB0 k.a,k.a,zBp (by simp) k.b,b0,b1,b2,b3,k.b,zBh k.s ?_⟩)
 repeat'(first|rfl|decide|refine xGy ?_ ?_)
theorem xBz {b0 b1 b2 b3 b4:Int}(k:SixH s x y [] [b0,b1,b2,b3,b4]):zGv (cwC (zAy 0 5)) s (zCu [] [b0,b1,b2,b3,b4]):=by
 refine zCv ((xAu s _).mpr ⟨x,y,k.c,zB0 k.a,k.a,zBp (by simp) k.b,b0,b1,b2,b3,b4,k.b,zBh k.s ?_⟩)
 repeat'(first|rfl|decide|refine xGy ?_ ?_)
theorem xB0 {b0 b1 b2 b3 b4 b5:Int}(k:SixH s x y [] [b0,b1,b2,b3,b4,b5]):zGv (cwC (zAy 0 6)) s (zCu [] [b0,b1,b2,b3,b4,b5]):=by
 refine zCv ((xBd s _).mpr ⟨x,y,k.c,zB0 k.a,k.a,zBp (by simp) k.b,b0,b1,b2,b3,b4,b5,k.b,zBh k.s ?_⟩)
 repeat'(first|rfl|decide|refine xGy ?_ ?_)
theorem xB1 {b0 b1 b2 b3 b4 b5 b6:Int}(k:SixH s x y [] [b0,b1,b2,b3,b4,b5,b6]):zGv (cwC (zAy 0 7)) s (zCu [] [b0,b1,b2,b3,b4,b5,b6]):=by
 refine zCv ((xAv s _).mpr ⟨x,y,k.c,zB0 k.a,k.a,zBp (by simp) k.b,b0,b1,b2,b3,b4,b5,b6,k.b,zBh k.s ?_⟩)
 repeat'(first|rfl|decide|refine xGy ?_ ?_)
theorem xB2 {a0:Int}(k:SixH s x y [a0] []):zGv (cwC (zAy 1 0)) s (zCu [a0] []):=by
 refine zCv ((xBe s _).mpr ⟨x,y,k.c,zBp (by simp) k.a,a0,k.a,zB0 k.b,k.b,zBh k.s ?_⟩)
 repeat'(first|rfl|decide|refine xGy ?_ ?_)
theorem xB3 {a0 b0:Int}(k:SixH s x y [a0] [b0]):zGv (cwC (zAy 1 1)) s (zCu [a0] [b0]):=by
 refine zCv ((xAw s _).mpr ⟨x,y,k.c,zBp (by simp) k.a,a0,k.a,zBp (by simp) k.b,b0,k.b,zBh k.s ?_⟩)
 repeat'(first|rfl|decide|refine xGy ?_ ?_)
theorem xB4 {a0 b0 b1:Int}(k:SixH s x y [a0] [b0,b1]):zGv (cwC (zAy 1 2)) s (zCu [a0] [b0,b1]):=by
 refine zCv ((xBf s _).mpr ⟨x,y,k.c,zBp (by simp) k.a,a0,k.a,zBp (by simp) k.b,b0,b1,k.b,zBh k.s ?_⟩)
 repeat'(first|rfl|decide|refine xGy ?_ ?_)
theorem xB5 {a0 b0 b1 b2:Int}(k:SixH s x y [a0] [b0,b1,b2]):zGv (cwC (zAy 1 3)) s (zCu [a0] [b0,b1,b2]):=by
 refine zCv ((xAx s _).mpr ⟨x,y,k.c,zBp (by simp) k.a,a0,k.a,zBp (by simp) k.b,b0,b1,b2,k.b,zBh k.s ?_⟩)
 repeat'(first|rfl|decide|refine xGy ?_ ?_)
theorem xB6 {a0 b0 b1 b2 b3:Int}(k:SixH s x y [a0] [b0,b1,b2,b3]):zGv (cwC (zAy 1 4)) s (zCu [a0] [b0,b1,b2,b3]):=by
 refine zCv ((xBg s _).mpr ⟨x,y,k.c,zBp (by simp) k.a,a0,k.a,zBp (by simp) k.b,b0,b1,b2,b3,k.b,zBh k.s ?_⟩)
 repeat'(first|rfl|decide|refine xGy ?_ ?_)
theorem xB7 {a0 b0 b1 b2 b3 b4:Int}(k:SixH s x y [a0] [b0,b1,b2,b3,b4]):zGv (cwC (zAy 1 5)) s (zCu [a0] [b0,b1,b2,b3,b4]):=by
 refine zCv ((xAy s _).mpr ⟨x,y,k.c,zBp (by simp) k.a,a0,k.a,zBp (by simp) k.b,b0,b1,b2,b3,b4,k.b,zBh k.s ?_⟩)
 repeat'(first|rfl|decide|refine xGy ?_ ?_)
theorem xB8 {a0 b0 b1 b2 b3 b4 b5:Int}(k:SixH s x y [a0] [b0,b1,b2,b3,b4,b5]):zGv (cwC (zAy 1 6)) s (zCu [a0] [b0,b1,b2,b3,b4,b5]):=by
 refine zCv ((xBh s _).mpr ⟨x,y,k.c,zBp (by simp) k.a,a0,k.a,zBp (by simp) k.b,b0,b1,b2,b3,b4,b5,k.b,zBh k.s ?_⟩)
 repeat'(first|rfl|decide|refine xGy ?_ ?_)
theorem xB9 {a0 a1:Int}(k:SixH s x y [a0,a1] []):zGv (cwC (zAy 2 0)) s (zCu [a0,a1] []):=by
 refine zCv ((xAz s _).mpr ⟨x,y,k.c,zBp (by simp) k.a,a0,a1,k.a,zB0 k.b,k.b,zBh k.s ?_⟩)
 repeat'(first|rfl|decide|refine xGy ?_ ?_)
theorem xCa {a0 a1 b0:Int}(k:SixH s x y [a0,a1] [b0]):zGv (cwC (zAy 2 1)) s (zCu [a0,a1] [b0]):=by
 refine zCv ((xBi s _).mpr ⟨x,y,k.c,zBp (by simp) k.a,a0,a1,k.a,zBp (by simp) k.b,b0,k.b,zBh k.s ?_⟩)
 repeat'(first|rfl|decide|refine xGy ?_ ?_)
theorem xCb {a0 a1 b0 b1:Int}(k:SixH s x y [a0,a1] [b0,b1]):zGv (cwC (zAy 2 2)) s (zCu [a0,a1] [b0,b1]):=by
 refine zCv ((xA0 s _).mpr ⟨x,y,k.c,zBp (by simp) k.a,a0,a1,k.a,zBp (by simp) k.b,b0,b1,k.b,zBh k.s ?_⟩)
 repeat'(first|rfl|decide|refine xGy ?_ ?_)
theorem xCc {a0 a1 b0 b1 b2:Int}(k:SixH s x y [a0,a1] [b0,b1,b2]):zGv (cwC (zAy 2 3)) s (zCu [a0,a1] [b0,b1,b2]):=by
 refine zCv ((xBj s _).mpr ⟨x,y,k.c,zBp (by simp) k.a,a0,a1,k.a,zBp (by simp) k.b,b0,b1,b2,k.b,zBh k.s ?_⟩)
 repeat'(first|rfl|decide|refine xGy ?_ ?_)
theorem xCd {a0 a1 b0 b1 b2 b3:Int}(k:SixH s x y [a0,a1] [b0,b1,b2,b3]):zGv (cwC (zAy 2 4)) s (zCu [a0,a1] [b0,b1,b2,b3]):=by
 refine zCv ((xA1 s _).mpr ⟨x,y,k.c,zBp (by simp) k.a,a0,a1,k.a,zBp (by simp) k.b,b0,b1,b2,b3,k.b,zBh k.s ?_⟩)
 repeat'(first|rfl|decide|refine xGy ?_ ?_)
theorem xCe {a0 a1 b0 b1 b2 b3 b4:Int}(k:SixH s x y [a0,a1] [b0,b1,b2,b3,b4]):zGv (cwC (zAy 2 5)) s (zCu [a0,a1] [b0,b1,b2,b3,b4]):=by
 refine zCv ((xBk s _).mpr ⟨x,y,k.c,zBp (by simp) k.a,a0,a1,k.a,zBp (by simp) k.b,b0,b1,b2,b3,b4,k.b,zBh k.s ?_⟩)
 repeat'(first|rfl|decide|refine xGy ?_ ?_)
theorem xCf {a0 a1 a2:Int}(k:SixH s x y [a0,a1,a2] []):zGv (cwC (zAy 3 0)) s (zCu [a0,a1,a2] []):=by
 refine zCv ((xA2 s _).mpr ⟨x,y,k.c,zBp (by simp) k.a,a0,a1,a2,k.a,zB0 k.b,k.b,zBh k.s ?_⟩)
 repeat'(first|rfl|decide|refine xGy ?_ ?_)
theorem xCg {a0 a1 a2 b0:Int}(k:SixH s x y [a0,a1,a2] [b0]):zGv (cwC (zAy 3 1)) s (zCu [a0,a1,a2] [b0]):=by
 refine zCv ((xBl s _).mpr ⟨x,y,k.c,zBp (by simp) k.a,a0,a1,a2,k.a,zBp (by simp) k.b,b0,k.b,zBh k.s ?_⟩)
 repeat'(first|rfl|decide|refine xGy ?_ ?_)
theorem xCh {a0 a1 a2 b0 b1:Int}(k:SixH s x y [a0,a1,a2] [b0,b1]):zGv (cwC (zAy 3 2)) s (zCu [a0,a1,a2] [b0,b1]):=by
 refine zCv ((xA3 s _).mpr ⟨x,y,k.c,zBp (by simp) k.a,a0,a1,a2,k.a,zBp (by simp) k.b,b0,b1,k.b,zBh k.s ?_⟩)
 repeat'(first|rfl|decide|refine xGy ?_ ?_)
theorem xCi {a0 a1 a2 b0 b1 b2:Int}(k:SixH s x y [a0,a1,a2] [b0,b1,b2]):zGv (cwC (zAy 3 3)) s (zCu [a0,a1,a2] [b0,b1,b2]):=by
 refine zCv ((xBm s _).mpr ⟨x,y,k.c,zBp (by simp) k.a,a0,a1,a2,k.a,zBp (by simp) k.b,b0,b1,b2,k.b,zBh k.s ?_⟩)
 repeat'(first|rfl|decide|refine xGy ?_ ?_)
theorem xCj {a0 a1 a2 b0 b1 b2 b3:Int}(k:SixH s x y [a0,a1,a2] [b0,b1,b2,b3]):zGv (cwC (zAy 3 4)) s (zCu [a0,a1,a2] [b0,b1,b2,b3]):=by
 refine zCv ((xA4 s _).mpr ⟨x,y,k.c,zBp (by simp) k.a,a0,a1,a2,k.a,zBp (by simp) k.b,b0,b1,b2,b3,k.b,zBh k.s ?_⟩)
 repeat'(first|rfl|decide|refine xGy ?_ ?_)
theorem xCk {a0 a1 a2 a3:Int}(k:SixH s x y [a0,a1,a2,a3] []):zGv (cwC (zAy 4 0)) s (zCu [a0,a1,a2,a3] []):=by
 refine zCv ((xBn s _).mpr ⟨x,y,k.c,zBp (by simp) k.a,a0,a1,a2,a3,k.a,zB0 k.b,k.b,zBh k.s ?_⟩)
 repeat'(first|rfl|decide|refine xGy ?_ ?_)
theorem xCl {a0 a1 a2 a3 b0:Int}(k:SixH s x y [a0,a1,a2,a3] [b0]):zGv (cwC (zAy 4 1)) s (zCu [a0,a1,a2,a3] [b0]):=by
 refine zCv ((xA5 s _).mpr ⟨x,y,k.c,zBp (by simp) k.a,a0,a1,a2,a3,k.a,zBp (by simp) k.b,b0,k.b,zBh k.s ?_⟩)
 repeat'(first|rfl|decide|refine xGy ?_ ?_)
theorem xCm {a0 a1 a2 a3 b0 b1:Int}(k:SixH s x y [a0,a1,a2,a3] [b0,b1]):zGv (cwC (zAy 4 2)) s (zCu [a0,a1,a2,a3] [b0,b1]):=by
 refine zCv ((xBo s _).mpr ⟨x,y,k.c,zBp (by simp) k.a,a0,a1,a2,a3,k.a,zBp (by simp) k.b,b0,b1,k.b,zBh k.s ?_⟩)
 repeat'(first|rfl|decide|refine xGy ?_ ?_)
theorem xCn {a0 a1 a2 a3 b0 b1 b2:Int}(k:SixH s x y [a0,a1,a2,a3] [b0,b1,b2]):zGv (cwC (zAy 4 3)) s (zCu [a0,a1,a2,a3] [b0,b1,b2]):=by
 refine zCv ((xA6 s _).mpr ⟨x,y,k.c,zBp (by simp) k.a,a0,a1,a2,a3,k.a,zBp (by simp) k.b,b0,b1,b2,k.b,zBh k.s ?_⟩)
 repeat'(first|rfl|decide|refine xGy ?_ ?_)
theorem xCo {a0 a1 a2 a3 a4:Int}(k:SixH s x y [a0,a1,a2,a3,a4] []):zGv (cwC (zAy 5 0)) s (zCu [a0,a1,a2,a3,a4] []):=by
 refine zCv ((xBp s _).mpr ⟨x,y,k.c,zBp (by simp) k.a,a0,a1,a2,a3,a4,k.a,zB0 k.b,k.b,zBh k.s ?_⟩)
 repeat'(first|rfl|decide|refine xGy ?_ ?_)
theorem xCp {a0 a1 a2 a3 a4 b0:Int}(k:SixH s x y [a0,a1,a2,a3,a4] [b0]):zGv (cwC (zAy 5 1)) s (zCu [a0,a1,a2,a3,a4] [b0]):=by
 refine zCv ((xA7 s _).mpr ⟨x,y,k.c,zBp (by simp) k.a,a0,a1,a2,a3,a4,k.a,zBp (by simp) k.b,b0,k.b,zBh k.s ?_⟩)
 repeat'(first|rfl|decide|refine xGy ?_ ?_)
theorem xCq {a0 a1 a2 a3 a4 b0 b1:Int}(k:SixH s x y [a0,a1,a2,a3,a4] [b0,b1]):zGv (cwC (zAy 5 2)) s (zCu [a0,a1,a2,a3,a4] [b0,b1]):=by
 refine zCv ((xBq s _).mpr ⟨x,y,k.c,zBp (by simp) k.a,a0,a1,a2,a3,a4,k.a,zBp (by simp) k.b,b0,b1,k.b,zBh k.s ?_⟩)
 repeat'(first|rfl|decide|refine xGy ?_ ?_)
theorem xCr {a0 a1 a2 a3 a4 a5:Int}(k:SixH s x y [a0,a1,a2,a3,a4,a5] []):zGv (cwC (zAy 6 0)) s (zCu [a0,a1,a2,a3,a4,a5] []):=by
 refine zCv ((xA8 s _).mpr ⟨x,y,k.c,zBp (by simp) k.a,a0,a1,a2,a3,a4,a5,k.a,zB0 k.b,k.b,zBh k.s ?_⟩)
 repeat'(first|rfl|decide|refine xGy ?_ ?_)
theorem xCs {a0 a1 a2 a3 a4 a5 b0:Int}(k:SixH s x y [a0,a1,a2,a3,a4,a5] [b0]):zGv (cwC (zAy 6 1)) s (zCu [a0,a1,a2,a3,a4,a5] [b0]):=by
 refine zCv ((xBr s _).mpr ⟨x,y,k.c,zBp (by simp) k.a,a0,a1,a2,a3,a4,a5,k.a,zBp (by simp) k.b,b0,k.b,zBh k.s ?_⟩)
 repeat'(first|rfl|decide|refine xGy ?_ ?_)
theorem xCt {a0 a1 a2 a3 a4 a5 a6:Int}(k:SixH s x y [a0,a1,a2,a3,a4,a5,a6] []):zGv (cwC (zAy 7 0)) s (zCu [a0,a1,a2,a3,a4,a5,a6] []):=by
 refine zCv ((xA9 s _).mpr ⟨x,y,k.c,zBp (by simp) k.a,a0,a1,a2,a3,a4,a5,a6,k.a,zB0 k.b,k.b,zBh k.s ?_⟩)
 repeat'(first|rfl|decide|refine xGy ?_ ?_)
end Go.Proofs.YtfnacgojmdbjmaaGreatDoor
namespace Go.Proofs.YtfnacgojmdbjmaaGreatDoor
open Go.Det Go.RowKit Go.Proofs.ZW PPH
theorem ySm {s x0 x1:ByteArray}(hc:zDg s { data:=#[58,58] }=some (x0,x1,false)):x1.data.toList=[]:=by
 unfold zDg at hc
 split at hc
 case isFalse=>cases hc
 unfold zVm Lib.cut at hc
 split at hc
 ·cases hc
 ·cases hc;rfl
theorem ySn {s x0 x1:ByteArray}{la lb:List Int}(hc:zDg s { data:=#[58,58] }=some (x0,x1,true))(ha:zBi (x0,!true)=some (la,true))(hb:zBi (x1,true)=some (lb,true))(hl:la.length+lb.length≤7)(hs:¬ s.data.toList=[]):
  ∃ cw,CwOk (zDc yNq) cw∧zGv cw s (zCu la lb):=by
 obtain hh|hh|hh|hh|hh|hh|hh|hh:la.length=0∨la.length=1∨la.length=2∨la.length=3∨la.length=4∨la.length=5∨la.length=6∨la.length=7:=by omega
 ·obtain rfl:=ex0 hh
  obtain ht|ht|ht|ht|ht|ht|ht|ht:lb.length=0∨lb.length=1∨lb.length=2∨lb.length=3∨lb.length=4∨lb.length=5∨lb.length=6∨lb.length=7:=by simp only[xG4,xHa] at hl;omega
  ·obtain rfl:=ex0 ht
   exact⟨_,zAq (zAy 0 0),xBu ⟨hc,ha,hb,hs⟩⟩
  ·obtain⟨b0,rfl⟩:=ex1 ht
   exact⟨_,zAq (zAy 0 1),xBv ⟨hc,ha,hb,hs⟩⟩
  ·obtain⟨b0,b1,rfl⟩:=ex2 ht
   exact⟨_,zAq (zAy 0 2),xBw ⟨hc,ha,hb,hs⟩⟩
  ·obtain⟨b0,b1,b2,rfl⟩:=ex3 ht
   exact⟨_,zAq (zAy 0 3),xBx ⟨hc,ha,hb,hs⟩⟩
  ·obtain⟨b0,b1,b2,b3,rfl⟩:=ex4 ht
   exact⟨_,zAq (zAy 0 4),xBy ⟨hc,ha,hb,hs⟩⟩
  ·obtain⟨b0,b1,b2,b3,b4,rfl⟩:=ex5 ht
   exact⟨_,zAq (zAy 0 5),xBz ⟨hc,ha,hb,hs⟩⟩
  ·obtain⟨b0,b1,b2,b3,b4,b5,rfl⟩:=ex6 ht
   exact⟨_,zAq (zAy 0 6),xB0 ⟨hc,ha,hb,hs⟩⟩
  ·obtain⟨b0,b1,b2,b3,b4,b5,b6,rfl⟩:=ex7 ht
   exact⟨_,zAq (zAy 0 7),xB1 ⟨hc,ha,hb,hs⟩⟩
 ·obtain⟨a0,rfl⟩:=ex1 hh
  obtain ht|ht|ht|ht|ht|ht|ht:lb.length=0∨lb.length=1∨lb.length=2∨lb.length=3∨lb.length=4∨lb.length=5∨lb.length=6:=by simp only[xG4,xHa] at hl;omega
  ·obtain rfl:=ex0 ht
   exact⟨_,zAq (zAy 1 0),xB2 ⟨hc,ha,hb,hs⟩⟩
  ·obtain⟨b0,rfl⟩:=ex1 ht
   exact⟨_,zAq (zAy 1 1),xB3 ⟨hc,ha,hb,hs⟩⟩
  ·obtain⟨b0,b1,rfl⟩:=ex2 ht
   exact⟨_,zAq (zAy 1 2),xB4 ⟨hc,ha,hb,hs⟩⟩
  ·obtain⟨b0,b1,b2,rfl⟩:=ex3 ht
   exact⟨_,zAq (zAy 1 3),xB5 ⟨hc,ha,hb,hs⟩⟩
  ·obtain⟨b0,b1,b2,b3,rfl⟩:=ex4 ht
   exact⟨_,zAq (zAy 1 4),xB6 ⟨hc,ha,hb,hs⟩⟩
  ·obtain⟨b0,b1,b2,b3,b4,rfl⟩:=ex5 ht
   exact⟨_,zAq (zAy 1 5),xB7 ⟨hc,ha,hb,hs⟩⟩
  ·obtain⟨b0,b1,b2,b3,b4,b5,rfl⟩:=ex6 ht
   exact⟨_,zAq (zAy 1 6),xB8 ⟨hc,ha,hb,hs⟩⟩
 ·obtain⟨a0,a1,rfl⟩:=ex2 hh
  obtain ht|ht|ht|ht|ht|ht:lb.length=0∨lb.length=1∨lb.length=2∨lb.length=3∨lb.length=4∨lb.length=5:=by simp only[xG4,xHa] at hl;omega
  ·obtain rfl:=ex0 ht
   exact⟨_,zAq (zAy 2 0),xB9 ⟨hc,ha,hb,hs⟩⟩
  ·obtain⟨b0,rfl⟩:=ex1 ht
   exact⟨_,zAq (zAy 2 1),xCa ⟨hc,ha,hb,hs⟩⟩
  ·obtain⟨b0,b1,rfl⟩:=ex2 ht
   exact⟨_,zAq (zAy 2 2),xCb ⟨hc,ha,hb,hs⟩⟩
  ·obtain⟨b0,b1,b2,rfl⟩:=ex3 ht
   exact⟨_,zAq (zAy 2 3),xCc ⟨hc,ha,hb,hs⟩⟩
  ·obtain⟨b0,b1,b2,b3,rfl⟩:=ex4 ht
   exact⟨_,zAq (zAy 2 4),xCd ⟨hc,ha,hb,hs⟩⟩
  ·obtain⟨b0,b1,b2,b3,b4,rfl⟩:=ex5 ht
   exact⟨_,zAq (zAy 2 5),xCe ⟨hc,ha,hb,hs⟩⟩
 ·obtain⟨a0,a1,a2,rfl⟩:=ex3 hh
  obtain ht|ht|ht|ht|ht:lb.length=0∨lb.length=1∨lb.length=2∨lb.length=3∨lb.length=4:=by simp only[xG4,xHa] at hl;omega
  ·obtain rfl:=ex0 ht
   exact⟨_,zAq (zAy 3 0),xCf ⟨hc,ha,hb,hs⟩⟩
  ·obtain⟨b0,rfl⟩:=ex1 ht
   exact⟨_,zAq (zAy 3 1),xCg ⟨hc,ha,hb,hs⟩⟩
  ·obtain⟨b0,b1,rfl⟩:=ex2 ht
   exact⟨_,zAq (zAy 3 2),xCh ⟨hc,ha,hb,hs⟩⟩
  ·obtain⟨b0,b1,b2,rfl⟩:=ex3 ht
   exact⟨_,zAq (zAy 3 3),xCi ⟨hc,ha,hb,hs⟩⟩
  ·obtain⟨b0,b1,b2,b3,rfl⟩:=ex4 ht
   exact⟨_,zAq (zAy 3 4),xCj ⟨hc,ha,hb,hs⟩⟩
 ·obtain⟨a0,a1,a2,a3,rfl⟩:=ex4 hh
  obtain ht|ht|ht|ht:lb.length=0∨lb.length=1∨lb.length=2∨lb.length=3:=by simp only[xG4,xHa] at hl;omega
  ·obtain rfl:=ex0 ht
   exact⟨_,zAq (zAy 4 0),xCk ⟨hc,ha,hb,hs⟩⟩
  ·obtain⟨b0,rfl⟩:=ex1 ht
   exact⟨_,zAq (zAy 4 1),xCl ⟨hc,ha,hb,hs⟩⟩
  ·obtain⟨b0,b1,rfl⟩:=ex2 ht
   exact⟨_,zAq (zAy 4 2),xCm ⟨hc,ha,hb,hs⟩⟩
  ·obtain⟨b0,b1,b2,rfl⟩:=ex3 ht
   exact⟨_,zAq (zAy 4 3),xCn ⟨hc,ha,hb,hs⟩⟩
 ·obtain⟨a0,a1,a2,a3,a4,rfl⟩:=ex5 hh
  obtain ht|ht|ht:lb.length=0∨lb.length=1∨lb.length=2:=by simp only[xG4,xHa] at hl;omega
  ·obtain rfl:=ex0 ht
   exact⟨_,zAq (zAy 5 0),xCo ⟨hc,ha,hb,hs⟩⟩
  ·obtain⟨b0,rfl⟩:=ex1 ht
   exact⟨_,zAq (zAy 5 1),xCp ⟨hc,ha,hb,hs⟩⟩
  ·obtain⟨b0,b1,rfl⟩:=ex2 ht
   exact⟨_,zAq (zAy 5 2),xCq ⟨hc,ha,hb,hs⟩⟩
 ·obtain⟨a0,a1,a2,a3,a4,a5,rfl⟩:=ex6 hh
  obtain ht|ht:lb.length=0∨lb.length=1:=by simp only[xG4,xHa] at hl;omega
  ·obtain rfl:=ex0 ht
   exact⟨_,zAq (zAy 6 0),xCr ⟨hc,ha,hb,hs⟩⟩
  ·obtain⟨b0,rfl⟩:=ex1 ht
   exact⟨_,zAq (zAy 6 1),xCs ⟨hc,ha,hb,hs⟩⟩
 ·obtain⟨a0,a1,a2,a3,a4,a5,a6,rfl⟩:=ex7 hh
  have ht:lb.length=0:=by simp only[xG4,xHa] at hl;omega
  obtain rfl:=ex0 ht
  exact⟨_,zAq (zAy 7 0),xCt ⟨hc,ha,hb,hs⟩⟩
theorem sxw {s x0 x1:ByteArray}{a0 a1 a2 a3 a4 a5 a6 a7:Int}(hc:zDg s { data:=#[58,58] }=some (x0,x1,false))(ha:zBi (x0,!false)=some ([a0,a1,a2,a3,a4,a5,a6,a7],true))(hb:zBi (x1,true)=some ([],true))(hs:¬ s.data.toList=[]):
  zAo Tryz.prog (cwC yNo) (zAa Tryz.f85) (zAg [.string s] 8) (zAh [] 64) (zA2 Tryz.prog Tryz.f85 fun v' _=>v'=yFz (6,(zFm [a0,a1,a2,a3,a4,a5,a6,a7]).1,(zFm [a0,a1,a2,a3,a4,a5,a6,a7]).2,true)):=by
 refine zAs (zAp _) (zEc _) (n:=9) (by kernel_rfl) ((vsw s _).mpr ⟨x0,x1,hc,.inr ⟨zBp (by simp) ha,a0,a1,a2,a3,a4,a5,a6,a7,ha,.inl ⟨zB0 hb,hb,zBh hs ?_⟩⟩⟩)
 repeat'(first|rfl|decide|refine xGy ?_ ?_)
theorem xCu (s:ByteArray)(y:Int×Int×Int×Bool)(hx:zVs s=some y):∃ cw,CwOk (zDc yNq) cw∧zAo Tryz.prog cw (zAa Tryz.f85) (zAg [.string s] 8) (zAh [] 64) (zA2 Tryz.prog Tryz.f85 fun v' _=>v'=yFz y):=by
 unfold zVs at hx
 obtain⟨⟨x0,x1,cut⟩,hc,hx⟩:=xGs.1 hx
 obtain⟨⟨la,oa⟩,ha,hx⟩:=xGs.1 hx
 obtain⟨⟨lb,ob⟩,hb,hx⟩:=xGs.1 hx
 simp only at ha hb hx
 split at hx
 ·rename_i H
  cases hx
  cases cut with
  |true=>exact⟨_,zAq (zZq true),ySk hc ha hb H⟩
  |false=>exact⟨_,zAq (zZq false),ySl hc ha hb H⟩
 ·rename_i H
  cases hx
  unfold zXb at H
  simp only[xIr,xIi,xIj,not_or,Bool.not_eq_false] at H
  obtain⟨rfl,rfl,hs,H⟩:=H
  cases cut with
  |true=>exact ySn hc ha hb (by simp only[xIj] at H;omega) hs
  |false=>
   have e:=zHg (ySm hc) hb
   cases e
   simp only[xIj,xHa,Nat.add_zero,ne_eq,xG9] at H
   obtain⟨a0,a1,a2,a3,a4,a5,a6,a7,rfl⟩:=ex8 H
   exact⟨_,zAq yNo,sxw hc ha hb hs⟩
def conD52:Con:=Con.opt zZp zVs yFz
theorem yV4 {W:World}(hW:GoodW W):zAk Tryz.prog W 6 85 conD52.own:=by
 refine zNm (l:=yNq) (Laying.empty hW.size) hW.size (by decide) zAl (OwnsAll.cons (yR8 hW) (OwnsAll.cons (yV1 hW) (zAb W 6))) Tryz.func85 (fn:=Tryz.f85) (c:=zAa Tryz.f85) (by kernel_rfl) (by kernel_rfl) fun args v hv=>?_
 split at hv
 case h_2=>cases hv
 rename_i a ha
 split at hv
 case h_2=>cases hv
 rename_i b hd
 cases hv
 obtain rfl:=zGn ha
 exact⟨rfl,rfl,by kernel_rfl,xCu a b hd⟩
def yJo (x:Int×Int):Option (List Int):=some (zDi x.1++zDi x.2)
def yDi:Con where
 own:=conD56.own
 w:=fun args s K=>match yHv args with
  |some a=>exN 8 fun l=>yJo a=some l∧K (.slice (some ⟨s.next,0,none⟩) 8 8) (s.new (.cells (l.map (Value.int .u64)) 47 false))
  |none=>False
 ok:=by
  intro args s K h
  split at h
  ·rename_i a ha
   obtain⟨l,hl,h,hk⟩:=zGo h
   have e:yDd a=some (l.map (Value.int .u64)):=by cases h;rfl
   exact⟨_,_,by unfold conD56 Con.made;simp only[ha,e],hk,fun K' k=>zE0 hl ⟨h,k⟩⟩
  ·exact h.elim
 mono:=by
  intro args s K K' k h
  split at h
  ·obtain⟨l,hl,h,hk⟩:=zGo h
   exact zE0 hl ⟨h,k _ _ hk⟩
  ·exact h.elim
def yNr:List Value→Option Int
 |[.int .u64 n]=>some n
 |_=>none
theorem yDj {args:List Value}{a:Int}(h:yNr args=some a):args=[.int .u64 a]:=by
 unfold yNr at h
 split at h
 case h_2=>cases h
 cases h;rfl
def conD54:Con:=Con.opt yNr zNj enS
theorem yV5 {W:World}(hW:GoodW W):zAk Tryz.prog W 6 71 conD54.own:=by
 refine zA6 (fn:=Tryz.f71) (c:=zAa Tryz.f71) hW Tryz.func71 (by kernel_rfl) (by kernel_rfl) fun args v h=>?_
 split at h
 case h_2=>cases h
 rename_i a ha
 split at h
 case h_2=>cases h
 rename_i b hb
 cases h
 obtain rfl:=yDj ha
 exact⟨rfl,rfl,fun w hG=>ySa hG hb⟩
def ySo:List Value→Option (Int×Int×Int)
 |[.agg ⟨[.int .i64 a,.int .u64 b,.int .u64 c]⟩]=>some (a,b,c)
 |_=>none
theorem zRe {args:List Value}{a:Int×Int×Int}(h:ySo args=some a):args=[.agg #[.int .i64 a.1,.int .u64 a.2.1,.int .u64 a.2.2]]:=by
 unfold ySo at h
 split at h
 case h_2=>cases h
 cases h;rfl
def okF (v h l:Int):Option Bool:=if v=6 then some true else if v=4 then(if h=0 then some (decide (l < 4294967296)) else some false) else some false
def enB (y:Bool):Value:=.bool y
def conD31:Con:=Con.opt ySo (fun x=>okF x.1 x.2.1 x.2.2) enB
def Lpr:List (Nat×Con):=[(68,conD31),(71,conD54),(90,conD55),(91,yDi),(92,yJm),(93,yJn)]
end Go.Proofs.YtfnacgojmdbjmaaGreatDoor
namespace Go.Proofs.YtfnacgojmdbjmaaGreatDoor
open Go.Det Go.RowKit  Go.Proofs.ZW
abbrev zy (Q:Value→Prop)(l:List Int)(p:Int×Int)(a b:List Int):Prop:=(zGu l PUnit.unit=some p)∧(true=true∧(∃ x:ByteArray,(zNl a PUnit.unit=some x)∧((ByteArray.size x+ByteArray.size { data:=#[58,58] }≤9223372036854775807)∧(∃ y:ByteArray,(zNl b PUnit.unit=some y)∧((ByteArray.size (x++{ data:=#[58,58] })+ByteArray.size y≤9223372036854775807)∧Q (Value.string (x++{ data:=#[58,58] }++y)))))))
theorem xCv (v a b:Int)(Q:Value→Prop):zBj Tryz.prog (cwC []) (oxE []) 1 (zAa Tryz.f68) (zAg [.agg #[.int .i64 v,.int .u64 a,.int .u64 b]] 8) (zAh [] 64) (zA2 Tryz.prog Tryz.f68 fun v _=>Q v)=(zAd (zAf (v=6)) (Q (Value.bool true)) (zAd (zAf (v=4)) (zAd (zAf (a=0)) (Q (Value.bool (zAf (b < 4294967296)))) (Q (Value.bool false))) (Q (Value.bool false)))):=by kernel_rfl
theorem xCw (v a b:Int)(Q:Value→Prop):zBj Tryz.prog (cwC Lpr) (oxE [17,41]) 5 (zAa Tryz.f70) (zAg [.agg #[.int .i64 v,.int .u64 a,.int .u64 b]] 8) (zAh [] 64) (zA2 Tryz.prog Tryz.f70 fun v _=>Q v)=((∃ x0:Bool,((okF v a b=some x0)∧zAd (!x0) (Q (Value.string { data:=#[] })) (zAd (zAf (v=4)) (((true=true)∧(((0:Int)≤24)∧(∃ x1:ByteArray,((zNj (andI .u64 (shrI .u64 b 24) 255)=some x1)∧((true=true)∧(((0:Int)≤16)∧(∃ x2:ByteArray,((zNj (andI .u64 (shrI .u64 b (16)) 255)=some x2)∧((true=true)∧(((0:Int)≤8)∧(∃ x3:ByteArray,((zNj (andI .u64 (shrI .u64 b (8)) 255)=some x3)∧((true=true)∧(((0:Int)≤0)∧(∃ x4:ByteArray,((zNj (andI .u64 (shrI .u64 b (0)) 255)=some x4)∧((true=true)∧(∃ x5:ByteArray,((zZo [x1,x2,x3,x4] { data:=#[46] }=some x5)∧Q (Value.string x5))))))))))))))))))))) ((∃ x1:Int,(∃ x2:Int,(∃ x3:Int,(∃ x4:Int,(∃ x5:Int,(∃ x6:Int,(∃ x7:Int,(∃ x8:Int,((yJo (a,b)=some [x1,x2,x3,x4,x5,x6,x7,x8])∧(((zGu [x1,x2,x3,x4,x5,x6,x7,x8] PUnit.unit=some (0,0))∧((true=true)∧(∃ x9:ByteArray,((zNl [x1,x2,x3,x4,x5,x6,x7,x8] PUnit.unit=some x9)∧Q (Value.string x9)))))∨((zy Q [x1,x2,x3,x4,x5,x6,x7,x8] (0,2) [] [x3,x4,x5,x6,x7,x8])∨((zy Q [x1,x2,x3,x4,x5,x6,x7,x8] (0,3) [] [x4,x5,x6,x7,x8])∨((zy Q [x1,x2,x3,x4,x5,x6,x7,x8] (0,4) [] [x5,x6,x7,x8])∨((zy Q [x1,x2,x3,x4,x5,x6,x7,x8] (0,5) [] [x6,x7,x8])∨((zy Q [x1,x2,x3,x4,x5,x6,x7,x8] (0,6) [] [x7,x8])∨((zy Q [x1,x2,x3,x4,x5,x6,x7,x8] (0,7) [] [x8])∨((zy Q [x1,x2,x3,x4,x5,x6,x7,x8] (0,8) [] [])∨((zy Q [x1,x2,x3,x4,x5,x6,x7,x8] (1,3) [x1] [x4,x5,x6,x7,x8])∨((zy Q [x1,x2,x3,x4,x5,x6,x7,x8] (1,4) [x1] [x5,x6,x7,x8])∨((zy Q [x1,x2,x3,x4,x5,x6,x7,x8] (1,5) [x1] [x6,x7,x8])∨((zy Q [x1,x2,x3,x4,x5,x6,x7,x8] (1,6) [x1] [x7,x8])∨((zy Q [x1,x2,x3,x4,x5,x6,x7,x8] (1,7) [x1] [x8])∨((zy Q [x1,x2,x3,x4,x5,x6,x7,x8] (1,8) [x1] [])∨((zy Q [x1,x2,x3,x4,x5,x6,x7,x8] (2,4) [x1,x2] [x5,x6,x7,x8])∨((zy Q [x1,x2,x3,x4,x5,x6,x7,x8] (2,5) [x1,x2] [x6,x7,x8])∨((zy Q [x1,x2,x3,x4,x5,x6,x7,x8] (2,6) [x1,x2] [x7,x8])∨((zy Q [x1,x2,x3,x4,x5,x6,x7,x8] (2,7) [x1,x2] [x8])∨((zy Q [x1,x2,x3,x4,x5,x6,x7,x8] (2,8) [x1,x2] [])∨((zy Q [x1,x2,x3,x4,x5,x6,x7,x8] (3,5) [x1,x2,x3] [x6,x7,x8])∨((zy Q [x1,x2,x3,x4,x5,x6,x7,x8] (3,6) [x1,x2,x3] [x7,x8])∨((zy Q [x1,x2,x3,x4,x5,x6,x7,x8] (3,7) [x1,x2,x3] [x8])∨((zy Q [x1,x2,x3,x4,x5,x6,x7,x8] (3,8) [x1,x2,x3] [])∨((zy Q [x1,x2,x3,x4,x5,x6,x7,x8] (4,6) [x1,x2,x3,x4] [x7,x8])∨((zy Q [x1,x2,x3,x4,x5,x6,x7,x8] (4,7) [x1,x2,x3,x4] [x8])∨((zy Q [x1,x2,x3,x4,x5,x6,x7,x8] (4,8) [x1,x2,x3,x4] [])∨((zy Q [x1,x2,x3,x4,x5,x6,x7,x8] (5,7) [x1,x2,x3,x4,x5] [x8])∨((zy Q [x1,x2,x3,x4,x5,x6,x7,x8] (5,8) [x1,x2,x3,x4,x5] [])∨((zy Q [x1,x2,x3,x4,x5,x6,x7,x8] (6,8) [x1,x2,x3,x4,x5,x6] [])∨False))))))))))))))))))))))))))))))))))))))))))):=by kernel_rfl
end Go.Proofs.YtfnacgojmdbjmaaGreatDoor
namespace Go.Proofs.YtfnacgojmdbjmaaGreatDoor
open Go.Det Go.RowKit Go.Proofs.ZW PPH
theorem xCx (x:Int×Int×Int)(y:Bool)(hx:okF x.1 x.2.1 x.2.2=some y):zAo Tryz.prog (cwC []) (zAa Tryz.f68) (zAg [.agg #[.int .i64 x.1,.int .u64 x.2.1,.int .u64 x.2.2]] 8) (zAh [] 64) (zA2 Tryz.prog Tryz.f68 fun v' _=>v'=enB y):=by
 obtain⟨v,a,b⟩:=x
 refine zAs (zAp _) (zEc _) (n:=1) (by kernel_rfl) ((xCv v a b _).mpr ?_)
 unfold okF at hx
 simp only at hx
 repeat' first
  |((refine bifW_c (fun hc=>?_) (fun hc=>?_))<;>first|rw[xGq hc] at hx|rw[xGr hc] at hx)
  |(cases hx;rfl)
  |(cases hx;simp only[enB,zAz])
theorem yV6 {W:World}(hW:GoodW W):zAk Tryz.prog W 6 68 conD31.own:=
 zA0 (fun x:Int×Int×Int=>[.agg #[.int .i64 x.1,.int .u64 x.2.1,.int .u64 x.2.2]]) (Laying.empty hW.size) hW.size (by decide) zAl (zAb W 6) Tryz.func68 (fn:=Tryz.f68) (c:=zAa Tryz.f68) (by kernel_rfl) (by kernel_rfl) (fun _ _ h=>zRe h) (fun a=>⟨rfl,(by kernel_rfl)⟩) (fun b=>rfl) xCx
def grp (a b:Int):List Int:=zDi a++zDi b
def yV7:ByteArray:={ data:=#[46] }
def ySp:ByteArray:={ data:=#[58,58] }
def pr4 (b:Int):Option ByteArray:=(zNj (andI .u64 (shrI .u64 b 24) 255)).bind fun x1=>(zNj (andI .u64 (shrI .u64 b 16) 255)).bind fun x2=>(zNj (andI .u64 (shrI .u64 b 8) 255)).bind fun x3=>(zNj (andI .u64 (shrI .u64 b 0) 255)).bind fun x4=>zZo [x1,x2,x3,x4] yV7
def pr6 (G:List Int)(ij:Int×Int):Option ByteArray:=
 if ij=(0,0) then zNl G () else if ij∈zPq then(zNl (G.take ij.1.toNat) ()).bind fun s=>(zNl (G.drop ij.2.toNat) ()).bind fun t=>if s.size+2+t.size≤1000 then some (s++ySp++t) else none else none
def prF (v a b:Int):Option ByteArray:=
 (okF v a b).bind fun ok=>if ok=true then(if v=4 then pr4 b else(zGu (grp a b) ()).bind fun ij=>pr6 (grp a b) ij) else some ByteArray.empty
theorem xCy (x:Int×Int×Int)(y:ByteArray)(hx:prF x.1 x.2.1 x.2.2=some y):zAo Tryz.prog (cwC Lpr) (zAa Tryz.f70) (zAg [.agg #[.int .i64 x.1,.int .u64 x.2.1,.int .u64 x.2.2]] 8) (zAh [] 64) (zA2 Tryz.prog Tryz.f70 fun v' _=>v'=enS y):=by
 obtain⟨v,a,b⟩:=x
 refine zAs (zAp _) (zEc _) (n:=5) (by kernel_rfl) ((xCw v a b _).mpr ?_)
 unfold prF at hx
 simp only at hx
 obtain⟨ok,hok,hx⟩:=xGs.1 hx
 refine⟨ok,hok,bifW_n (fun h=>?_) (fun h=>?_)⟩
 rotate_left
 ·rw[xGr h] at hx;cases hx;rfl
 rw[xGq h] at hx
 refine bifW_c (fun h4=>?_) (fun h4=>?_)
 ·rw[xGq h4] at hx
  unfold pr4 at hx
  obtain⟨x1,h1,hx⟩:=xGs.1 hx
  obtain⟨x2,h2,hx⟩:=xGs.1 hx
  obtain⟨x3,h3,hx⟩:=xGs.1 hx
  obtain⟨x4,h4,hx⟩:=xGs.1 hx
  exact⟨rfl,by decide,x1,h1,rfl,by decide,x2,h2,rfl,by decide,x3,h3,rfl,by decide,x4,h4,rfl,y,hx,rfl⟩
 ·rw[xGr h4] at hx
  obtain⟨ij,hz,hx⟩:=xGs.1 hx
  refine⟨_,_,_,_,_,_,_,_,rfl,?_⟩
  unfold pr6 at hx
  split at hx
  ·rename_i he
   subst he
   exact .inl ⟨hz,rfl,y,hx,rfl⟩
  ·split at hx
   case isFalse=>cases hx
   rename_i h0 hm
   obtain⟨s,hs,hx⟩:=xGs.1 hx
   obtain⟨t,ht,hx⟩:=xGs.1 hx
   split at hx
   case isFalse=>cases hx
   rename_i hsz
   cases hx
   have e1:s.size+ByteArray.size { data:=#[58,58] }≤9223372036854775807:=by
    have:ByteArray.size { data:=#[58,58] }=2:=rfl
    omega
   have e2:(s++({ data:=#[58,58] }:ByteArray)).size+t.size≤9223372036854775807:=by
    have:ByteArray.size { data:=#[58,58] }=2:=rfl
    rw[xHi]
    omega
   simp only[zPq,xG6,xHh,or_false] at hm
   rcases hm with rfl|hm
   ·exact absurd rfl h0
   refine .inr ?_
   repeat'(rcases hm with rfl|hm)
   all_goals (repeat'(first|exact Or.inl ⟨hz,rfl,s,hs,e1,t,ht,e2,rfl⟩|exact⟨hz,rfl,s,hs,e1,t,ht,e2,rfl⟩|refine Or.inr ?_))
def conD26:Con:=Con.opt ySo (fun x=>prF x.1 x.2.1 x.2.2) enS
theorem yV8 {W:World}(hW:GoodW W):OwnsAll Tryz.prog W 6 (zZ2 Lpr):=
 OwnsAll.con (yV6 hW) (OwnsAll.con (yV5 hW) (OwnsAll.con (yVt hW) (OwnsAll.con (c:=yDi) (yV0 hW) (OwnsAll.con (c:=yJm) (yV2 hW) (OwnsAll.con (c:=yJn) (yV3 hW) (zAb W 6))))))
theorem yV9 {W:World}(hW:GoodW W):zAk Tryz.prog W 6 70 conD26.own:=
 zA0 (fun x:Int×Int×Int=>[.agg #[.int .i64 x.1,.int .u64 x.2.1,.int .u64 x.2.2]]) (Laying.empty hW.size) hW.size (by decide) zAl (yV8 hW) Tryz.func70 (fn:=Tryz.f70) (c:=zAa Tryz.f70) (by kernel_rfl) (by kernel_rfl) (fun _ _ h=>zRe h) (fun a=>⟨rfl,(by kernel_rfl)⟩) (fun b=>rfl) xCy
end Go.Proofs.YtfnacgojmdbjmaaGreatDoor
namespace Go.Proofs.YtfnacgojmdbjmaaGreatDoor.PRD
open Go.RowKit Go.Proofs.ZW Go.Proofs.ZL Go.Proofs.ZM
open Go.Det (inQ M64 zB1 qn zJc zJb zFf)
def Ya0.f (a0_0:Int)(a0_1:Int)(a0_2:Int)(a0_3:Int)(a1_0:Int)(a1_1:Int)(a1_2:Int):Option (Bool):=(Yi.f a0_0 a0_1 a0_2 a0_3).bind fun t103=>(if t103=true then((Ym.f a1_0 a1_1 a1_2).bind fun t104=>(if t104=true then(if a1_0=a0_0 then((YF.f a1_0 a0_3).bind fun bt105=>((Ys.f a1_1 a1_2 bt105.1 bt105.2).bind fun bt107=>(some (bt107.1==a0_1&&(bt107.2==a0_2))))) else(some false)) else(some false))) else(some false))
def YW.f (a0:Int)(a1:Int)(a2:Int)(a3:Int):Option (Int×Int×Int×Int×Int×Int):=(Ye.f 300 a0 a1 a2).bind fun bt144=>((YN.f bt144.2.1 bt144.2.2 0 (Go.Det.shrI .u64 a3 (IntKind.u64.wrap (Go.Det.andI .i64 (Go.Det.shrI .i64 a0 9) 63)))).bind fun bt149=>(if bt149.2.2=true then((Ym.f bt144.1 bt149.1 bt149.2.1).bind fun t153=>(if t153=true then(some (bt144.1,bt144.2.1,bt144.2.2,bt144.1,bt149.1,bt149.2.1)) else(some (bt144.1,bt144.2.1,bt144.2.2,bt144.1,bt144.2.1,bt144.2.2)))) else(some (bt144.1,bt144.2.1,bt144.2.2,bt144.1,bt144.2.1,bt144.2.2))))
def YC.f (a0_0:Int)(a0_1:Int)(a1_0:Int)(a1_1:Int):Option (Bool):=if a0_0 < a1_0 then(some true) else(if a0_0=a1_0 then(some (decide (a0_1 < a1_1))) else(some false))
def Yq0.f (a0_0:Int)(a0_1:Int)(a0_2:Int)(a0_3:Int)(a0_4:Int)(a0_5:Int)(a1_0:Int)(a1_1:Int)(a1_2:Int)(a1_3:Int)(a1_4:Int)(a1_5:Int):Option (Bool):=(YE.f a0_0 a0_1 a0_2 a0_3 a0_4 a0_5).bind fun t156=>(if t156=true then((YE.f a1_0 a1_1 a1_2 a1_3 a1_4 a1_5).bind fun t157=>(if t157=true then(if a0_0=a1_0 then((Yx.f a0_3 a0_4 a0_5 a1_0 a1_1 a1_2).bind fun t158=>(if t158=true then(some false) else((Yx.f a1_3 a1_4 a1_5 a0_0 a0_1 a0_2).bind fun t159=>(some (!t159))))) else(some false)) else(some false))) else(some false))
def Ym0.f (a0_0:Int)(a0_1:Int)(a0_2:Int)(a0_3:Int)(a1_0:Int)(a1_1:Int)(a1_2:Int):Option (Bool):=(YV.f a0_0 a0_1 a0_2 a0_3).bind fun t162=>(if t162=true then((YK.f a1_0 a1_1 a1_2).bind fun t163=>(if t163=true then(if a1_0=a0_0 then((YP.f a0_0 a0_3).bind fun bt164=>((YY.f a1_1 a1_2 bt164.1 bt164.2).bind fun bt166=>(some (bt166.1==a0_1&&(bt166.2==a0_2))))) else(some false)) else(some false))) else(some false))
def Yx0.f (a0_0:Int)(a0_1:Int)(a0_2:Int)(a0_3:Int)(a0_4:Int)(a0_5:Int)(a1_0:Int)(a1_1:Int)(a1_2:Int)(a1_3:Int):Option (Bool):=(YE.f a0_0 a0_1 a0_2 a0_3 a0_4 a0_5).bind fun t170=>(if t170=true then((Ym0.f a1_0 a1_1 a1_2 a1_3 a0_0 a0_1 a0_2).bind fun t171=>(if t171=true then((Ym0.f a1_0 a1_1 a1_2 a1_3 a0_3 a0_4 a0_5).bind fun t172=>(some t172)) else(some false))) else(some false))
def Yr0.f (a0_0:Int)(a0_1:Int)(a0_2:Int)(a0_3:Int)(a0_4:Int)(a0_5:Int)(a1_0:Int)(a1_1:Int)(a1_2:Int)(a1_3:Int)(a1_4:Int)(a1_5:Int):Option (Bool):=(YE.f a0_0 a0_1 a0_2 a0_3 a0_4 a0_5).bind fun t175=>(if t175=true then((YE.f a1_0 a1_1 a1_2 a1_3 a1_4 a1_5).bind fun t176=>(if t176=true then((Yx.f a0_0 a0_1 a0_2 a1_0 a1_1 a1_2).bind fun t179=>(if t179=true then(some true) else(if(a0_0==a1_0&&((a0_1==a1_1&&(a0_2==a1_2))))=true then((Yx.f a0_3 a0_4 a0_5 a1_3 a1_4 a1_5).bind fun t180=>(some t180)) else(some false)))) else(some false))) else(some false))
end Go.Proofs.YtfnacgojmdbjmaaGreatDoor.PRD
namespace Go.Proofs.YtfnacgojmdbjmaaGreatDoor
open Go.Det Go.RowKit PRD Go.Proofs.ZW
def yNs:List Value→Option (Int×Int×Int×Int×Int×Int×Int)
 |[.agg ⟨[.int .i64 a,.int .u64 b,.int .u64 c,.int .i64 d]⟩,.agg ⟨[.int .i64 e,.int .u64 f,.int .u64 g]⟩]=>some (a,b,c,d,e,f,g)
 |_=>none
def yNt (x:Int×Int×Int×Int×Int×Int×Int):List Value:=[.agg #[.int .i64 x.1,.int .u64 x.2.1,.int .u64 x.2.2.1,.int .i64 x.2.2.2.1],.agg #[.int .i64 x.2.2.2.2.1,.int .u64 x.2.2.2.2.2.1,.int .u64 x.2.2.2.2.2.2]]
theorem yDk {args:List Value}{a:Int×Int×Int×Int×Int×Int×Int}(h:yNs args=some a):args=yNt a:=by
 unfold yNs at h
 split at h
 case h_2=>cases h
 cases h;rfl
def yNu (y:Bool):Value:=.bool y
def con27:Con:=Con.opt yNs (fun x=>Ya0.f x.1 x.2.1 x.2.2.1 x.2.2.2.1 x.2.2.2.2.1 x.2.2.2.2.2.1 x.2.2.2.2.2.2) yNu
def L27:List (Nat×Con):=[(16,con16),(44,con44),(65,con65),(55,con55)]
def yNv:List Value→Option (Int×Int×Int×Int)
 |[.int .i64 a,.int .u64 b,.int .u64 c,.int .u64 d]=>some (a,b,c,d)
 |_=>none
def yNw (x:Int×Int×Int×Int):List Value:=[.int .i64 x.1,.int .u64 x.2.1,.int .u64 x.2.2.1,.int .u64 x.2.2.2]
theorem yDl {args:List Value}{a:Int×Int×Int×Int}(h:yNv args=some a):args=yNw a:=by
 unfold yNv at h
 split at h
 case h_2=>cases h
 cases h;rfl
def yNx (y:Int×Int×Int×Int×Int×Int):Value:=.agg #[.int .i64 y.1,.int .u64 y.2.1,.int .u64 y.2.2.1,.int .i64 y.2.2.2.1,.int .u64 y.2.2.2.2.1,.int .u64 y.2.2.2.2.2]
def con36:Con:=Con.opt yNv (fun x=>YW.f x.1 x.2.1 x.2.2.1 x.2.2.2) yNx
def L36:List (Nat×Con):=[(42,con42),(43,con43),(44,con44)]
def yNy:List Value→Option (Int×Int×Int×Int)
 |[.agg ⟨[.int .u64 a,.int .u64 b]⟩,.agg ⟨[.int .u64 c,.int .u64 d]⟩]=>some (a,b,c,d)
 |_=>none
def yNz (x:Int×Int×Int×Int):List Value:=[.agg #[.int .u64 x.1,.int .u64 x.2.1],.agg #[.int .u64 x.2.2.1,.int .u64 x.2.2.2]]
theorem yDm {args:List Value}{a:Int×Int×Int×Int}(h:yNy args=some a):args=yNz a:=by
 unfold yNy at h
 split at h
 case h_2=>cases h
 cases h;rfl
def yN0 (y:Bool):Value:=.bool y
def con38:Con:=Con.opt yNy (fun x=>YC.f x.1 x.2.1 x.2.2.1 x.2.2.2) yN0
def L38:List (Nat×Con):=[]
def yN1:List Value→Option (Int×Int×Int×Int×Int×Int×Int×Int×Int×Int×Int×Int)
 |[.agg ⟨[.int .i64 a,.int .u64 b,.int .u64 c,.int .i64 d,.int .u64 e,.int .u64 f]⟩,.agg ⟨[.int .i64 g,.int .u64 h,.int .u64 i,.int .i64 j,.int .u64 k,.int .u64 l]⟩]=>some (a,b,c,d,e,f,g,h,i,j,k,l)
 |_=>none
def yN2 (x:Int×Int×Int×Int×Int×Int×Int×Int×Int×Int×Int×Int):List Value:=[.agg #[.int .i64 x.1,.int .u64 x.2.1,.int .u64 x.2.2.1,.int .i64 x.2.2.2.1,.int .u64 x.2.2.2.2.1,.int .u64 x.2.2.2.2.2.1],.agg #[.int .i64 x.2.2.2.2.2.2.1,.int .u64 x.2.2.2.2.2.2.2.1,.int .u64 x.2.2.2.2.2.2.2.2.1,.int .i64 x.2.2.2.2.2.2.2.2.2.1,.int .u64 x.2.2.2.2.2.2.2.2.2.2.1,.int .u64 x.2.2.2.2.2.2.2.2.2.2.2]]
theorem yDn {args:List Value}{a:Int×Int×Int×Int×Int×Int×Int×Int×Int×Int×Int×Int}(h:yN1 args=some a):args=yN2 a:=by
 unfold yN1 at h
 split at h
 case h_2=>cases h
 cases h;rfl
def yN3 (y:Bool):Value:=.bool y
def con39:Con:=Con.opt yN1 (fun x=>Yq0.f x.1 x.2.1 x.2.2.1 x.2.2.2.1 x.2.2.2.2.1 x.2.2.2.2.2.1 x.2.2.2.2.2.2.1 x.2.2.2.2.2.2.2.1 x.2.2.2.2.2.2.2.2.1 x.2.2.2.2.2.2.2.2.2.1 x.2.2.2.2.2.2.2.2.2.2.1 x.2.2.2.2.2.2.2.2.2.2.2) yN3
def L39:List (Nat×Con):=[(48,con48),(75,con75)]
def yN4:List Value→Option (Int×Int×Int×Int×Int×Int×Int)
 |[.agg ⟨[.int .i64 a,.int .u64 b,.int .u64 c,.int .i64 d]⟩,.agg ⟨[.int .i64 e,.int .u64 f,.int .u64 g]⟩]=>some (a,b,c,d,e,f,g)
 |_=>none
def yN5 (x:Int×Int×Int×Int×Int×Int×Int):List Value:=[.agg #[.int .i64 x.1,.int .u64 x.2.1,.int .u64 x.2.2.1,.int .i64 x.2.2.2.1],.agg #[.int .i64 x.2.2.2.2.1,.int .u64 x.2.2.2.2.2.1,.int .u64 x.2.2.2.2.2.2]]
theorem yDo {args:List Value}{a:Int×Int×Int×Int×Int×Int×Int}(h:yN4 args=some a):args=yN5 a:=by
 unfold yN4 at h
 split at h
 case h_2=>cases h
 cases h;rfl
def yN6 (y:Bool):Value:=.bool y
def con26:Con:=Con.opt yN4 (fun x=>Ym0.f x.1 x.2.1 x.2.2.1 x.2.2.2.1 x.2.2.2.2.1 x.2.2.2.2.2.1 x.2.2.2.2.2.2) yN6
def L26:List (Nat×Con):=[(22,con22),(68,con68),(67,con67),(66,con66)]
def yN7:List Value→Option (Int×Int×Int×Int×Int×Int×Int×Int×Int×Int)
 |[.agg ⟨[.int .i64 a,.int .u64 b,.int .u64 c,.int .i64 d,.int .u64 e,.int .u64 f]⟩,.agg ⟨[.int .i64 g,.int .u64 h,.int .u64 i,.int .i64 j]⟩]=>some (a,b,c,d,e,f,g,h,i,j)
 |_=>none
def yN8 (x:Int×Int×Int×Int×Int×Int×Int×Int×Int×Int):List Value:=[.agg #[.int .i64 x.1,.int .u64 x.2.1,.int .u64 x.2.2.1,.int .i64 x.2.2.2.1,.int .u64 x.2.2.2.2.1,.int .u64 x.2.2.2.2.2.1],.agg #[.int .i64 x.2.2.2.2.2.2.1,.int .u64 x.2.2.2.2.2.2.2.1,.int .u64 x.2.2.2.2.2.2.2.2.1,.int .i64 x.2.2.2.2.2.2.2.2.2]]
theorem yDp {args:List Value}{a:Int×Int×Int×Int×Int×Int×Int×Int×Int×Int}(h:yN7 args=some a):args=yN8 a:=by
 unfold yN7 at h
 split at h
 case h_2=>cases h
 cases h;rfl
def yN9 (y:Bool):Value:=.bool y
def con40:Con:=Con.opt yN7 (fun x=>Yx0.f x.1 x.2.1 x.2.2.1 x.2.2.2.1 x.2.2.2.2.1 x.2.2.2.2.2.1 x.2.2.2.2.2.2.1 x.2.2.2.2.2.2.2.1 x.2.2.2.2.2.2.2.2.1 x.2.2.2.2.2.2.2.2.2) yN9
def L40:List (Nat×Con):=[(48,con48),(26,con26)]
def yOa:List Value→Option (Int×Int×Int×Int×Int×Int×Int×Int×Int×Int×Int×Int)
 |[.agg ⟨[.int .i64 a,.int .u64 b,.int .u64 c,.int .i64 d,.int .u64 e,.int .u64 f]⟩,.agg ⟨[.int .i64 g,.int .u64 h,.int .u64 i,.int .i64 j,.int .u64 k,.int .u64 l]⟩]=>some (a,b,c,d,e,f,g,h,i,j,k,l)
 |_=>none
def yOb (x:Int×Int×Int×Int×Int×Int×Int×Int×Int×Int×Int×Int):List Value:=[.agg #[.int .i64 x.1,.int .u64 x.2.1,.int .u64 x.2.2.1,.int .i64 x.2.2.2.1,.int .u64 x.2.2.2.2.1,.int .u64 x.2.2.2.2.2.1],.agg #[.int .i64 x.2.2.2.2.2.2.1,.int .u64 x.2.2.2.2.2.2.2.1,.int .u64 x.2.2.2.2.2.2.2.2.1,.int .i64 x.2.2.2.2.2.2.2.2.2.1,.int .u64 x.2.2.2.2.2.2.2.2.2.2.1,.int .u64 x.2.2.2.2.2.2.2.2.2.2.2]]
theorem yDq {args:List Value}{a:Int×Int×Int×Int×Int×Int×Int×Int×Int×Int×Int×Int}(h:yOa args=some a):args=yOb a:=by
 unfold yOa at h
 split at h
 case h_2=>cases h
 cases h;rfl
def yOc (y:Bool):Value:=.bool y
def con41:Con:=Con.opt yOa (fun x=>Yr0.f x.1 x.2.1 x.2.2.1 x.2.2.2.1 x.2.2.2.2.1 x.2.2.2.2.2.1 x.2.2.2.2.2.2.1 x.2.2.2.2.2.2.2.1 x.2.2.2.2.2.2.2.2.1 x.2.2.2.2.2.2.2.2.2.1 x.2.2.2.2.2.2.2.2.2.2.1 x.2.2.2.2.2.2.2.2.2.2.2) yOc
def L41:List (Nat×Con):=[(48,con48),(75,con75)]
theorem xCz (a b c d e f g:Int)(Q:Value→Prop):zAo Tryz.prog (cwC L27) (zAa Tryz.f27) (zAg [.agg #[.int .i64 a,.int .u64 b,.int .u64 c,.int .i64 d],.agg #[.int .i64 e,.int .u64 f,.int .u64 g]] 8) (zAh [] 64) (zA2 Tryz.prog Tryz.f27 fun v _=>Q v)=((∃ x0:Bool,((Yi.f a b c d=Option.some x0)∧zAd (x0) ((∃ x1:Bool,((Ym.f e f g=Option.some x1)∧zAd (x1) (zAd (zAf (e=a)) ((∃ x2:Int×Int,((YF.f e d=Option.some x2)∧(∃ x3:Int×Int,((Ys.f f g (Prod.fst x2) (Prod.snd x2)=Option.some x3)∧Q (Value.bool (zAf (Prod.fst x3=b)&&(zAf (Prod.snd x3=c)&&Bool.true)))))))) (Q (Value.bool Bool.false))) (Q (Value.bool Bool.false))))) (Q (Value.bool Bool.false))))):=by kernel_rfl
theorem xC0 (a b c d:Int)(Q:Value→Prop):zAo Tryz.prog (cwC L36) (zAa Tryz.f36) (zAg [.int .i64 a,.int .u64 b,.int .u64 c,.int .u64 d] 8) (zAh [] 64) (zA2 Tryz.prog Tryz.f36 fun v _=>Q v)=((∃ x0:Int×Int×Int,((Ye.f 300 a b c=Option.some x0)∧(((0:Int)≤9)∧((0≤IntKind.wrap IntKind.u64 (andI IntKind.i64 (shrI IntKind.i64 a 9) 63))∧(∃ x1:Int×Int×Bool,((YN.f (Prod.fst (Prod.snd x0)) (Prod.snd (Prod.snd x0)) 0 (shrI IntKind.u64 d (IntKind.wrap IntKind.u64 (andI IntKind.i64 (shrI IntKind.i64 a 9) 63)))=Option.some x1)∧zAd (!Prod.snd (Prod.snd x1)) (Q (Value.agg #[Value.int IntKind.i64 (Prod.fst x0),Value.int IntKind.u64 (Prod.fst (Prod.snd x0)),Value.int IntKind.u64 (Prod.snd (Prod.snd x0)),Value.int IntKind.i64 (Prod.fst x0),Value.int IntKind.u64 (Prod.fst (Prod.snd x0)),Value.int IntKind.u64 (Prod.snd (Prod.snd x0))])) ((∃ x2:Bool,((Ym.f (Prod.fst x0) (Prod.fst x1) (Prod.fst (Prod.snd x1))=Option.some x2)∧zAd (!x2) (Q (Value.agg #[Value.int IntKind.i64 (Prod.fst x0),Value.int IntKind.u64 (Prod.fst (Prod.snd x0)),Value.int IntKind.u64 (Prod.snd (Prod.snd x0)),Value.int IntKind.i64 (Prod.fst x0),Value.int IntKind.u64 (Prod.fst (Prod.snd x0)),Value.int IntKind.u64 (Prod.snd (Prod.snd x0))])) (Q (Value.agg #[Value.int IntKind.i64 (Prod.fst x0),Value.int IntKind.u64 (Prod.fst (Prod.snd x0)),Value.int IntKind.u64 (Prod.snd (Prod.snd x0)),Value.int IntKind.i64 (Prod.fst x0),Value.int IntKind.u64 (Prod.fst x1),Value.int IntKind.u64 (Prod.fst (Prod.snd x1))])))))))))))):=by kernel_rfl
theorem xC1 (a b c d:Int)(Q:Value→Prop):zAo Tryz.prog (cwC L38) (zAa Tryz.f38) (zAg [.agg #[.int .u64 a,.int .u64 b],.agg #[.int .u64 c,.int .u64 d]] 8) (zAh [] 64) (zA2 Tryz.prog Tryz.f38 fun v _=>Q v)=(zAd (zAf (a < c)) (Q (Value.bool Bool.true)) (zAd (zAf (a=c)) (Q (Value.bool (zAf (b < d)))) (Q (Value.bool Bool.false)))):=by kernel_rfl
theorem xC2 (a b c d e f g h i j k l:Int)(Q:Value→Prop):zAo Tryz.prog (cwC L39) (zAa Tryz.f39) (zAg [.agg #[.int .i64 a,.int .u64 b,.int .u64 c,.int .i64 d,.int .u64 e,.int .u64 f],.agg #[.int .i64 g,.int .u64 h,.int .u64 i,.int .i64 j,.int .u64 k,.int .u64 l]] 8) (zAh [] 64) (zA2 Tryz.prog Tryz.f39 fun v _=>Q v)=((∃ x0:Bool,((YE.f a b c d e f=Option.some x0)∧zAd (x0) ((∃ x1:Bool,((YE.f g h i j k l=Option.some x1)∧zAd (x1) (zAd (zAf (a=g)) ((∃ x2:Bool,((Yx.f d e f g h i=Option.some x2)∧zAd (!x2) ((∃ x3:Bool,((Yx.f j k l a b c=Option.some x3)∧Q (Value.bool !x3)))) (Q (Value.bool Bool.false))))) (Q (Value.bool Bool.false))) (Q (Value.bool Bool.false))))) (Q (Value.bool Bool.false))))):=by kernel_rfl
theorem xC3 (a b c d e f g:Int)(Q:Value→Prop):zAo Tryz.prog (cwC L26) (zAa Tryz.f26) (zAg [.agg #[.int .i64 a,.int .u64 b,.int .u64 c,.int .i64 d],.agg #[.int .i64 e,.int .u64 f,.int .u64 g]] 8) (zAh [] 64) (zA2 Tryz.prog Tryz.f26 fun v _=>Q v)=((∃ x0:Bool,((YV.f a b c d=Option.some x0)∧zAd (x0) ((∃ x1:Bool,((YK.f e f g=Option.some x1)∧zAd (x1) (zAd (zAf (e=a)) ((∃ x2:Int×Int,((YP.f a d=Option.some x2)∧(∃ x3:Int×Int,((YY.f f g (Prod.fst x2) (Prod.snd x2)=Option.some x3)∧Q (Value.bool (zAf (Prod.fst x3=b)&&(zAf (Prod.snd x3=c)&&Bool.true)))))))) (Q (Value.bool Bool.false))) (Q (Value.bool Bool.false))))) (Q (Value.bool Bool.false))))):=by kernel_rfl
theorem xC4 (a b c d e f g h i j:Int)(Q:Value→Prop):zAo Tryz.prog (cwC L40) (zAa Tryz.f40) (zAg [.agg #[.int .i64 a,.int .u64 b,.int .u64 c,.int .i64 d,.int .u64 e,.int .u64 f],.agg #[.int .i64 g,.int .u64 h,.int .u64 i,.int .i64 j]] 8) (zAh [] 64) (zA2 Tryz.prog Tryz.f40 fun v _=>Q v)=((∃ x0:Bool,((YE.f a b c d e f=Option.some x0)∧zAd (x0) ((∃ x1:Bool,((Ym0.f g h i j a b c=Option.some x1)∧zAd (x1) ((∃ x2:Bool,((Ym0.f g h i j d e f=Option.some x2)∧Q (Value.bool x2)))) (Q (Value.bool Bool.false))))) (Q (Value.bool Bool.false))))):=by kernel_rfl
theorem xC5 (a b c d e f g h i j k l:Int)(Q:Value→Prop):zAo Tryz.prog (cwC L41) (zAa Tryz.f41) (zAg [.agg #[.int .i64 a,.int .u64 b,.int .u64 c,.int .i64 d,.int .u64 e,.int .u64 f],.agg #[.int .i64 g,.int .u64 h,.int .u64 i,.int .i64 j,.int .u64 k,.int .u64 l]] 8) (zAh [] 64) (zA2 Tryz.prog Tryz.f41 fun v _=>Q v)=((∃ x0:Bool,((YE.f a b c d e f=Option.some x0)∧zAd (!x0) (Q (Value.bool Bool.false)) ((∃ x1:Bool,((YE.f g h i j k l=Option.some x1)∧zAd (!x1) (Q (Value.bool Bool.false)) ((∃ x2:Bool,((Yx.f a b c g h i=Option.some x2)∧zAd (x2) (Q (Value.bool Bool.true)) (zAd (zAf (a=g)&&(zAf (b=h)&&(zAf (c=i)&&Bool.true))) ((∃ x3:Bool,((Yx.f d e f j k l=Option.some x3)∧Q (Value.bool x3)))) (Q (Value.bool Bool.false)))))))))))):=by kernel_rfl
theorem w27 (x:Int×Int×Int×Int×Int×Int×Int)(y:Bool)(hx:Ya0.f x.1 x.2.1 x.2.2.1 x.2.2.2.1 x.2.2.2.2.1 x.2.2.2.2.2.1 x.2.2.2.2.2.2=some y):zAo Tryz.prog (cwC L27) (zAa Tryz.f27) (zAg (yNt x) 8) (zAh [] 64) (zA2 Tryz.prog Tryz.f27 fun v' _=>v'=yNu y):=by
 obtain⟨a,b,c,d,e,f,g⟩:=x
 refine(xCz a b c d e f g _).mpr ?_
 unfold Ya0.f at hx
 try simp only[zBn,zA5,zBk]
 repeat' first
  |(obtain⟨y,hy,hx⟩:=xGs.1 hx;refine⟨y,hy,?_⟩)
  |((first|refine bifW_c (fun hc=>?_) fun hc=>?_|refine bifW_n (fun hc=>?_) fun hc=>?_|refine bifW_b (fun hc=>?_) fun hc=>?_)<;>first|rw[xGq hc] at hx|rw[xGr hc] at hx|rw[xGq (xG9.1 hc)] at hx)
  |(split at hx<;>first|(cases hx;done)|(refine xGy (by assumption) ?_))
  |(cases hx;rfl)
  |(cases hx;simp only[yNu,zAz,zAx,xHe])
theorem xC6 {W:World}(hW:GoodW W):zAk Tryz.prog W 6 27 con27.own:=
 zA0 yNt (Laying.empty hW.size) hW.size (by decide) zAl (OwnsAll.con (yVn hW) (OwnsAll.con (yQ3 hW) (OwnsAll.con (yVm hW) (OwnsAll.con (yR3 hW) (zAb W 6))))) Tryz.func27 (fn:=Tryz.f27) (c:=zAa Tryz.f27) (by kernel_rfl) (by kernel_rfl) (fun _ _ h=>yDk h) (fun a=>⟨rfl,(by kernel_rfl)⟩) (fun b=>rfl) w27
theorem w36 (x:Int×Int×Int×Int)(y:Int×Int×Int×Int×Int×Int)(hx:YW.f x.1 x.2.1 x.2.2.1 x.2.2.2=some y):zAo Tryz.prog (cwC L36) (zAa Tryz.f36) (zAg (yNw x) 8) (zAh [] 64) (zA2 Tryz.prog Tryz.f36 fun v' _=>v'=yNx y):=by
 obtain⟨a,b,c,d⟩:=x
 refine(xC0 a b c d _).mpr ?_
 unfold YW.f at hx
 try simp only[zBn,zA5,zBk]
 repeat' first
  |(obtain⟨y,hy,hx⟩:=xGs.1 hx;refine⟨y,hy,?_⟩)
  |((first|refine bifW_c (fun hc=>?_) fun hc=>?_|refine bifW_n (fun hc=>?_) fun hc=>?_|refine bifW_b (fun hc=>?_) fun hc=>?_)<;>first|rw[xGq hc] at hx|rw[xGr hc] at hx|rw[xGq (xG9.1 hc)] at hx)
  |(split at hx<;>first|(cases hx;done)|(refine xGy (by assumption) ?_))
  |(cases hx;rfl)
  |(cases hx;simp only[yNx,zAz,zAx,xHe])
  |(refine xGy (by decide) ?_)
  |(refine xGy (wrap_within .u64 _).1 ?_)
theorem xC7 {W:World}(hW:GoodW W):zAk Tryz.prog W 6 36 con36.own:=
 zA0 yNw (Laying.empty hW.size) hW.size (by decide) zAl (OwnsAll.con (yX7 hW) (OwnsAll.con (yX8 hW) (OwnsAll.con (yQ3 hW) (zAb W 6)))) Tryz.func36 (fn:=Tryz.f36) (c:=zAa Tryz.f36) (by kernel_rfl) (by kernel_rfl) (fun _ _ h=>yDl h) (fun a=>⟨rfl,(by kernel_rfl)⟩) (fun b=>rfl) w36
theorem w38 (x:Int×Int×Int×Int)(y:Bool)(hx:YC.f x.1 x.2.1 x.2.2.1 x.2.2.2=some y):zAo Tryz.prog (cwC L38) (zAa Tryz.f38) (zAg (yNz x) 8) (zAh [] 64) (zA2 Tryz.prog Tryz.f38 fun v' _=>v'=yN0 y):=by
 obtain⟨a,b,c,d⟩:=x
 refine(xC1 a b c d _).mpr ?_
 unfold YC.f at hx
 try simp only[zBn,zA5,zBk]
 repeat' first
  |(obtain⟨y,hy,hx⟩:=xGs.1 hx;refine⟨y,hy,?_⟩)
  |((first|refine bifW_c (fun hc=>?_) fun hc=>?_|refine bifW_n (fun hc=>?_) fun hc=>?_|refine bifW_b (fun hc=>?_) fun hc=>?_)<;>first|rw[xGq hc] at hx|rw[xGr hc] at hx|rw[xGq (xG9.1 hc)] at hx)
  |(split at hx<;>first|(cases hx;done)|(refine xGy (by assumption) ?_))
  |(cases hx;rfl)
  |(cases hx;simp only[yN0,zAz,zAx,xHe])
theorem yWa {W:World}(hW:GoodW W):zAk Tryz.prog W 6 38 con38.own:=
 zA0 yNz (Laying.empty hW.size) hW.size (by decide) zAl (zAb W 6) Tryz.func38 (fn:=Tryz.f38) (c:=zAa Tryz.f38) (by kernel_rfl) (by kernel_rfl) (fun _ _ h=>yDm h) (fun a=>⟨rfl,(by kernel_rfl)⟩) (fun b=>rfl) w38
theorem w39 (x:Int×Int×Int×Int×Int×Int×Int×Int×Int×Int×Int×Int)(y:Bool)(hx:Yq0.f x.1 x.2.1 x.2.2.1 x.2.2.2.1 x.2.2.2.2.1 x.2.2.2.2.2.1 x.2.2.2.2.2.2.1 x.2.2.2.2.2.2.2.1 x.2.2.2.2.2.2.2.2.1 x.2.2.2.2.2.2.2.2.2.1 x.2.2.2.2.2.2.2.2.2.2.1 x.2.2.2.2.2.2.2.2.2.2.2=some y):zAo Tryz.prog (cwC L39) (zAa Tryz.f39) (zAg (yN2 x) 8) (zAh [] 64) (zA2 Tryz.prog Tryz.f39 fun v' _=>v'=yN3 y):=by
 obtain⟨a,b,c,d,e,f,g,h,i,j,k,l⟩:=x
 refine(xC2 a b c d e f g h i j k l _).mpr ?_
 unfold Yq0.f at hx
 try simp only[zBn,zA5,zBk]
 repeat' first
  |(obtain⟨y,hy,hx⟩:=xGs.1 hx;refine⟨y,hy,?_⟩)
  |((first|refine bifW_c (fun hc=>?_) fun hc=>?_|refine bifW_n (fun hc=>?_) fun hc=>?_|refine bifW_b (fun hc=>?_) fun hc=>?_)<;>first|rw[xGq hc] at hx|rw[xGr hc] at hx|rw[xGq (xG9.1 hc)] at hx)
  |(split at hx<;>first|(cases hx;done)|(refine xGy (by assumption) ?_))
  |(cases hx;rfl)
  |(cases hx;simp only[yN3,zAz,zAx,xHe])
theorem xC8 {W:World}(hW:GoodW W):zAk Tryz.prog W 6 39 con39.own:=
 zA0 yN2 (Laying.empty hW.size) hW.size (by decide) zAl (OwnsAll.con (yNe hW) (OwnsAll.con (yR4 hW) (zAb W 6))) Tryz.func39 (fn:=Tryz.f39) (c:=zAa Tryz.f39) (by kernel_rfl) (by kernel_rfl) (fun _ _ h=>yDn h) (fun a=>⟨rfl,(by kernel_rfl)⟩) (fun b=>rfl) w39
theorem w26 (x:Int×Int×Int×Int×Int×Int×Int)(y:Bool)(hx:Ym0.f x.1 x.2.1 x.2.2.1 x.2.2.2.1 x.2.2.2.2.1 x.2.2.2.2.2.1 x.2.2.2.2.2.2=some y):zAo Tryz.prog (cwC L26) (zAa Tryz.f26) (zAg (yN5 x) 8) (zAh [] 64) (zA2 Tryz.prog Tryz.f26 fun v' _=>v'=yN6 y):=by
 obtain⟨a,b,c,d,e,f,g⟩:=x
 refine(xC3 a b c d e f g _).mpr ?_
 unfold Ym0.f at hx
 try simp only[zBn,zA5,zBk]
 repeat' first
  |(obtain⟨y,hy,hx⟩:=xGs.1 hx;refine⟨y,hy,?_⟩)
  |((first|refine bifW_c (fun hc=>?_) fun hc=>?_|refine bifW_n (fun hc=>?_) fun hc=>?_|refine bifW_b (fun hc=>?_) fun hc=>?_)<;>first|rw[xGq hc] at hx|rw[xGr hc] at hx|rw[xGq (xG9.1 hc)] at hx)
  |(split at hx<;>first|(cases hx;done)|(refine xGy (by assumption) ?_))
  |(cases hx;rfl)
  |(cases hx;simp only[yN6,zAz,zAx,xHe])
theorem xC9 {W:World}(hW:GoodW W):zAk Tryz.prog W 6 26 con26.own:=
 zA0 yN5 (Laying.empty hW.size) hW.size (by decide) zAl (OwnsAll.con (yVq hW) (OwnsAll.con (yUc hW) (OwnsAll.con (yVp hW) (OwnsAll.con (yVo hW) (zAb W 6))))) Tryz.func26 (fn:=Tryz.f26) (c:=zAa Tryz.f26) (by kernel_rfl) (by kernel_rfl) (fun _ _ h=>yDo h) (fun a=>⟨rfl,(by kernel_rfl)⟩) (fun b=>rfl) w26
theorem w40 (x:Int×Int×Int×Int×Int×Int×Int×Int×Int×Int)(y:Bool)(hx:Yx0.f x.1 x.2.1 x.2.2.1 x.2.2.2.1 x.2.2.2.2.1 x.2.2.2.2.2.1 x.2.2.2.2.2.2.1 x.2.2.2.2.2.2.2.1 x.2.2.2.2.2.2.2.2.1 x.2.2.2.2.2.2.2.2.2=some y):zAo Tryz.prog (cwC L40) (zAa Tryz.f40) (zAg (yN8 x) 8) (zAh [] 64) (zA2 Tryz.prog Tryz.f40 fun v' _=>v'=yN9 y):=by
 obtain⟨a,b,c,d,e,f,g,h,i,j⟩:=x
 refine(xC4 a b c d e f g h i j _).mpr ?_
 unfold Yx0.f at hx
 try simp only[zBn,zA5,zBk]
 repeat' first
  |(obtain⟨y,hy,hx⟩:=xGs.1 hx;refine⟨y,hy,?_⟩)
  |((first|refine bifW_c (fun hc=>?_) fun hc=>?_|refine bifW_n (fun hc=>?_) fun hc=>?_|refine bifW_b (fun hc=>?_) fun hc=>?_)<;>first|rw[xGq hc] at hx|rw[xGr hc] at hx|rw[xGq (xG9.1 hc)] at hx)
  |(split at hx<;>first|(cases hx;done)|(refine xGy (by assumption) ?_))
  |(cases hx;rfl)
  |(cases hx;simp only[yN9,zAz,zAx,xHe])
theorem xDa {W:World}(hW:GoodW W):zAk Tryz.prog W 6 40 con40.own:=
 zA0 yN8 (Laying.empty hW.size) hW.size (by decide) zAl (OwnsAll.con (yNe hW) (OwnsAll.con (xC9 hW) (zAb W 6))) Tryz.func40 (fn:=Tryz.f40) (c:=zAa Tryz.f40) (by kernel_rfl) (by kernel_rfl) (fun _ _ h=>yDp h) (fun a=>⟨rfl,(by kernel_rfl)⟩) (fun b=>rfl) w40
theorem w41 (x:Int×Int×Int×Int×Int×Int×Int×Int×Int×Int×Int×Int)(y:Bool)(hx:Yr0.f x.1 x.2.1 x.2.2.1 x.2.2.2.1 x.2.2.2.2.1 x.2.2.2.2.2.1 x.2.2.2.2.2.2.1 x.2.2.2.2.2.2.2.1 x.2.2.2.2.2.2.2.2.1 x.2.2.2.2.2.2.2.2.2.1 x.2.2.2.2.2.2.2.2.2.2.1 x.2.2.2.2.2.2.2.2.2.2.2=some y):zAo Tryz.prog (cwC L41) (zAa Tryz.f41) (zAg (yOb x) 8) (zAh [] 64) (zA2 Tryz.prog Tryz.f41 fun v' _=>v'=yOc y):=by
 obtain⟨a,b,c,d,e,f,g,h,i,j,k,l⟩:=x
 refine(xC5 a b c d e f g h i j k l _).mpr ?_
 unfold Yr0.f at hx
 simp only[zAx] at hx
 simp only[xHe]
 try simp only[zBn,zA5,zBk]
 repeat' first
  |(obtain⟨y,hy,hx⟩:=xGs.1 hx;refine⟨y,hy,?_⟩)
  |((first|refine bifW_c (fun hc=>?_) fun hc=>?_|refine bifW_n (fun hc=>?_) fun hc=>?_|refine bifW_b (fun hc=>?_) fun hc=>?_)<;>first|rw[xGq hc] at hx|rw[xGr hc] at hx|rw[xGq (xG9.1 hc)] at hx)
  |(split at hx<;>first|(cases hx;done)|(refine xGy (by assumption) ?_))
  |(cases hx;rfl)
  |(cases hx;simp only[yOc,zAz,zAx,xHe])
theorem xDb {W:World}(hW:GoodW W):zAk Tryz.prog W 6 41 con41.own:=
 zA0 yOb (Laying.empty hW.size) hW.size (by decide) zAl (OwnsAll.con (yNe hW) (OwnsAll.con (yR4 hW) (zAb W 6))) Tryz.func41 (fn:=Tryz.f41) (c:=zAa Tryz.f41) (by kernel_rfl) (by kernel_rfl) (fun _ _ h=>yDq h) (fun a=>⟨rfl,(by kernel_rfl)⟩) (fun b=>rfl) w41
end Go.Proofs.YtfnacgojmdbjmaaGreatDoor
end

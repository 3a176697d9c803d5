/- Texts of a proof, joined: words of the print (those that are named here) and printed functions. -/
import Derived.Test.YtfnacgojmdbjmaaGreatDoorProg
import Derived.Below
import Derived.Deep.Draws
import Derived.Deep.AppendLies
import Derived.Maps.AppendAt
import Derived.OwnWalk
import Derived.Laws.BytesArg
import Derived.Laws.MakeOwn
import Derived.Laws.OwnMore
import Derived.Deep.OwnRows
import Derived.Tactics
import Derived.Lib.ConvBytes
import Derived.Laws.Slices
import Derived.WalkKit
import Derived.KernelRfl
import Derived.RowKit3
import Derived.Deep.LoopGhost
import Derived.Deep.QuietTactic
import Derived.BigQuiet
import Derived.WideLaws
import Derived.Deep.DeepCutAuto
import Derived.Deep.CutBlock
import Derived.Deep.RegionHeld3
import Derived.Laws.Rows
import Derived.Lib.AppendStr
import Derived.ArgAppend
import Derived.Laws.IdiomCopy
import Derived.OrdersHeld
import Derived.Laws.BitsLemmas
import Derived.RowKit
import Derived.Test.YtfnacgojmdbjmaaGreatDoorQkm7
import Derived.Test.YtfnacgojmdbjmaaGreatDoorQkm4
set_option linter.unusedSimpArgs false
set_option linter.unusedVariables false
set_option maxRecDepth 100000
set_option maxHeartbeats 8000000
noncomputable section
namespace Go.Proofs.YtfnacgojmdbjmaaGreatDoor.PPPT
open Go.RowKit Go.Proofs.ZW Go.Proofs.ZL Go.Proofs.ZM
attribute [local go_sem] zGj zGk zIh zIi zEx zEy zGl zGm
open Go.Det (inQ M64 zB1 qn zJc zJb zFf)
def errW:Option Int→Value
 |none=>.nilIface
 |some c=>.iface 0 (.int .i64 c)
theorem errW_none:errW none=.nilIface:=rfl
theorem errW_some (c:Int):errW (some c)=.iface 0 (.int .i64 c):=rfl
theorem info9:(Tryz.prog.info? 9).map (fun i=>(i.zero,i.size,i.bytes))=some (some (.string ⟨#[]⟩),1,16):=by kernel_rfl
theorem info23:(Tryz.prog.info? 23).map (fun i=>(i.zero,i.size,i.bytes))=some (some (.int .u64 0),1,8):=by kernel_rfl
def Ye.f (a0:Int)(a1:Int)(a2:Int):Option (Int×Int×Int):=PRD.Ye.f 300 a0 a1 a2
theorem Ye.calls (a0:Int)(a1:Int)(a2:Int)(r1:Int)(r2:Int)(r3:Int)(w:World)(hG:GoodW w)(h:Ye.f a0 a1 a2=some (r1,r2,r3)):
  Calls Tryz.prog 42 #[.int .i64 a0,.int .u64 a1,.int .u64 a2] w fun e w'=>e=.returned (.agg #[.int .i64 r1,.int .u64 r2,.int .u64 r3])∧Below w.heap.size w w':=PRD.Ye.calls 300 a0 a1 a2 r1 r2 r3 w hG h
def Yh.l0:Nat→Int→ByteArray→Option (ByteArray)
 |0,_,_=>none
 |k+1,x0,x3=>if x0 > 0 then((some (([(IntKind.u64.wrap (48+(Int.tmod x0 10))) % 256]:List Int):List Int)).bind fun y101=>(if(strOfNums y101).size+x3.size≤9223372036854775807 then(Yh.l0 k (IntKind.u64.wrap (Int.tdiv x0 10)) ((strOfNums y101)++x3)) else(none))) else(if x3.toList=([]:List UInt8) then((some (([(IntKind.u64.wrap (48+(Int.tmod x0 10))) % 256]:List Int):List Int)).bind fun y104=>(if(strOfNums y104).size+x3.size≤9223372036854775807 then(Yh.l0 k (IntKind.u64.wrap (Int.tdiv x0 10)) ((strOfNums y104)++x3)) else(none))) else(some x3))
def Yh.f (k:Nat)(a0:Int):Option (ByteArray):=Yh.l0 k a0 (⟨#[]⟩:ByteArray)
theorem Yh.mono_l:∀ k,(∀ y0 y1,LeO (Yh.l0 k y0 y1) (Yh.l0 (k+1) y0 y1))
 |0=>fun _ _ r h=>by simp[Yh.l0] at h
 |k+1=>by
  have ih0:=Yh.mono_l k
  ·intro y0 y1
   unfold Yh.l0
   repeat' first
   |(with_reducible exact ih0 _ _)
   |(with_reducible exact LeO.refl _)
   |(with_reducible exact LeO.none _)
   |(with_reducible refine LeO.ite ?_ ?_)
   |(with_reducible refine LeO.bind ?_ (fun _=>?_))
theorem Yh.mono:∀ a0 k,LeO (Yh.f k a0) (Yh.f (k+1) a0):=by
 intro a0 k
 have ih0:=Yh.mono_l k;unfold Yh.f
 repeat' first
   |(with_reducible exact ih0 _ _)
   |(with_reducible exact LeO.refl _)
   |(with_reducible exact LeO.none _)
   |(with_reducible refine LeO.ite ?_ ?_)
   |(with_reducible refine LeO.bind ?_ (fun _=>?_))
set_option maxRecDepth 100000 in
theorem Yh.calls (k:Nat)(a0:Int)(r:ByteArray)(w:World)(hG:GoodW w)(h:Yh.f k a0=some r):
  Calls Tryz.prog 13 #[.int .u64 a0] w fun e w'=>e=.returned (.string r)∧Below w.heap.size w w':=by
 have HB:=Aside0.mk (Below.refl w.heap.size w);have H:=h;unfold Yh.f at H;clear h;have H':=Aside0.mk H;clear H;go_enter Tryz.func13,Tryz.ntmps13;go_wp2
 go_loopg [0,3] k (fun kq v0 v3 w'=>∃ (x0_1:Int) (x3_1:ByteArray),v0=.int .u64 x0_1∧v3=.string x3_1∧Aside0 (Yh.l0 kq x0_1 x3_1=some r)∧Aside0 (kq≤k)∧Aside0 (Below w.heap.size w w'))
 case atStart=>exact⟨(a0),((⟨#[]⟩:ByteArray)),zzS,zzS,H',⟨xGv _⟩,⟨zzB⟩⟩
 case round=>
  clear H';obtain⟨x0_1,x3_1,rfl,rfl,HA,HK1,HB⟩:=hrel
  cases gk with
  |zero=>exact absurd HA.out (by simp[Yh.l0])
  |succ k1=>
   have H:=HA.out;clear HA;simp only[Yh.l0] at H
   replace H:=zzC H;rcases H with⟨c2,H⟩|⟨c2,H⟩
   ·have c2b0:=xGx c2;clear c2;obtain⟨y101,hy101⟩:∃ y_:List Int,y_=(([(IntKind.u64.wrap (48+(Int.tmod x0_1 10))) % 256]:List Int)):=⟨_,rfl⟩
    replace H:(if(strOfNums y101).size+x3_1.size≤9223372036854775807 then(Yh.l0 k1 (IntKind.u64.wrap (Int.tdiv x0_1 10)) ((strOfNums y101)++x3_1)) else(none))=some r:=by first|(rw[hy101];with_reducible exact H)|(have H2_:=(xGp _ _).symm.trans H;rw[hy101];with_reducible exact H2_)|(have H2_:=(xGp _ _).symm.trans H;with_reducible exact H2_)|with_reducible exact H|(rw[hy101];exact H)|exact H
    have Ny101:=Aside0.mk hy101;clear hy101
    have c3:=zzI H;rw[xGq c3] at H;have c3b0:=xG2 c3;have c3b1:=xGx c3
    try have c3b2:=xIl (xH2.2 c3)
    have H':=Aside0.mk H;clear H
    go_wp2_with (first|((with_reducible refine zBv (N:=14) rfl ?_);refine Kd.R_lit (Kd.int .u8) _ 5 ?hg (N:=14) ?hd (xs:=([(IntKind.u64.wrap (48+(Int.tmod x0_1 10))) % 256]:List Int)) (inner:=[.int .u8 ((IntKind.u64.wrap (48+(Int.tmod x0_1 10))) % 256)]) (ok:=fun _=>True) (okp:=fun _=>True) ?hr ?hp (fun _ hk=>hk) trivial (Below.refl _ _) (xGv _) (by simp) ?_;(case hd=>rfl);(case hg=>rfl);(case hr=>first|(go_simp;done)|(go_simp;rfl));(case hp=>exact(Reps.one (show Kd.M (Kd.int .u8) _ _ _ ((IntKind.u64.wrap (48+(Int.tmod x0_1 10))) % 256) [.int .u8 ((IntKind.u64.wrap (48+(Int.tmod x0_1 10))) % 256)] from rfl) (Reps.none _ _)));intro v102 w4 ho5 hb hg_ hnew_;clear hg_ hnew_;(first|rw[← Ny101.out] at ho5|(simp only[Int.reduceToNat] at ho5;rw[← Ny101.out] at ho5));have n0_:=Aside0.mk (Kd.R_lower ho5 (zAi zzB));have n1_:=Aside0.mk (zAe zzB hb);clear HB;have HO103:=n0_;have HB:=n1_;clear n0_ n1_;clear hb ho5;have hcv6:=zHw (P:=Tryz.prog) Tryz.underlying22 Tryz.underlying5 Tryz.underlying9 (Kd.own_of_R HO103.out)))
    go_roundg k1
    case measure=>have:=HK1.out;omega
    case rel=>exact⟨(IntKind.u64.wrap (Int.tdiv x0_1 10)),((strOfNums y101)++x3_1),zzS,zzS,H',⟨by have:=HK1.out;omega⟩,⟨zzB⟩⟩
   ·have c2b0:=xG1 c2;clear c2
    replace H:=zzC H;rcases H with⟨c7,H⟩|⟨c7,H⟩
    ·have c7b0:=beq_iff_eq.mpr c7;have c7b1:=bne_eq_false_iff_eq.mpr c7;clear c7;obtain⟨y104,hy104⟩:∃ y_:List Int,y_=(([(IntKind.u64.wrap (48+(Int.tmod x0_1 10))) % 256]:List Int)):=⟨_,rfl⟩
     replace H:(if(strOfNums y104).size+x3_1.size≤9223372036854775807 then(Yh.l0 k1 (IntKind.u64.wrap (Int.tdiv x0_1 10)) ((strOfNums y104)++x3_1)) else(none))=some r:=by first|(rw[hy104];with_reducible exact H)|(have H2_:=(xGp _ _).symm.trans H;rw[hy104];with_reducible exact H2_)|(have H2_:=(xGp _ _).symm.trans H;with_reducible exact H2_)|with_reducible exact H|(rw[hy104];exact H)|exact H
     have Ny104:=Aside0.mk hy104;clear hy104
     have c8:=zzI H;rw[xGq c8] at H;have c8b0:=xG2 c8;have c8b1:=xGx c8
     try have c8b2:=xIl (xH2.2 c8)
     have H':=Aside0.mk H;clear H
     go_wp2_with (first|((with_reducible refine zBv (N:=14) rfl ?_);refine Kd.R_lit (Kd.int .u8) _ 5 ?hg (N:=14) ?hd (xs:=([(IntKind.u64.wrap (48+(Int.tmod x0_1 10))) % 256]:List Int)) (inner:=[.int .u8 ((IntKind.u64.wrap (48+(Int.tmod x0_1 10))) % 256)]) (ok:=fun _=>True) (okp:=fun _=>True) ?hr ?hp (fun _ hk=>hk) trivial (Below.refl _ _) (xGv _) (by simp) ?_;(case hd=>rfl);(case hg=>rfl);(case hr=>first|(go_simp;done)|(go_simp;rfl));(case hp=>exact(Reps.one (show Kd.M (Kd.int .u8) _ _ _ ((IntKind.u64.wrap (48+(Int.tmod x0_1 10))) % 256) [.int .u8 ((IntKind.u64.wrap (48+(Int.tmod x0_1 10))) % 256)] from rfl) (Reps.none _ _)));intro v105 w9 ho10 hb hg_ hnew_;clear hg_ hnew_;(first|rw[← Ny104.out] at ho10|(simp only[Int.reduceToNat] at ho10;rw[← Ny104.out] at ho10));have n0_:=Aside0.mk (Kd.R_lower ho10 (zAi zzB));have n1_:=Aside0.mk (zAe zzB hb);clear HB;have HO106:=n0_;have HB:=n1_;clear n0_ n1_;clear hb ho10;have hcv11:=zHw (P:=Tryz.prog) Tryz.underlying22 Tryz.underlying5 Tryz.underlying9 (Kd.own_of_R HO106.out)))
     go_roundg k1
     case measure=>have:=HK1.out;omega
     case rel=>exact⟨(IntKind.u64.wrap (Int.tdiv x0_1 10)),((strOfNums y104)++x3_1),zzS,zzS,H',⟨by have:=HK1.out;omega⟩,⟨zzB⟩⟩
    ·have c7b0:=beq_eq_false_iff_ne.mpr c7;have c7b1:=bne_iff_ne.mpr c7;obtain rfl:=xHc H;go_wp2
     go_ret
     exact⟨zzE,zzB⟩
def Ym.f (a0_0:Int)(a0_1:Int)(a0_2:Int):Option (Bool):=PRD.Ym.f a0_0 a0_1 a0_2
theorem Ym.calls (a0_0:Int)(a0_1:Int)(a0_2:Int)(r:Bool)(w:World)(hG:GoodW w)(h:Ym.f a0_0 a0_1 a0_2=some r):
  Calls Tryz.prog 44 #[.agg #[.int .i64 a0_0,.int .u64 a0_1,.int .u64 a0_2]] w fun e w'=>e=.returned (.bool r)∧Below w.heap.size w w':=PRD.Ym.calls a0_0 a0_1 a0_2 r w hG h
def Yy.f (a0_0:Int)(a0_1:Int)(a1:Int):Option (Int):=if a1 < 4 then(if 0≤(IntKind.u64.wrap (wrap64 (48 - (wrap64 (16 * a1))))) then(some (Go.bits .and .u64 (shr .u64 a0_0 (IntKind.u64.wrap (wrap64 (48 - (wrap64 (16 * a1)))))) 65535)) else(none)) else(if 0≤(IntKind.u64.wrap (wrap64 (48 - (wrap64 (16 * (wrap64 (a1 - 4))))))) then(some (Go.bits .and .u64 (shr .u64 a0_1 (IntKind.u64.wrap (wrap64 (48 - (wrap64 (16 * (wrap64 (a1 - 4)))))))) 65535)) else(none))
set_option maxRecDepth 100000 in
theorem Yy.calls (a0_0:Int)(a0_1:Int)(a1:Int)(r:Int)(w:World)(hG:GoodW w)(h:Yy.f a0_0 a0_1 a1=some r):
  Calls Tryz.prog 82 #[.agg #[.int .u64 a0_0,.int .u64 a0_1],.int .i64 a1] w fun e w'=>e=.returned (.int .u64 r)∧Below w.heap.size w w':=by
 have hu26:=Tryz.underlying26;have HB:=Aside0.mk (Below.refl w.heap.size w);have H:=h;unfold Yy.f at H;clear h
 replace H:=zzC H;rcases H with⟨c3,H⟩|⟨c3,H⟩
 ·have c3b0:=xGx c3;clear c3;obtain⟨ji4,hji4⟩:∃ j_:Int,(IntKind.u64.wrap (wrap64 (48 - (wrap64 (16 * a1)))))=j_:=⟨_,rfl⟩
  replace H:(if 0≤(ji4) then(some (Go.bits .and .u64 (shr .u64 a0_0 (ji4)) 65535)) else(none))=some r:=by first|(rw[hji4] at H;exact H)|(simp only[hji4] at H ⊢;exact H)
  have c5:=zzI H;rw[xGq c5] at H;have c5b0:=xG2 c5;have c5b1:=xGx c5;clear c5;obtain⟨ji6,hji6⟩:∃ j_:Int,(shr .u64 a0_0 (ji4))=j_:=⟨_,rfl⟩
  replace H:(some (Go.bits .and .u64 (ji6) 65535))=some r:=by first|(rw[hji6] at H;exact H)|(simp only[hji6] at H ⊢;exact H)
  have hji6_:(a0_0 / 2 ^ min (ji4).toNat 64)=ji6:=hji6;have hji6z:(ji4)≤64→(a0_0 / 2 ^ (ji4).toNat)=ji6:=zJe hji6;obtain rfl:=xHc H;go_enter Tryz.func82,Tryz.ntmps82
  go_wp2_with (first|((with_reducible refine zBv (N:=2) rfl ?_);refine zCr ?hg (N:=2) ?hd (cs:=#[.int .u64 a0_0,.int .u64 a0_1]) (t:=26) ?hr ?_;(case hd=>rfl);(case hg=>rfl);(case hr=>first|(go_simp;done)|(go_simp;rfl));intro gb107 hg w7 hbox hb;have n0_:=Aside0.mk (zAe zzB hb);have n1_:=Aside0.mk (hbox);have n2_:=Aside0.mk ((by rw[hg];exact(zAi zzB):w.heap.size≤gb107));have n3_:=Aside0.mk ((by rw[hg];exact(zAi zzB):w.heap.size≤gb107));clear HB;have HB:=n0_;have BK107:=n1_;have GW107:=n2_;have GE107:=n3_;clear n0_ n1_ n2_ n3_;clear hb hbox hg;have hcz8_0:w7.cell? ⟨gb107,0,none⟩=some (.int .u64 a0_0):=(zAj BK107.out 0).trans rfl;have hcz8_1:w7.cell? ⟨gb107,1,none⟩=some (.int .u64 a0_1):=(zAj BK107.out 1).trans rfl;have hfz8_0:=zAc BK107.out 0;have hfz8_1:=zAc BK107.out 1))
  go_ret
  exact⟨by first|rfl|(simp[errW_none,errW_some]<;>rfl)|(simp only[← hji4,← hji6];first|rfl|(simp[errW_none,errW_some]<;>rfl))|(simp[*,errW_none,errW_some]<;>rfl),zEz GE107⟩
 ·have c3b0:=xG1 c3;clear c3;obtain⟨ji9,hji9⟩:∃ j_:Int,(IntKind.u64.wrap (wrap64 (48 - (wrap64 (16 * (wrap64 (a1 - 4)))))))=j_:=⟨_,rfl⟩
  replace H:(if 0≤(ji9) then(some (Go.bits .and .u64 (shr .u64 a0_1 (ji9)) 65535)) else(none))=some r:=by first|(rw[hji9] at H;exact H)|(simp only[hji9] at H ⊢;exact H)
  have c10:=zzI H;rw[xGq c10] at H;have c10b0:=xG2 c10;have c10b1:=xGx c10;clear c10;obtain⟨ji11,hji11⟩:∃ j_:Int,(shr .u64 a0_1 (ji9))=j_:=⟨_,rfl⟩
  replace H:(some (Go.bits .and .u64 (ji11) 65535))=some r:=by first|(rw[hji11] at H;exact H)|(simp only[hji11] at H ⊢;exact H)
  have hji11_:(a0_1 / 2 ^ min (ji9).toNat 64)=ji11:=hji11;have hji11z:(ji9)≤64→(a0_1 / 2 ^ (ji9).toNat)=ji11:=zJe hji11;obtain rfl:=xHc H;go_enter Tryz.func82,Tryz.ntmps82
  go_wp2_with (first|((with_reducible refine zBv (N:=2) rfl ?_);refine zCr ?hg (N:=2) ?hd (cs:=#[.int .u64 a0_0,.int .u64 a0_1]) (t:=26) ?hr ?_;(case hd=>rfl);(case hg=>rfl);(case hr=>first|(go_simp;done)|(go_simp;rfl));intro gb107 hg w12 hbox hb;have n0_:=Aside0.mk (zAe zzB hb);have n1_:=Aside0.mk (hbox);have n2_:=Aside0.mk ((by rw[hg];exact(zAi zzB):w.heap.size≤gb107));have n3_:=Aside0.mk ((by rw[hg];exact(zAi zzB):w.heap.size≤gb107));clear HB;have HB:=n0_;have BK107:=n1_;have GW107:=n2_;have GE107:=n3_;clear n0_ n1_ n2_ n3_;clear hb hbox hg;have hcz13_0:w12.cell? ⟨gb107,0,none⟩=some (.int .u64 a0_0):=(zAj BK107.out 0).trans rfl;have hcz13_1:w12.cell? ⟨gb107,1,none⟩=some (.int .u64 a0_1):=(zAj BK107.out 1).trans rfl;have hfz13_0:=zAc BK107.out 0;have hfz13_1:=zAc BK107.out 1))
  go_ret
  exact⟨by first|rfl|(simp[errW_none,errW_some]<;>rfl)|(simp only[← hji9,← hji11];first|rfl|(simp[errW_none,errW_some]<;>rfl))|(simp[*,errW_none,errW_some]<;>rfl),zEz GE107⟩
mutual
def Yl.l0:Nat→Int→Int→Int→Int→Int→Option (Int×Int)
 |0,_,_,_,_,_=>none
 |k+1,x4,x5,x6,x109000,x109001=>if x6 < 8 then(Yl.l1 k x4 x5 x6 x6 x109000 x109001) else(some (x4,x5))
def Yl.l1:Nat→Int→Int→Int→Int→Int→Int→Option (Int×Int)
 |0,_,_,_,_,_,_=>none
 |k+1,x4,x5,x6,x7,x109000,x109001=>if x7 < 8 then((Yy.f x109000 x109001 x7).bind fun t109=>(if t109=0 then(Yl.l1 k x4 x5 x6 (wrap64 (x7+1)) x109000 x109001) else(if(wrap64 (x7 - x6)) > x5 then(Yl.l0 k x6 (wrap64 (x7 - x6)) (wrap64 (x6+1)) x109000 x109001) else(Yl.l0 k x4 x5 (wrap64 (x6+1)) x109000 x109001)))) else(if(wrap64 (x7 - x6)) > x5 then(Yl.l0 k x6 (wrap64 (x7 - x6)) (wrap64 (x6+1)) x109000 x109001) else(Yl.l0 k x4 x5 (wrap64 (x6+1)) x109000 x109001))
end
def Yl.f (k:Nat)(a0_0:Int)(a0_1:Int):Option (Int×Int):=Yl.l0 k (-1) 1 0 a0_0 a0_1
set_option maxRecDepth 100000 in
theorem Yl.calls (k:Nat)(a0_0:Int)(a0_1:Int)(r1:Int)(r2:Int)(w:World)(hG:GoodW w)(h:Yl.f k a0_0 a0_1=some (r1,r2)):
  Calls Tryz.prog 80 #[.agg #[.int .u64 a0_0,.int .u64 a0_1]] w fun e w'=>e=.returned (.tuple #[.int .i64 r1,.int .i64 r2])∧Below w.heap.size w w':=by
 have hu26:=Tryz.underlying26;have HB:=Aside0.mk (Below.refl w.heap.size w);have H:=h;unfold Yl.f at H;clear h;have H':=Aside0.mk H;clear H;go_enter Tryz.func80,Tryz.ntmps80
 go_wp2_with (first|((with_reducible refine zBv (N:=1) rfl ?_);refine zCr ?hg (N:=1) ?hd (cs:=#[.int .u64 a0_0,.int .u64 a0_1]) (t:=26) ?hr ?_;(case hd=>rfl);(case hg=>rfl);(case hr=>first|(go_simp;done)|(go_simp;rfl));intro gb108 hg w2 hbox hb;have n0_:=Aside0.mk (zAe zzB hb);have n1_:=Aside0.mk (hbox);have n2_:=Aside0.mk ((by rw[hg];exact(zAi zzB):w.heap.size≤gb108));have n3_:=Aside0.mk ((by rw[hg];exact(zAi zzB):w.heap.size≤gb108));clear HB;have HB:=n0_;have BK108:=n1_;have GW108:=n2_;have GE108:=n3_;clear n0_ n1_ n2_ n3_;clear hb hbox hg))
 go_loopg [4,5,6] k (fun kq v4 v5 v6 w'=>∃ (x4_1:Int) (x5_1:Int) (x6_1:Int),v4=.int .i64 x4_1∧v5=.int .i64 x5_1∧v6=.int .i64 x6_1∧Aside0 (Yl.l0 kq x4_1 x5_1 x6_1 a0_0 a0_1=some (r1,r2))∧Aside0 (kq≤k)∧Aside0 (w'.heap[gb108]?=some (.cells #[.int .u64 a0_0,.int .u64 a0_1] 26 (0,0)))∧Aside0 (Below w.heap.size w w'))
 case atStart=>exact⟨((-1)),(1),(0),zzS,zzS,zzS,H',⟨xGv _⟩,⟨zzK BK108⟩,⟨zEz GE108⟩⟩
 case round=>
  clear H';obtain⟨x4_1,x5_1,x6_1,rfl,rfl,rfl,HA,HK1,BK108,HB⟩:=hrel
  cases gk with
  |zero=>exact absurd HA.out (by simp[Yl.l0])
  |succ k1=>
   have H:=HA.out;clear HA;simp only[Yl.l0] at H
   replace H:=zzC H;rcases H with⟨c3,H⟩|⟨c3,H⟩
   ·have c3b0:=xGx c3;clear c3;have H':=Aside0.mk H;clear H;go_wp2
    go_loopg [7] k1 (fun kq v7 w'=>∃ (x7_2:Int),v7=.int .i64 x7_2∧Aside0 (Yl.l1 kq x4_1 x5_1 x6_1 x7_2 a0_0 a0_1=some (r1,r2))∧Aside0 (kq≤k1)∧Aside0 (w'.heap[gb108]?=some (.cells #[.int .u64 a0_0,.int .u64 a0_1] 26 (0,0)))∧Aside0 (Below w.heap.size w w'))
    case atStart=>exact⟨(x6_1),zzS,H',⟨xGv _⟩,⟨zzK BK108⟩,⟨zEz GE108⟩⟩
    case round=>
     clear H';(try clear c3);(try clear c3b0);obtain⟨x7_2,rfl,HA,HK2,BK108,HB⟩:=hrel
     cases gk with
     |zero=>exact absurd HA.out (by simp[Yl.l1])
     |succ k2=>
      have H:=HA.out;clear HA;simp only[Yl.l1] at H
      replace H:=zzC H;rcases H with⟨c4,H⟩|⟨c4,H⟩
      ·have c4b0:=xGx c4;clear c4;replace H:=zzW H;obtain⟨t109,A5,H⟩:=H;(try dsimp only at H)
       replace H:=zzC H;rcases H with⟨c6,H⟩|⟨c6,H⟩
       ·have c6b0:=beq_iff_eq.mpr c6;have c6b1:=bne_eq_false_iff_eq.mpr c6;clear c6;have H':=Aside0.mk H;clear H;have hcz7_0:wr.cell? ⟨gb108,0,none⟩=some (.int .u64 a0_0):=(zAj BK108.out 0).trans rfl;have hcz7_1:wr.cell? ⟨gb108,1,none⟩=some (.int .u64 a0_1):=(zAj BK108.out 1).trans rfl;have hfz7_0:=zAc BK108.out 0;have hfz7_1:=zAc BK108.out 1
        go_wp2_with (first|(go_at_call 82;(with_reducible refine(Yy.calls a0_0 a0_1 x7_2 t109 _ ?side1 A5.out).mono ?_);(case side1=>exact zVk GE108);rintro e w8 ⟨rfl,hb⟩;have n0_:=Aside0.mk (zBz (g:=gb108) (o:=.cells #[.int .u64 a0_0,.int .u64 a0_1] 26 (0,0)) (zzK BK108) hb);have n1_:=Aside0.mk (zAe (zEz GE108) hb);clear BK108;clear HB;have BK108:=n0_;have HB:=n1_;clear n0_ n1_;(try clear hb)))
        go_roundg k2
        case measure=>have:=HK1.out;have:=HK2.out;omega
        case rel=>exact⟨(wrap64 (x7_2+1)),zzS,H',⟨zzP⟩,⟨zzK BK108⟩,⟨zEz GE108⟩⟩
       ·have c6b0:=beq_eq_false_iff_ne.mpr c6;have c6b1:=bne_iff_ne.mpr c6
        replace H:=zzC H;rcases H with⟨c9,H⟩|⟨c9,H⟩
        ·have c9b0:=xGx c9;clear c9;have H':=Aside0.mk H;clear H;have hcz10_0:wr.cell? ⟨gb108,0,none⟩=some (.int .u64 a0_0):=(zAj BK108.out 0).trans rfl;have hcz10_1:wr.cell? ⟨gb108,1,none⟩=some (.int .u64 a0_1):=(zAj BK108.out 1).trans rfl;have hfz10_0:=zAc BK108.out 0;have hfz10_1:=zAc BK108.out 1
         go_wp2_with (first|(go_at_call 82;(with_reducible refine(Yy.calls a0_0 a0_1 x7_2 t109 _ ?side1 A5.out).mono ?_);(case side1=>exact zVk GE108);rintro e w11 ⟨rfl,hb⟩;have n0_:=Aside0.mk (zBz (g:=gb108) (o:=.cells #[.int .u64 a0_0,.int .u64 a0_1] 26 (0,0)) (zzK BK108) hb);have n1_:=Aside0.mk (zAe (zEz GE108) hb);clear BK108;clear HB;have BK108:=n0_;have HB:=n1_;clear n0_ n1_;(try clear hb)))
         go_roundg k2
         case measure=>have:=HK1.out;have:=HK2.out;omega
         case rel=>exact⟨(x6_1),(wrap64 (x7_2 - x6_1)),(wrap64 (x6_1+1)),zzS,zzS,zzS,H',⟨zzP⟩,⟨zzK BK108⟩,⟨zEz GE108⟩⟩
        ·have c9b0:=xG1 c9;clear c9;have H':=Aside0.mk H;clear H;have hcz12_0:wr.cell? ⟨gb108,0,none⟩=some (.int .u64 a0_0):=(zAj BK108.out 0).trans rfl;have hcz12_1:wr.cell? ⟨gb108,1,none⟩=some (.int .u64 a0_1):=(zAj BK108.out 1).trans rfl;have hfz12_0:=zAc BK108.out 0;have hfz12_1:=zAc BK108.out 1
         go_wp2_with (first|(go_at_call 82;(with_reducible refine(Yy.calls a0_0 a0_1 x7_2 t109 _ ?side1 A5.out).mono ?_);(case side1=>exact zVk GE108);rintro e w13 ⟨rfl,hb⟩;have n0_:=Aside0.mk (zBz (g:=gb108) (o:=.cells #[.int .u64 a0_0,.int .u64 a0_1] 26 (0,0)) (zzK BK108) hb);have n1_:=Aside0.mk (zAe (zEz GE108) hb);clear BK108;clear HB;have BK108:=n0_;have HB:=n1_;clear n0_ n1_;(try clear hb)))
         go_roundg k2
         case measure=>have:=HK1.out;have:=HK2.out;omega
         case rel=>exact⟨(x4_1),(x5_1),(wrap64 (x6_1+1)),zzS,zzS,zzS,H',⟨zzP⟩,⟨zzK BK108⟩,⟨zEz GE108⟩⟩
      ·have c4b0:=xG1 c4;clear c4
       replace H:=zzC H;rcases H with⟨c14,H⟩|⟨c14,H⟩
       ·have c14b0:=xGx c14;clear c14;have H':=Aside0.mk H;clear H;go_wp2
        go_roundg k2
        case measure=>have:=HK1.out;have:=HK2.out;omega
        case rel=>exact⟨(x6_1),(wrap64 (x7_2 - x6_1)),(wrap64 (x6_1+1)),zzS,zzS,zzS,H',⟨zzP⟩,⟨zzK BK108⟩,⟨zEz GE108⟩⟩
       ·have c14b0:=xG1 c14;clear c14;have H':=Aside0.mk H;clear H;go_wp2
        go_roundg k2
        case measure=>have:=HK1.out;have:=HK2.out;omega
        case rel=>exact⟨(x4_1),(x5_1),(wrap64 (x6_1+1)),zzS,zzS,zzS,H',⟨zzP⟩,⟨zzK BK108⟩,⟨zEz GE108⟩⟩
   ·have c3b0:=xG1 c3;clear c3;simp only[xGu,xG5] at H;obtain⟨rfl,rfl⟩:=H;go_wp2;go_ret2;exact⟨zzE,zEz GE108⟩
def Yt.l0:Nat→Int→ByteArray→Option (ByteArray)
 |0,_,_=>none
 |k+1,x0,x3=>if x0 > 0 then(if 0≤(Go.bits .and .u64 x0 15) then(if(Go.bits .and .u64 x0 15) < 16 then((some (([bt (⟨#[48,49,50,51,52,53,54,55,56,57,97,98,99,100,101,102]⟩:ByteArray) (Go.bits .and .u64 x0 15)]:List Int):List Int)).bind fun y110=>(if(strOfNums y110).size+x3.size≤9223372036854775807 then(Yt.l0 k (x0 / 16) ((strOfNums y110)++x3)) else(none))) else(none)) else(none)) else(if x3.toList=([]:List UInt8) then(if 0≤(Go.bits .and .u64 x0 15) then(if(Go.bits .and .u64 x0 15) < 16 then((some (([bt (⟨#[48,49,50,51,52,53,54,55,56,57,97,98,99,100,101,102]⟩:ByteArray) (Go.bits .and .u64 x0 15)]:List Int):List Int)).bind fun y113=>(if(strOfNums y113).size+x3.size≤9223372036854775807 then(Yt.l0 k (x0 / 16) ((strOfNums y113)++x3)) else(none))) else(none)) else(none)) else(some x3))
def Yt.f (k:Nat)(a0:Int):Option (ByteArray):=Yt.l0 k a0 (⟨#[]⟩:ByteArray)
set_option maxRecDepth 100000 in
theorem Yt.calls (k:Nat)(a0:Int)(r:ByteArray)(w:World)(hG:GoodW w)(h:Yt.f k a0=some r):
  Calls Tryz.prog 81 #[.int .u64 a0] w fun e w'=>e=.returned (.string r)∧Below w.heap.size w w':=by
 have HB:=Aside0.mk (Below.refl w.heap.size w);have H:=h;unfold Yt.f at H;clear h;have H':=Aside0.mk H;clear H;go_enter Tryz.func81,Tryz.ntmps81;go_wp2
 go_loopg [0,3] k (fun kq v0 v3 w'=>∃ (x0_1:Int) (x3_1:ByteArray),v0=.int .u64 x0_1∧v3=.string x3_1∧Aside0 (Yt.l0 kq x0_1 x3_1=some r)∧Aside0 (kq≤k)∧Aside0 (Below w.heap.size w w'))
 case atStart=>exact⟨(a0),((⟨#[]⟩:ByteArray)),zzS,zzS,H',⟨xGv _⟩,⟨zzB⟩⟩
 case round=>
  clear H';obtain⟨x0_1,x3_1,rfl,rfl,HA,HK1,HB⟩:=hrel
  cases gk with
  |zero=>exact absurd HA.out (by simp[Yt.l0])
  |succ k1=>
   have H:=HA.out;clear HA;simp only[Yt.l0] at H
   replace H:=zzC H;rcases H with⟨c2,H⟩|⟨c2,H⟩
   ·have c2b0:=xGx c2;clear c2
    replace H:=zzJ H;obtain⟨c3b0,H⟩:=H
    replace H:=zzJ H;obtain⟨c4b0,H⟩:=H;obtain⟨y110,hy110⟩:∃ y_:List Int,y_=(([bt (⟨#[48,49,50,51,52,53,54,55,56,57,97,98,99,100,101,102]⟩:ByteArray) (Go.bits .and .u64 x0_1 15)]:List Int)):=⟨_,rfl⟩
    replace H:(if(strOfNums y110).size+x3_1.size≤9223372036854775807 then(Yt.l0 k1 (x0_1 / 16) ((strOfNums y110)++x3_1)) else(none))=some r:=by first|(rw[hy110];with_reducible exact H)|(have H2_:=(xGp _ _).symm.trans H;rw[hy110];with_reducible exact H2_)|(have H2_:=(xGp _ _).symm.trans H;with_reducible exact H2_)|with_reducible exact H|(rw[hy110];exact H)|exact H
    have Ny110:=Aside0.mk hy110;clear hy110
    have c6:=zzI H;rw[xGq c6] at H;have c6b0:=xG2 c6;have c6b1:=xGx c6
    try have c6b2:=xIl (xH2.2 c6)
    have H':=Aside0.mk H;clear H;have p5:0≤((Go.bits .and .u64 x0_1 15):Int):=xGt zzA;have q5:(Go.bits .and .u64 x0_1 15) < (16:Int):=xGt zzA;have hx5:=zD9 (⟨#[48,49,50,51,52,53,54,55,56,57,97,98,99,100,101,102]⟩:ByteArray) (Go.bits .and .u64 x0_1 15);replace p5:=xG2 p5;replace q5:=xG2 q5
    go_wp2_with (first|((with_reducible refine zBv (N:=13) rfl ?_);refine Kd.R_lit (Kd.int .u8) _ 5 ?hg (N:=13) ?hd (xs:=([bt (⟨#[48,49,50,51,52,53,54,55,56,57,97,98,99,100,101,102]⟩:ByteArray) (Go.bits .and .u64 x0_1 15)]:List Int)) (inner:=[.int .u8 (bt (⟨#[48,49,50,51,52,53,54,55,56,57,97,98,99,100,101,102]⟩:ByteArray) (Go.bits .and .u64 x0_1 15))]) (ok:=fun _=>True) (okp:=fun _=>True) ?hr ?hp (fun _ hk=>hk) trivial (Below.refl _ _) (xGv _) (by simp) ?_;(case hd=>rfl);(case hg=>rfl);(case hr=>first|(go_simp;done)|(go_simp;rfl));(case hp=>exact(Reps.one (show Kd.M (Kd.int .u8) _ _ _ (bt (⟨#[48,49,50,51,52,53,54,55,56,57,97,98,99,100,101,102]⟩:ByteArray) (Go.bits .and .u64 x0_1 15)) [.int .u8 (bt (⟨#[48,49,50,51,52,53,54,55,56,57,97,98,99,100,101,102]⟩:ByteArray) (Go.bits .and .u64 x0_1 15))] from rfl) (Reps.none _ _)));intro v111 w7 ho8 hb hg_ hnew_;clear hg_ hnew_;(first|rw[← Ny110.out] at ho8|(simp only[Int.reduceToNat] at ho8;rw[← Ny110.out] at ho8));have n0_:=Aside0.mk (Kd.R_lower ho8 (zAi zzB));have n1_:=Aside0.mk (zAe zzB hb);clear HB;have HO112:=n0_;have HB:=n1_;clear n0_ n1_;clear hb ho8;have hcv9:=zHw (P:=Tryz.prog) Tryz.underlying22 Tryz.underlying5 Tryz.underlying9 (Kd.own_of_R HO112.out)))
    go_roundg k1
    case measure=>have:=HK1.out;omega
    case rel=>exact⟨(x0_1 / 16),((strOfNums y110)++x3_1),zzS,zzS,H',⟨by have:=HK1.out;omega⟩,⟨zzB⟩⟩
   ·have c2b0:=xG1 c2;clear c2
    replace H:=zzC H;rcases H with⟨c10,H⟩|⟨c10,H⟩
    ·have c10b0:=beq_iff_eq.mpr c10;have c10b1:=bne_eq_false_iff_eq.mpr c10;clear c10
     replace H:=zzJ H;obtain⟨c11b0,H⟩:=H
     replace H:=zzJ H;obtain⟨c12b0,H⟩:=H;obtain⟨y113,hy113⟩:∃ y_:List Int,y_=(([bt (⟨#[48,49,50,51,52,53,54,55,56,57,97,98,99,100,101,102]⟩:ByteArray) (Go.bits .and .u64 x0_1 15)]:List Int)):=⟨_,rfl⟩
     replace H:(if(strOfNums y113).size+x3_1.size≤9223372036854775807 then(Yt.l0 k1 (x0_1 / 16) ((strOfNums y113)++x3_1)) else(none))=some r:=by first|(rw[hy113];with_reducible exact H)|(have H2_:=(xGp _ _).symm.trans H;rw[hy113];with_reducible exact H2_)|(have H2_:=(xGp _ _).symm.trans H;with_reducible exact H2_)|with_reducible exact H|(rw[hy113];exact H)|exact H
     have Ny113:=Aside0.mk hy113;clear hy113
     have c14:=zzI H;rw[xGq c14] at H;have c14b0:=xG2 c14;have c14b1:=xGx c14
     try have c14b2:=xIl (xH2.2 c14)
     have H':=Aside0.mk H;clear H;have p13:0≤((Go.bits .and .u64 x0_1 15):Int):=xGt zzA;have q13:(Go.bits .and .u64 x0_1 15) < (16:Int):=xGt zzA;have hx13:=zD9 (⟨#[48,49,50,51,52,53,54,55,56,57,97,98,99,100,101,102]⟩:ByteArray) (Go.bits .and .u64 x0_1 15);replace p13:=xG2 p13;replace q13:=xG2 q13
     go_wp2_with (first|((with_reducible refine zBv (N:=13) rfl ?_);refine Kd.R_lit (Kd.int .u8) _ 5 ?hg (N:=13) ?hd (xs:=([bt (⟨#[48,49,50,51,52,53,54,55,56,57,97,98,99,100,101,102]⟩:ByteArray) (Go.bits .and .u64 x0_1 15)]:List Int)) (inner:=[.int .u8 (bt (⟨#[48,49,50,51,52,53,54,55,56,57,97,98,99,100,101,102]⟩:ByteArray) (Go.bits .and .u64 x0_1 15))]) (ok:=fun _=>True) (okp:=fun _=>True) ?hr ?hp (fun _ hk=>hk) trivial (Below.refl _ _) (xGv _) (by simp) ?_;(case hd=>rfl);(case hg=>rfl);(case hr=>first|(go_simp;done)|(go_simp;rfl));(case hp=>exact(Reps.one (show Kd.M (Kd.int .u8) _ _ _ (bt (⟨#[48,49,50,51,52,53,54,55,56,57,97,98,99,100,101,102]⟩:ByteArray) (Go.bits .and .u64 x0_1 15)) [.int .u8 (bt (⟨#[48,49,50,51,52,53,54,55,56,57,97,98,99,100,101,102]⟩:ByteArray) (Go.bits .and .u64 x0_1 15))] from rfl) (Reps.none _ _)));intro v114 w15 ho16 hb hg_ hnew_;clear hg_ hnew_;(first|rw[← Ny113.out] at ho16|(simp only[Int.reduceToNat] at ho16;rw[← Ny113.out] at ho16));have n0_:=Aside0.mk (Kd.R_lower ho16 (zAi zzB));have n1_:=Aside0.mk (zAe zzB hb);clear HB;have HO115:=n0_;have HB:=n1_;clear n0_ n1_;clear hb ho16;have hcv17:=zHw (P:=Tryz.prog) Tryz.underlying22 Tryz.underlying5 Tryz.underlying9 (Kd.own_of_R HO115.out)))
     go_roundg k1
     case measure=>have:=HK1.out;omega
     case rel=>exact⟨(x0_1 / 16),((strOfNums y113)++x3_1),zzS,zzS,H',⟨by have:=HK1.out;omega⟩,⟨zzB⟩⟩
    ·have c10b0:=beq_eq_false_iff_ne.mpr c10;have c10b1:=bne_iff_ne.mpr c10;obtain rfl:=xHc H;go_wp2
     go_ret
     exact⟨zzE,zzB⟩
mutual
def Yb.l0:Nat→Int→Int→ByteArray→Int→Int→Int→Int→Option (ByteArray)
 |0,_,_,_,_,_,_,_=>none
 |k+1,x4,x5,x6,x7,x117000,x117001,x117002=>if x7 < 8 then(if x7=x4 then(if x6.size+2≤9223372036854775807 then(Yb.l0 k x4 x5 (x6++(⟨#[58,58]⟩:ByteArray)) (wrap64 ((wrap64 ((wrap64 (x7+x5)) - 1))+1)) x117000 x117001 x117002) else(none)) else(if x6.toList=([]:List UInt8) then(Yb.j1 k x4 x5 x6 x7 false x117000 x117001 x117002) else(if 0≤(wrap64 ((x6.size:Int) - 1)) then(if(wrap64 ((x6.size:Int) - 1)) < (x6.size:Int) then(Yb.j1 k x4 x5 x6 x7 ((bt x6 (wrap64 ((x6.size:Int) - 1))) != 58) x117000 x117001 x117002) else(none)) else(none)))) else(some x6)
def Yb.j1:Nat→Int→Int→ByteArray→Int→Bool→Int→Int→Int→Option (ByteArray)
 |0,_,_,_,_,_,_,_,_=>none
 |k+1,x4,x5,x6,x7,x65,x117000,x117001,x117002=>if x65=true then(if x6.size+1≤9223372036854775807 then((Yy.f x117001 x117002 x7).bind fun t124=>((Yt.f k t124).bind fun t125=>(if(x6++(⟨#[58]⟩:ByteArray)).size+t125.size≤9223372036854775807 then(Yb.l0 k x4 x5 ((x6++(⟨#[58]⟩:ByteArray))++t125) (wrap64 (x7+1)) x117000 x117001 x117002) else(none)))) else(none)) else((Yy.f x117001 x117002 x7).bind fun t126=>((Yt.f k t126).bind fun t127=>(if x6.size+t127.size≤9223372036854775807 then(Yb.l0 k x4 x5 (x6++t127) (wrap64 (x7+1)) x117000 x117001 x117002) else(none))))
end
def Yb.f (k:Nat)(a0_0:Int)(a0_1:Int)(a0_2:Int):Option (ByteArray):=(Ym.f a0_0 a0_1 a0_2).bind fun t117=>(if t117=true then(if a0_0=4 then((Yh.f k (a0_2 / 16777216)).bind fun t118=>(if t118.size+1≤9223372036854775807 then((Yh.f k (Go.bits .and .u64 (a0_2 / 65536) 255)).bind fun t119=>(if(t118++(⟨#[46]⟩:ByteArray)).size+t119.size≤9223372036854775807 then(if((t118++(⟨#[46]⟩:ByteArray))++t119).size+1≤9223372036854775807 then((Yh.f k (Go.bits .and .u64 (a0_2 / 256) 255)).bind fun t120=>(if(((t118++(⟨#[46]⟩:ByteArray))++t119)++(⟨#[46]⟩:ByteArray)).size+t120.size≤9223372036854775807 then(if((((t118++(⟨#[46]⟩:ByteArray))++t119)++(⟨#[46]⟩:ByteArray))++t120).size+1≤9223372036854775807 then((Yh.f k (Go.bits .and .u64 a0_2 255)).bind fun t121=>(if(((((t118++(⟨#[46]⟩:ByteArray))++t119)++(⟨#[46]⟩:ByteArray))++t120)++(⟨#[46]⟩:ByteArray)).size+t121.size≤9223372036854775807 then(some ((((((t118++(⟨#[46]⟩:ByteArray))++t119)++(⟨#[46]⟩:ByteArray))++t120)++(⟨#[46]⟩:ByteArray))++t121)) else(none))) else(none)) else(none))) else(none)) else(none))) else(none))) else((Yl.f k a0_1 a0_2).bind fun bt122=>(Yb.l0 k bt122.1 bt122.2 (⟨#[]⟩:ByteArray) 0 a0_0 a0_1 a0_2))) else(some (⟨#[]⟩:ByteArray)))
set_option maxRecDepth 100000 in
theorem Yb.calls (k:Nat)(a0_0:Int)(a0_1:Int)(a0_2:Int)(r:ByteArray)(w:World)(hG:GoodW w)(h:Yb.f k a0_0 a0_1 a0_2=some r):
  Calls Tryz.prog 58 #[.agg #[.int .i64 a0_0,.int .u64 a0_1,.int .u64 a0_2]] w fun e w'=>e=.returned (.string r)∧Below w.heap.size w w':=by
 have hu28:=Tryz.underlying28;have hu26:=Tryz.underlying26;have HB:=Aside0.mk (Below.refl w.heap.size w);have H:=h;unfold Yb.f at H;clear h;replace H:=zzW H;obtain⟨t117,A2,H⟩:=H;(try dsimp only at H)
 by_cases c3:t117=true
 ·subst c3;have H1:=H;rw[xGq rfl] at H1;clear H;have H:=H1;clear H1
  replace H:=zzC H;rcases H with⟨c4,H⟩|⟨c4,H⟩
  ·have c4b0:=beq_iff_eq.mpr c4;have c4b1:=bne_eq_false_iff_eq.mpr c4;clear c4;replace H:=zzW H;obtain⟨t118,A5,H⟩:=H;(try dsimp only at H)
   have c6:=zzI H;rw[xGq c6] at H;have c6b0:=xG2 c6;have c6b1:=xGx c6
   try have c6b2:=xIl (xH2.2 c6)
   replace H:=zzW H;obtain⟨t119,A7,H⟩:=H;(try dsimp only at H)
   have c8:=zzI H;rw[xGq c8] at H;have c8b0:=xG2 c8;have c8b1:=xGx c8
   try have c8b2:=xIl (xH2.2 c8)
   try have c8b3:(9223372036854775807 < t118.size+1+t119.size)=False:=xIl (by have z_:=c8;simp only[xHi] at z_;exact xH2.2 z_)
   have c9:=zzI H;rw[xGq c9] at H;have c9b0:=xG2 c9;have c9b1:=xGx c9
   try have c9b2:=xIl (xH2.2 c9)
   try have c9b3:(9223372036854775807 < t118.size+1+t119.size+1)=False:=xIl (by have z_:=c9;simp only[xHi] at z_;exact xH2.2 z_)
   replace H:=zzW H;obtain⟨t120,A10,H⟩:=H;(try dsimp only at H)
   have c11:=zzI H;rw[xGq c11] at H;have c11b0:=xG2 c11;have c11b1:=xGx c11
   try have c11b2:=xIl (xH2.2 c11)
   try have c11b3:(9223372036854775807 < t118.size+1+t119.size+1+t120.size)=False:=xIl (by have z_:=c11;simp only[xHi] at z_;exact xH2.2 z_)
   have c12:=zzI H;rw[xGq c12] at H;have c12b0:=xG2 c12;have c12b1:=xGx c12
   try have c12b2:=xIl (xH2.2 c12)
   try have c12b3:(9223372036854775807 < t118.size+1+t119.size+1+t120.size+1)=False:=xIl (by have z_:=c12;simp only[xHi] at z_;exact xH2.2 z_)
   replace H:=zzW H;obtain⟨t121,A13,H⟩:=H;(try dsimp only at H)
   have c14:=zzI H;rw[xGq c14] at H;have c14b0:=xG2 c14;have c14b1:=xGx c14
   try have c14b2:=xIl (xH2.2 c14)
   try have c14b3:(9223372036854775807 < t118.size+1+t119.size+1+t120.size+1+t121.size)=False:=xIl (by have z_:=c14;simp only[xHi] at z_;exact xH2.2 z_)
   obtain rfl:=xHc H;go_enter Tryz.func58,Tryz.ntmps58
   go_wp2_with (first|((with_reducible refine zBv (N:=1) rfl ?_);(try(refine zC3 (by rfl) ?_;dsimp only));refine zCr ?hg (N:=1) ?hd (cs:=#[.int .i64 a0_0,.int .u64 a0_1,.int .u64 a0_2]) (t:=28) ?hr ?_;(case hd=>rfl);(case hg=>rfl);(case hr=>first|(go_simp;done)|(go_simp;rfl));intro gb116 hg w15 hbox hb;have n0_:=Aside0.mk (zAe zzB hb);have n1_:=Aside0.mk (hbox);have n2_:=Aside0.mk ((by rw[hg];exact(zAi zzB):w.heap.size≤gb116));have n3_:=Aside0.mk ((by rw[hg];exact(zAi zzB):w.heap.size≤gb116));clear HB;have HB:=n0_;have BK116:=n1_;have GW116:=n2_;have GE116:=n3_;clear n0_ n1_ n2_ n3_;clear hb hbox hg;have hcz16_0:w15.cell? ⟨gb116,0,none⟩=some (.int .i64 a0_0):=(zAj BK116.out 0).trans rfl;have hcz16_1:w15.cell? ⟨gb116,1,none⟩=some (.int .u64 a0_1):=(zAj BK116.out 1).trans rfl;have hcz16_2:w15.cell? ⟨gb116,2,none⟩=some (.int .u64 a0_2):=(zAj BK116.out 2).trans rfl;have hfz16_0:=zAc BK116.out 0;have hfz16_1:=zAc BK116.out 1;have hfz16_2:=zAc BK116.out 2)|((with_reducible refine zAu (f:=44) rfl ?_);refine zCj (some 9) rfl rfl Tryz.func44 (by kernel_rfl) rfl #[.agg #[.int .i64 a0_0,.int .u64 a0_1,.int .u64 a0_2]] rfl zzM ?_;(with_reducible refine(Ym.calls a0_0 a0_1 a0_2 true _ ?side1 A2.out).mono ?_);(case side1=>exact zVk GE116);rintro e w17 ⟨rfl,hb⟩;refine⟨_,rfl,?_⟩;have n0_:=Aside0.mk (zBz (g:=gb116) (o:=.cells #[.int .i64 a0_0,.int .u64 a0_1,.int .u64 a0_2] 28 (0,0)) (zzK BK116) hb);have n1_:=Aside0.mk (zAe (zEz GE116) hb);clear BK116;clear HB;have BK116:=n0_;have HB:=n1_;clear n0_ n1_;(try clear hb);have hcz18_0:w17.cell? ⟨gb116,0,none⟩=some (.int .i64 a0_0):=(zAj BK116.out 0).trans rfl;have hcz18_1:w17.cell? ⟨gb116,1,none⟩=some (.int .u64 a0_1):=(zAj BK116.out 1).trans rfl;have hcz18_2:w17.cell? ⟨gb116,2,none⟩=some (.int .u64 a0_2):=(zAj BK116.out 2).trans rfl;have hfz18_0:=zAc BK116.out 0;have hfz18_1:=zAc BK116.out 1;have hfz18_2:=zAc BK116.out 2)|((with_reducible refine zAu (f:=13) rfl ?_);refine zCj (some 19) rfl rfl Tryz.func13 (by kernel_rfl) rfl #[.int .u64 (a0_2 / 16777216)] rfl zzM ?_;(with_reducible refine(Yh.calls k (a0_2 / 16777216) t118 _ ?side1 A5.out).mono ?_);(case side1=>exact zVk GE116);rintro e w19 ⟨rfl,hb⟩;refine⟨_,rfl,?_⟩;have n0_:=Aside0.mk (zBz (g:=gb116) (o:=.cells #[.int .i64 a0_0,.int .u64 a0_1,.int .u64 a0_2] 28 (0,0)) (zzK BK116) hb);have n1_:=Aside0.mk (zAe (zEz GE116) hb);clear BK116;clear HB;have BK116:=n0_;have HB:=n1_;clear n0_ n1_;(try clear hb))|((with_reducible refine zAu (f:=13) rfl ?_);refine zCj (some 24) rfl rfl Tryz.func13 (by kernel_rfl) rfl #[.int .u64 (Go.bits .and .u64 (a0_2 / 65536) 255)] rfl zzM ?_;(with_reducible refine(Yh.calls k (Go.bits .and .u64 (a0_2 / 65536) 255) t119 _ ?side1 A7.out).mono ?_);(case side1=>exact zVk GE116);rintro e w20 ⟨rfl,hb⟩;refine⟨_,rfl,?_⟩;have n0_:=Aside0.mk (zBz (g:=gb116) (o:=.cells #[.int .i64 a0_0,.int .u64 a0_1,.int .u64 a0_2] 28 (0,0)) (zzK BK116) hb);have n1_:=Aside0.mk (zAe (zEz GE116) hb);clear BK116;clear HB;have BK116:=n0_;have HB:=n1_;clear n0_ n1_;(try clear hb))|((with_reducible refine zAu (f:=13) rfl ?_);refine zCj (some 30) rfl rfl Tryz.func13 (by kernel_rfl) rfl #[.int .u64 (Go.bits .and .u64 (a0_2 / 256) 255)] rfl zzM ?_;(with_reducible refine(Yh.calls k (Go.bits .and .u64 (a0_2 / 256) 255) t120 _ ?side1 A10.out).mono ?_);(case side1=>exact zVk GE116);rintro e w21 ⟨rfl,hb⟩;refine⟨_,rfl,?_⟩;have n0_:=Aside0.mk (zBz (g:=gb116) (o:=.cells #[.int .i64 a0_0,.int .u64 a0_1,.int .u64 a0_2] 28 (0,0)) (zzK BK116) hb);have n1_:=Aside0.mk (zAe (zEz GE116) hb);clear BK116;clear HB;have BK116:=n0_;have HB:=n1_;clear n0_ n1_;(try clear hb))|((with_reducible refine zAu (f:=13) rfl ?_);refine zCj (some 35) rfl rfl Tryz.func13 (by kernel_rfl) rfl #[.int .u64 (Go.bits .and .u64 a0_2 255)] rfl zzM ?_;(with_reducible refine(Yh.calls k (Go.bits .and .u64 a0_2 255) t121 _ ?side1 A13.out).mono ?_);(case side1=>exact zVk GE116);rintro e w22 ⟨rfl,hb⟩;refine⟨_,rfl,?_⟩;have n0_:=Aside0.mk (zBz (g:=gb116) (o:=.cells #[.int .i64 a0_0,.int .u64 a0_1,.int .u64 a0_2] 28 (0,0)) (zzK BK116) hb);have n1_:=Aside0.mk (zAe (zEz GE116) hb);clear BK116;clear HB;have BK116:=n0_;have HB:=n1_;clear n0_ n1_;(try clear hb)))
   go_ret
   exact⟨zzE,zEz GE116⟩
  ·have c4b0:=beq_eq_false_iff_ne.mpr c4;have c4b1:=bne_iff_ne.mpr c4;replace H:=zzW H;obtain⟨⟨t122,t123⟩,A23,H⟩:=H;(try dsimp only at H);have H':=Aside0.mk H;clear H;go_enter Tryz.func58,Tryz.ntmps58
   go_wp2_with (first|((with_reducible refine zBv (N:=1) rfl ?_);(try(refine zC3 (by rfl) ?_;dsimp only));refine zCr ?hg (N:=1) ?hd (cs:=#[.int .i64 a0_0,.int .u64 a0_1,.int .u64 a0_2]) (t:=28) ?hr ?_;(case hd=>rfl);(case hg=>rfl);(case hr=>first|(go_simp;done)|(go_simp;rfl));intro gb116 hg w24 hbox hb;have n0_:=Aside0.mk (zAe zzB hb);have n1_:=Aside0.mk (hbox);have n2_:=Aside0.mk ((by rw[hg];exact(zAi zzB):w.heap.size≤gb116));have n3_:=Aside0.mk ((by rw[hg];exact(zAi zzB):w.heap.size≤gb116));clear HB;have HB:=n0_;have BK116:=n1_;have GW116:=n2_;have GE116:=n3_;clear n0_ n1_ n2_ n3_;clear hb hbox hg;have hcz25_0:w24.cell? ⟨gb116,0,none⟩=some (.int .i64 a0_0):=(zAj BK116.out 0).trans rfl;have hcz25_1:w24.cell? ⟨gb116,1,none⟩=some (.int .u64 a0_1):=(zAj BK116.out 1).trans rfl;have hcz25_2:w24.cell? ⟨gb116,2,none⟩=some (.int .u64 a0_2):=(zAj BK116.out 2).trans rfl;have hfz25_0:=zAc BK116.out 0;have hfz25_1:=zAc BK116.out 1;have hfz25_2:=zAc BK116.out 2)|((with_reducible refine zAu (f:=44) rfl ?_);refine zCj (some 9) rfl rfl Tryz.func44 (by kernel_rfl) rfl #[.agg #[.int .i64 a0_0,.int .u64 a0_1,.int .u64 a0_2]] rfl zzM ?_;(with_reducible refine(Ym.calls a0_0 a0_1 a0_2 true _ ?side1 A2.out).mono ?_);(case side1=>exact zVk GE116);rintro e w26 ⟨rfl,hb⟩;refine⟨_,rfl,?_⟩;have n0_:=Aside0.mk (zBz (g:=gb116) (o:=.cells #[.int .i64 a0_0,.int .u64 a0_1,.int .u64 a0_2] 28 (0,0)) (zzK BK116) hb);have n1_:=Aside0.mk (zAe (zEz GE116) hb);clear BK116;clear HB;have BK116:=n0_;have HB:=n1_;clear n0_ n1_;(try clear hb);have hcz27_0:w26.cell? ⟨gb116,0,none⟩=some (.int .i64 a0_0):=(zAj BK116.out 0).trans rfl;have hcz27_1:w26.cell? ⟨gb116,1,none⟩=some (.int .u64 a0_1):=(zAj BK116.out 1).trans rfl;have hcz27_2:w26.cell? ⟨gb116,2,none⟩=some (.int .u64 a0_2):=(zAj BK116.out 2).trans rfl;have hfz27_0:=zAc BK116.out 0;have hfz27_1:=zAc BK116.out 1;have hfz27_2:=zAc BK116.out 2)|((with_reducible refine zAu (f:=80) rfl ?_);refine zCj (some 40) rfl rfl Tryz.func80 (by kernel_rfl) rfl #[.agg #[.int .u64 a0_1,.int .u64 a0_2]] rfl zzM ?_;(with_reducible refine(Yl.calls k a0_1 a0_2 t122 t123 _ ?side1 A23.out).mono ?_);(case side1=>exact zVk GE116);rintro e w28 ⟨rfl,hb⟩;refine⟨_,rfl,?_⟩;have n0_:=Aside0.mk (zBz (g:=gb116) (o:=.cells #[.int .i64 a0_0,.int .u64 a0_1,.int .u64 a0_2] 28 (0,0)) (zzK BK116) hb);have n1_:=Aside0.mk (zAe (zEz GE116) hb);clear BK116;clear HB;have BK116:=n0_;have HB:=n1_;clear n0_ n1_;(try clear hb)))
   go_loopg [6,7] k (fun kq v6 v7 w'=>∃ (x6_1:ByteArray) (x7_1:Int),v6=.string x6_1∧v7=.int .i64 x7_1∧Aside0 (Yb.l0 kq t122 t123 x6_1 x7_1 a0_0 a0_1 a0_2=some r)∧Aside0 (kq≤k)∧Aside0 (w'.heap[gb116]?=some (.cells #[.int .i64 a0_0,.int .u64 a0_1,.int .u64 a0_2] 28 (0,0)))∧Aside0 (Below w.heap.size w w'))
   case atStart=>exact⟨((⟨#[]⟩:ByteArray)),(0),zzS,zzS,H',⟨xGv _⟩,⟨zzK BK116⟩,⟨zEz GE116⟩⟩
   case round=>
    clear H';(try clear c3);(try clear c4);(try clear c4b0);(try clear c4b1);(try clear hcz25_0);(try clear hcz25_1);(try clear hcz25_2);(try clear hcz27_0);(try clear hcz27_1);(try clear hcz27_2);(try clear hfz25_0);(try clear hfz25_1);(try clear hfz25_2);(try clear hfz27_0);(try clear hfz27_1);(try clear hfz27_2);obtain⟨x6_1,x7_1,rfl,rfl,HA,HK1,BK116,HB⟩:=hrel
    cases gk with
    |zero=>exact absurd HA.out (by simp[Yb.l0])
    |succ k1=>
     have H:=HA.out;clear HA;simp only[Yb.l0] at H
     replace H:=zzC H;rcases H with⟨c29,H⟩|⟨c29,H⟩
     ·have c29b0:=xGx c29;clear c29
      replace H:=zzC H;rcases H with⟨c30,H⟩|⟨c30,H⟩
      ·have c30b0:=beq_iff_eq.mpr c30;have c30b1:=bne_eq_false_iff_eq.mpr c30;clear c30
       have c31:=zzI H;rw[xGq c31] at H;have c31b0:=xG2 c31;have c31b1:=xGx c31
       try have c31b2:=xIl (xH2.2 c31)
       have H':=Aside0.mk H;clear H;go_wp2
       go_roundg k1
       case measure=>have:=HK1.out;omega
       case rel=>exact⟨(x6_1++(⟨#[58,58]⟩:ByteArray)),(wrap64 ((wrap64 ((wrap64 (x7_1+t123)) - 1))+1)),zzS,zzS,H',⟨by have:=HK1.out;omega⟩,⟨zzK BK116⟩,⟨zEz GE116⟩⟩
      ·have c30b0:=beq_eq_false_iff_ne.mpr c30;have c30b1:=bne_iff_ne.mpr c30;have HC32:=Aside0.mk H;clear H
       go_upto_region 14 with(fail)
       go_cut [65] (fun v65 wc=>∃ (kq:Nat) (x65_31:Bool),v65=.bool x65_31∧Aside0 (Yb.j1 kq t122 t123 x6_1 x7_1 x65_31 a0_0 a0_1 a0_2=some r)∧Aside0 (kq≤k1)∧Aside0 (wc.heap[gb116]?=some (.cells #[.int .i64 a0_0,.int .u64 a0_1,.int .u64 a0_2] 28 (0,0)))∧Aside0 (Below w.heap.size w wc))
       case first=>
        have H:=HC32.out;clear HC32
        replace H:=zzC H;rcases H with⟨c33,H⟩|⟨c33,H⟩
        ·have c33b0:=beq_iff_eq.mpr c33;have c33b1:=bne_eq_false_iff_eq.mpr c33;clear c33
         (first|rw[c33b0]|(simp only[zFy,zH0];rw[c33b0])|skip)
         have H':=Aside0.mk H;clear H;go_wp2;go_meet
         case rel=>exact⟨_,(false),zzS,H',⟨zzO⟩,⟨zzK BK116⟩,⟨zEz GE116⟩⟩
        ·have c33b0:=beq_eq_false_iff_ne.mpr c33;have c33b1:=bne_iff_ne.mpr c33
         (first|rw[c33b0]|(simp only[zFy,zH0];rw[c33b0])|skip)
         obtain⟨ji34,hji34⟩:∃ j_:Int,(wrap64 ((x6_1.size:Int) - 1))=j_:=⟨_,rfl⟩
         replace H:(if 0≤(ji34) then(if(ji34) < (x6_1.size:Int) then(Yb.j1 k1 t122 t123 x6_1 x7_1 ((bt x6_1 (ji34)) != 58) a0_0 a0_1 a0_2) else(none)) else(none))=some r:=by first|(rw[hji34] at H;exact H)|(simp only[hji34] at H ⊢;exact H)
         have hji34w:(IntKind.i64.wrap ((x6_1.size:Int) - 1))=ji34:=(zFy _).trans hji34
         replace H:=zzJ H;obtain⟨c35b0,H⟩:=H
         replace H:=zzJ H;obtain⟨c36b0,H⟩:=H;have H':=Aside0.mk H;clear H;have p37:0≤((ji34):Int):=xGt zzA;have q37:(ji34) < (x6_1.size:Int):=xGt zzA;have hx37:=zD9 x6_1 (ji34);replace p37:=xG2 p37;replace q37:=xG2 q37;go_wp2;go_meet
         case rel=>exact⟨_,(((bt x6_1 (ji34)) != 58)),(by first|rfl|(simp;done)|(simp only[← hji34]<;>(first|rfl|simp))|(simp[*];done)),H',⟨zzO⟩,⟨zzK BK116⟩,⟨zEz GE116⟩⟩
       case rest=>
        clear HC32;(try clear c3);(try clear c4);(try clear c4b0);(try clear c4b1);(try clear c29);(try clear c29b0);(try clear c30);(try clear c30b0);(try clear c30b1);(try clear hcz25_0);(try clear hcz25_1);(try clear hcz25_2);(try clear hcz27_0);(try clear hcz27_1);(try clear hcz27_2);(try clear hfz25_0);(try clear hfz25_1);(try clear hfz25_2);(try clear hfz27_0);(try clear hfz27_1);(try clear hfz27_2);obtain⟨kq,x65_31,rfl,HA,HJ31,BK116,HB⟩:=hcut
        cases kq with
        |zero=>exact absurd HA.out (by simp[Yb.j1])
        |succ kj31=>
         have H:=HA.out;clear HA;simp only[Yb.j1] at H
         by_cases c38:x65_31=true
         ·subst c38;have H1:=H;rw[xGq rfl] at H1;clear H;have H:=H1;clear H1
          have c39:=zzI H;rw[xGq c39] at H;have c39b0:=xG2 c39;have c39b1:=xGx c39
          try have c39b2:=xIl (xH2.2 c39)
          replace H:=zzW H;obtain⟨t124,A40,H⟩:=H;(try dsimp only at H);replace H:=zzW H;obtain⟨t125,A41,H⟩:=H;(try dsimp only at H)
          have c42:=zzI H;rw[xGq c42] at H;have c42b0:=xG2 c42;have c42b1:=xGx c42
          try have c42b2:=xIl (xH2.2 c42)
          try have c42b3:(9223372036854775807 < x6_1.size+1+t125.size)=False:=xIl (by have z_:=c42;simp only[xHi] at z_;exact xH2.2 z_)
          have H':=Aside0.mk H;clear H;have hcz43_0:wc.cell? ⟨gb116,0,none⟩=some (.int .i64 a0_0):=(zAj BK116.out 0).trans rfl;have hcz43_1:wc.cell? ⟨gb116,1,none⟩=some (.int .u64 a0_1):=(zAj BK116.out 1).trans rfl;have hcz43_2:wc.cell? ⟨gb116,2,none⟩=some (.int .u64 a0_2):=(zAj BK116.out 2).trans rfl;have hfz43_0:=zAc BK116.out 0;have hfz43_1:=zAc BK116.out 1;have hfz43_2:=zAc BK116.out 2
          go_wp2_with (first|((with_reducible refine zAu (f:=82) rfl ?_);refine zCj (some 72) rfl rfl Tryz.func82 (by kernel_rfl) rfl #[.agg #[.int .u64 a0_1,.int .u64 a0_2],.int .i64 x7_1] rfl zzM ?_;(with_reducible refine(Yy.calls a0_1 a0_2 x7_1 t124 _ ?side1 A40.out).mono ?_);(case side1=>exact zVk GE116);rintro e w44 ⟨rfl,hb⟩;refine⟨_,rfl,?_⟩;have n0_:=Aside0.mk (zBz (g:=gb116) (o:=.cells #[.int .i64 a0_0,.int .u64 a0_1,.int .u64 a0_2] 28 (0,0)) (zzK BK116) hb);have n1_:=Aside0.mk (zAe (zEz GE116) hb);clear BK116;clear HB;have BK116:=n0_;have HB:=n1_;clear n0_ n1_;(try clear hb))|((with_reducible refine zAu (f:=81) rfl ?_);refine zCj (some 73) rfl rfl Tryz.func81 (by kernel_rfl) rfl #[.int .u64 t124] rfl zzM ?_;(with_reducible refine(Yt.calls kj31 t124 t125 _ ?side1 A41.out).mono ?_);(case side1=>exact zVk GE116);rintro e w45 ⟨rfl,hb⟩;refine⟨_,rfl,?_⟩;have n0_:=Aside0.mk (zBz (g:=gb116) (o:=.cells #[.int .i64 a0_0,.int .u64 a0_1,.int .u64 a0_2] 28 (0,0)) (zzK BK116) hb);have n1_:=Aside0.mk (zAe (zEz GE116) hb);clear BK116;clear HB;have BK116:=n0_;have HB:=n1_;clear n0_ n1_;(try clear hb)))
          go_roundg kj31
          case measure=>have:=HK1.out;have:=HJ31.out;omega
          case rel=>exact⟨((x6_1++(⟨#[58]⟩:ByteArray))++t125),(wrap64 (x7_1+1)),zzS,zzS,H',⟨by have:=HK1.out;have:=HJ31.out;omega⟩,⟨zzK BK116⟩,⟨zEz GE116⟩⟩
         ·replace c38:=Bool.eq_false_iff.mpr c38;subst c38
          have H1:((Yy.f a0_1 a0_2 x7_1).bind fun t126=>((Yt.f kj31 t126).bind fun t127=>(if x6_1.size+t127.size≤9223372036854775807 then(Yb.l0 kj31 t122 t123 (x6_1++t127) (wrap64 (x7_1+1)) a0_0 a0_1 a0_2) else(none))))=some r:=by rw[xGr (show ¬ (false=true) by decide)] at H;exact H
          clear H;have H:=H1;clear H1;replace H:=zzW H;obtain⟨t126,A46,H⟩:=H;(try dsimp only at H);replace H:=zzW H;obtain⟨t127,A47,H⟩:=H;(try dsimp only at H)
          have c48:=zzI H;rw[xGq c48] at H;have c48b0:=xG2 c48;have c48b1:=xGx c48
          try have c48b2:=xIl (xH2.2 c48)
          have H':=Aside0.mk H;clear H;have hcz49_0:wc.cell? ⟨gb116,0,none⟩=some (.int .i64 a0_0):=(zAj BK116.out 0).trans rfl;have hcz49_1:wc.cell? ⟨gb116,1,none⟩=some (.int .u64 a0_1):=(zAj BK116.out 1).trans rfl;have hcz49_2:wc.cell? ⟨gb116,2,none⟩=some (.int .u64 a0_2):=(zAj BK116.out 2).trans rfl;have hfz49_0:=zAc BK116.out 0;have hfz49_1:=zAc BK116.out 1;have hfz49_2:=zAc BK116.out 2
          go_wp2_with (first|((with_reducible refine zAu (f:=82) rfl ?_);refine zCj (some 72) rfl rfl Tryz.func82 (by kernel_rfl) rfl #[.agg #[.int .u64 a0_1,.int .u64 a0_2],.int .i64 x7_1] rfl zzM ?_;(with_reducible refine(Yy.calls a0_1 a0_2 x7_1 t126 _ ?side1 A46.out).mono ?_);(case side1=>exact zVk GE116);rintro e w50 ⟨rfl,hb⟩;refine⟨_,rfl,?_⟩;have n0_:=Aside0.mk (zBz (g:=gb116) (o:=.cells #[.int .i64 a0_0,.int .u64 a0_1,.int .u64 a0_2] 28 (0,0)) (zzK BK116) hb);have n1_:=Aside0.mk (zAe (zEz GE116) hb);clear BK116;clear HB;have BK116:=n0_;have HB:=n1_;clear n0_ n1_;(try clear hb))|((with_reducible refine zAu (f:=81) rfl ?_);refine zCj (some 73) rfl rfl Tryz.func81 (by kernel_rfl) rfl #[.int .u64 t126] rfl zzM ?_;(with_reducible refine(Yt.calls kj31 t126 t127 _ ?side1 A47.out).mono ?_);(case side1=>exact zVk GE116);rintro e w51 ⟨rfl,hb⟩;refine⟨_,rfl,?_⟩;have n0_:=Aside0.mk (zBz (g:=gb116) (o:=.cells #[.int .i64 a0_0,.int .u64 a0_1,.int .u64 a0_2] 28 (0,0)) (zzK BK116) hb);have n1_:=Aside0.mk (zAe (zEz GE116) hb);clear BK116;clear HB;have BK116:=n0_;have HB:=n1_;clear n0_ n1_;(try clear hb)))
          go_roundg kj31
          case measure=>have:=HK1.out;have:=HJ31.out;omega
          case rel=>exact⟨(x6_1++t127),(wrap64 (x7_1+1)),zzS,zzS,H',⟨by have:=HK1.out;have:=HJ31.out;omega⟩,⟨zzK BK116⟩,⟨zEz GE116⟩⟩
     ·have c29b0:=xG1 c29;clear c29;obtain rfl:=xHc H;go_wp2
      go_ret
      exact⟨zzE,zEz GE116⟩
 ·replace c3:=Bool.eq_false_iff.mpr c3;subst c3
  have H1:(some (⟨#[]⟩:ByteArray))=some r:=by rw[xGr (show ¬ (false=true) by decide)] at H;exact H
  clear H;have H:=H1;clear H1;obtain rfl:=xHc H;go_enter Tryz.func58,Tryz.ntmps58
  go_wp2_with (first|((with_reducible refine zBv (N:=1) rfl ?_);(try(refine zC3 (by rfl) ?_;dsimp only));refine zCr ?hg (N:=1) ?hd (cs:=#[.int .i64 a0_0,.int .u64 a0_1,.int .u64 a0_2]) (t:=28) ?hr ?_;(case hd=>rfl);(case hg=>rfl);(case hr=>first|(go_simp;done)|(go_simp;rfl));intro gb116 hg w52 hbox hb;have n0_:=Aside0.mk (zAe zzB hb);have n1_:=Aside0.mk (hbox);have n2_:=Aside0.mk ((by rw[hg];exact(zAi zzB):w.heap.size≤gb116));have n3_:=Aside0.mk ((by rw[hg];exact(zAi zzB):w.heap.size≤gb116));clear HB;have HB:=n0_;have BK116:=n1_;have GW116:=n2_;have GE116:=n3_;clear n0_ n1_ n2_ n3_;clear hb hbox hg;have hcz53_0:w52.cell? ⟨gb116,0,none⟩=some (.int .i64 a0_0):=(zAj BK116.out 0).trans rfl;have hcz53_1:w52.cell? ⟨gb116,1,none⟩=some (.int .u64 a0_1):=(zAj BK116.out 1).trans rfl;have hcz53_2:w52.cell? ⟨gb116,2,none⟩=some (.int .u64 a0_2):=(zAj BK116.out 2).trans rfl;have hfz53_0:=zAc BK116.out 0;have hfz53_1:=zAc BK116.out 1;have hfz53_2:=zAc BK116.out 2)|((with_reducible refine zAu (f:=44) rfl ?_);refine zCj (some 9) rfl rfl Tryz.func44 (by kernel_rfl) rfl #[.agg #[.int .i64 a0_0,.int .u64 a0_1,.int .u64 a0_2]] rfl zzM ?_;(with_reducible refine(Ym.calls a0_0 a0_1 a0_2 false _ ?side1 A2.out).mono ?_);(case side1=>exact zVk GE116);rintro e w54 ⟨rfl,hb⟩;refine⟨_,rfl,?_⟩;have n0_:=Aside0.mk (zBz (g:=gb116) (o:=.cells #[.int .i64 a0_0,.int .u64 a0_1,.int .u64 a0_2] 28 (0,0)) (zzK BK116) hb);have n1_:=Aside0.mk (zAe (zEz GE116) hb);clear BK116;clear HB;have BK116:=n0_;have HB:=n1_;clear n0_ n1_;(try clear hb)))
  go_ret
  exact⟨zzE,zEz GE116⟩
mutual
def Yf.l0:Nat→Int→List Int→ByteArray→List ByteArray→Int→Option (ByteArray)
 |0,_,_,_,_,_=>none
 |k+1,x0,x3,x9,x10,x11=>if x11 < (x3.length:Int) then(Yf.j1 k x0 x3 x9 x10 x11 (decide (x11 < 12))) else(Yf.j1 k x0 x3 x9 x10 x11 false)
def Yf.j1:Nat→Int→List Int→ByteArray→List ByteArray→Int→Bool→Option (ByteArray)
 |0,_,_,_,_,_,_=>none
 |k+1,x0,x3,x9,x10,x11,x26=>if x26=true then(if 0≤x11 then(if x11 < (x3.length:Int) then(if(wrap64 ((x9.size:Int)+1))=0 then(none) else(if(Go.bits .and .i64 (x0 / 1048576) 3)=0 then(Yf.j2 k x0 x3 x9 x10 x11 (x9.size:Int)) else(Yf.j2 k x0 x3 x9 x10 x11 (Int.tmod (Go.bits .and .i64 ((rd x3 x11) / 256) 255) (wrap64 ((x9.size:Int)+1)))))) else(none)) else(none)) else(some x9)
def Yf.j2:Nat→Int→List Int→ByteArray→List ByteArray→Int→Int→Option (ByteArray)
 |0,_,_,_,_,_,_=>none
 |k+1,x0,x3,x9,x10,x11,x12=>if 0≤x12 then(if x12≤(x9.size:Int) then(if 0≤x11 then(if x11 < (x3.length:Int) then(if(x10.length:Int)=0 then(none) else(if 0≤(Int.tmod (Go.bits .and .i64 (rd x3 x11) 255) (x10.length:Int)) then(if(Int.tmod (Go.bits .and .i64 (rd x3 x11) 255) (x10.length:Int)) < (x10.length:Int) then(if(x9.extract 0 (x12:Int).toNat).size+(zCl ByteArray.empty x10 (Int.tmod (Go.bits .and .i64 (rd x3 x11) 255) (x10.length:Int))).size≤9223372036854775807 then(if(wrap64 ((wrap64 ((x9.size:Int) - x12))+1))=0 then(none) else(if 0≤(wrap64 (x12+(Int.tmod (Go.bits .and .i64 ((rd x3 x11) / 65536) 1) (wrap64 ((wrap64 ((x9.size:Int) - x12))+1))))) then(if(wrap64 (x12+(Int.tmod (Go.bits .and .i64 ((rd x3 x11) / 65536) 1) (wrap64 ((wrap64 ((x9.size:Int) - x12))+1)))))≤(x9.size:Int) then(if((x9.extract 0 (x12:Int).toNat)++(zCl ByteArray.empty x10 (Int.tmod (Go.bits .and .i64 (rd x3 x11) 255) (x10.length:Int)))).size+(x9.extract ((wrap64 (x12+(Int.tmod (Go.bits .and .i64 ((rd x3 x11) / 65536) 1) (wrap64 ((wrap64 ((x9.size:Int) - x12))+1))))):Int).toNat x9.size).size≤9223372036854775807 then(Yf.l0 k x0 x3 (((x9.extract 0 (x12:Int).toNat)++(zCl ByteArray.empty x10 (Int.tmod (Go.bits .and .i64 (rd x3 x11) 255) (x10.length:Int))))++(x9.extract ((wrap64 (x12+(Int.tmod (Go.bits .and .i64 ((rd x3 x11) / 65536) 1) (wrap64 ((wrap64 ((x9.size:Int) - x12))+1))))):Int).toNat x9.size)) x10 (wrap64 (x11+1))) else(none)) else(none)) else(none))) else(none)) else(none)) else(none))) else(none)) else(none)) else(none)) else(none)
end
def Yf.f (k:Nat)(a0:Int)(a1:Int)(a2:Int)(l3:List Int):Option (ByteArray):=(Ye.f a0 a1 a2).bind fun bt128=>((Yb.f k bt128.1 bt128.2.1 bt128.2.2).bind fun t131=>(Yf.l0 k a0 l3 t131 (([(⟨#[58]⟩:ByteArray),(⟨#[58,58]⟩:ByteArray),(⟨#[46]⟩:ByteArray),(⟨#[48]⟩:ByteArray),(⟨#[49]⟩:ByteArray),(⟨#[102,102,102,102]⟩:ByteArray),(⟨#[49,50,51,52,53]⟩:ByteArray),(⟨#[103]⟩:ByteArray),(⟨#[50,53,53]⟩:ByteArray),(⟨#[50,53,54]⟩:ByteArray),(⟨#[48,49]⟩:ByteArray),(⟨#[49,48,46,48,46,48,46,49]⟩:ByteArray),(⟨#[65]⟩:ByteArray),(⟨#[49,46,50,46,51]⟩:ByteArray),(⟨#[47]⟩:ByteArray),(⟨#[32]⟩:ByteArray)]:List ByteArray)) 0))
set_option maxRecDepth 100000 in
theorem Yf.calls (k:Nat)(a0:Int)(a1:Int)(a2:Int)(A3:Option Addr)(c3:Nat)(l3:List Int)(r:ByteArray)(w:World)(hr3:Kd.C (Kd.int .i64) w A3 l3.length l3)(hc3:l3.length≤c3)(hG:GoodW w)(h:Yf.f k a0 a1 a2 l3=some r):
  Calls Tryz.prog 12 #[.int .i64 a0,.int .u64 a1,.int .u64 a2,.slice A3 l3.length c3] w fun e w'=>e=.returned (.string r)∧Below w.heap.size w w':=by
 have HR3:=Aside0.mk hr3;have HC3:=Aside0.mk hc3;clear hr3 hc3;have HB:=Aside0.mk (Below.refl w.heap.size w);have H:=h;unfold Yf.f at H;clear h;replace H:=zzW H;obtain⟨⟨t128,t129,t130⟩,A5,H⟩:=H;(try dsimp only at H);replace H:=zzW H;obtain⟨t131,A6,H⟩:=H;(try dsimp only at H);obtain⟨y132,hy132⟩:∃ y_:List ByteArray,y_=(([(⟨#[58]⟩:ByteArray),(⟨#[58,58]⟩:ByteArray),(⟨#[46]⟩:ByteArray),(⟨#[48]⟩:ByteArray),(⟨#[49]⟩:ByteArray),(⟨#[102,102,102,102]⟩:ByteArray),(⟨#[49,50,51,52,53]⟩:ByteArray),(⟨#[103]⟩:ByteArray),(⟨#[50,53,53]⟩:ByteArray),(⟨#[50,53,54]⟩:ByteArray),(⟨#[48,49]⟩:ByteArray),(⟨#[49,48,46,48,46,48,46,49]⟩:ByteArray),(⟨#[65]⟩:ByteArray),(⟨#[49,46,50,46,51]⟩:ByteArray),(⟨#[47]⟩:ByteArray),(⟨#[32]⟩:ByteArray)]:List ByteArray)):=⟨_,rfl⟩
 replace H:(Yf.l0 k a0 l3 t131 y132 0)=some r:=by first|(rw[hy132];with_reducible exact H)|(have H2_:=(xGp _ _).symm.trans H;rw[hy132];with_reducible exact H2_)|(have H2_:=(xGp _ _).symm.trans H;with_reducible exact H2_)|with_reducible exact H|(rw[hy132];exact H)|exact H
 have Ny132:=Aside0.mk hy132;clear hy132;have H':=Aside0.mk H;clear H;go_enter Tryz.func12,Tryz.ntmps12
 go_wp2_with (first|(go_at_call 42;(with_reducible refine(Ye.calls a0 a1 a2 t128 t129 t130 _ ?side1 A5.out).mono ?_);(case side1=>exact zzG);rintro e w7 ⟨rfl,hb⟩;have n0_:=Aside0.mk (zAe zzB hb);clear HB;have HB:=n0_;clear n0_;(try clear hb);)|(go_at_call 58;(with_reducible refine(Yb.calls k t128 t129 t130 t131 _ ?side1 A6.out).mono ?_);(case side1=>exact zzG);rintro e w8 ⟨rfl,hb⟩;have n0_:=Aside0.mk (zAe zzB hb);clear HB;have HB:=n0_;clear n0_;(try clear hb);)|((with_reducible refine zBv (N:=18) rfl ?_);refine Kd.R_lit Kd.string _ 9 ?hg (N:=18) ?hd (xs:=([(⟨#[58]⟩:ByteArray),(⟨#[58,58]⟩:ByteArray),(⟨#[46]⟩:ByteArray),(⟨#[48]⟩:ByteArray),(⟨#[49]⟩:ByteArray),(⟨#[102,102,102,102]⟩:ByteArray),(⟨#[49,50,51,52,53]⟩:ByteArray),(⟨#[103]⟩:ByteArray),(⟨#[50,53,53]⟩:ByteArray),(⟨#[50,53,54]⟩:ByteArray),(⟨#[48,49]⟩:ByteArray),(⟨#[49,48,46,48,46,48,46,49]⟩:ByteArray),(⟨#[65]⟩:ByteArray),(⟨#[49,46,50,46,51]⟩:ByteArray),(⟨#[47]⟩:ByteArray),(⟨#[32]⟩:ByteArray)]:List ByteArray)) (inner:=[.string (⟨#[58]⟩:ByteArray),.string (⟨#[58,58]⟩:ByteArray),.string (⟨#[46]⟩:ByteArray),.string (⟨#[48]⟩:ByteArray),.string (⟨#[49]⟩:ByteArray),.string (⟨#[102,102,102,102]⟩:ByteArray),.string (⟨#[49,50,51,52,53]⟩:ByteArray),.string (⟨#[103]⟩:ByteArray),.string (⟨#[50,53,53]⟩:ByteArray),.string (⟨#[50,53,54]⟩:ByteArray),.string (⟨#[48,49]⟩:ByteArray),.string (⟨#[49,48,46,48,46,48,46,49]⟩:ByteArray),.string (⟨#[65]⟩:ByteArray),.string (⟨#[49,46,50,46,51]⟩:ByteArray),.string (⟨#[47]⟩:ByteArray),.string (⟨#[32]⟩:ByteArray)]) (ok:=fun _=>True) (okp:=fun _=>True) ?hr ?hp (fun _ hk=>hk) trivial (Below.refl _ _) (xGv _) (by simp) ?_;(case hd=>rfl);(case hg=>rfl);(case hr=>first|(go_simp;done)|(go_simp;rfl));(case hp=>exact(Reps.one (show Kd.M Kd.string _ _ _ (⟨#[58]⟩:ByteArray) [.string (⟨#[58]⟩:ByteArray)] from rfl) (Reps.one (show Kd.M Kd.string _ _ _ (⟨#[58,58]⟩:ByteArray) [.string (⟨#[58,58]⟩:ByteArray)] from rfl) (Reps.one (show Kd.M Kd.string _ _ _ (⟨#[46]⟩:ByteArray) [.string (⟨#[46]⟩:ByteArray)] from rfl) (Reps.one (show Kd.M Kd.string _ _ _ (⟨#[48]⟩:ByteArray) [.string (⟨#[48]⟩:ByteArray)] from rfl) (Reps.one (show Kd.M Kd.string _ _ _ (⟨#[49]⟩:ByteArray) [.string (⟨#[49]⟩:ByteArray)] from rfl) (Reps.one (show Kd.M Kd.string _ _ _ (⟨#[102,102,102,102]⟩:ByteArray) [.string (⟨#[102,102,102,102]⟩:ByteArray)] from rfl) (Reps.one (show Kd.M Kd.string _ _ _ (⟨#[49,50,51,52,53]⟩:ByteArray) [.string (⟨#[49,50,51,52,53]⟩:ByteArray)] from rfl) (Reps.one (show Kd.M Kd.string _ _ _ (⟨#[103]⟩:ByteArray) [.string (⟨#[103]⟩:ByteArray)] from rfl) (Reps.one (show Kd.M Kd.string _ _ _ (⟨#[50,53,53]⟩:ByteArray) [.string (⟨#[50,53,53]⟩:ByteArray)] from rfl) (Reps.one (show Kd.M Kd.string _ _ _ (⟨#[50,53,54]⟩:ByteArray) [.string (⟨#[50,53,54]⟩:ByteArray)] from rfl) (Reps.one (show Kd.M Kd.string _ _ _ (⟨#[48,49]⟩:ByteArray) [.string (⟨#[48,49]⟩:ByteArray)] from rfl) (Reps.one (show Kd.M Kd.string _ _ _ (⟨#[49,48,46,48,46,48,46,49]⟩:ByteArray) [.string (⟨#[49,48,46,48,46,48,46,49]⟩:ByteArray)] from rfl) (Reps.one (show Kd.M Kd.string _ _ _ (⟨#[65]⟩:ByteArray) [.string (⟨#[65]⟩:ByteArray)] from rfl) (Reps.one (show Kd.M Kd.string _ _ _ (⟨#[49,46,50,46,51]⟩:ByteArray) [.string (⟨#[49,46,50,46,51]⟩:ByteArray)] from rfl) (Reps.one (show Kd.M Kd.string _ _ _ (⟨#[47]⟩:ByteArray) [.string (⟨#[47]⟩:ByteArray)] from rfl) (Reps.one (show Kd.M Kd.string _ _ _ (⟨#[32]⟩:ByteArray) [.string (⟨#[32]⟩:ByteArray)] from rfl) (Reps.none _ _))))))))))))))))));intro v133 w9 ho10 hb hg_ hnew_;clear hg_ hnew_;(first|rw[← Ny132.out] at ho10|(simp only[Int.reduceToNat] at ho10;rw[← Ny132.out] at ho10));have n0_:=Aside0.mk (Kd.R_lower ho10 (zAi zzB));have n1_:=Aside0.mk (zAe zzB hb);clear HB;have HO134:=n0_;have HB:=n1_;clear n0_ n1_;clear hb ho10))
 repeat (go_quiet (first|(go_at_call 42;(with_reducible refine(Ye.calls a0 a1 a2 t128 t129 t130 _ ?side1 A5.out).mono ?_);(case side1=>exact zzG);rintro e w7 ⟨rfl,hb⟩;have n0_:=Aside0.mk (zAe zzB hb);clear HB;have HB:=n0_;clear n0_;(try clear hb);(try clear hk))|(go_at_call 58;(with_reducible refine(Yb.calls k t128 t129 t130 t131 _ ?side1 A6.out).mono ?_);(case side1=>exact zzG);rintro e w8 ⟨rfl,hb⟩;have n0_:=Aside0.mk (zAe zzB hb);clear HB;have HB:=n0_;clear n0_;(try clear hb);(try clear hk))|((with_reducible refine zBv (N:=18) rfl ?_);refine Kd.R_lit Kd.string _ 9 ?hg (N:=18) ?hd (xs:=([(⟨#[58]⟩:ByteArray),(⟨#[58,58]⟩:ByteArray),(⟨#[46]⟩:ByteArray),(⟨#[48]⟩:ByteArray),(⟨#[49]⟩:ByteArray),(⟨#[102,102,102,102]⟩:ByteArray),(⟨#[49,50,51,52,53]⟩:ByteArray),(⟨#[103]⟩:ByteArray),(⟨#[50,53,53]⟩:ByteArray),(⟨#[50,53,54]⟩:ByteArray),(⟨#[48,49]⟩:ByteArray),(⟨#[49,48,46,48,46,48,46,49]⟩:ByteArray),(⟨#[65]⟩:ByteArray),(⟨#[49,46,50,46,51]⟩:ByteArray),(⟨#[47]⟩:ByteArray),(⟨#[32]⟩:ByteArray)]:List ByteArray)) (inner:=[.string (⟨#[58]⟩:ByteArray),.string (⟨#[58,58]⟩:ByteArray),.string (⟨#[46]⟩:ByteArray),.string (⟨#[48]⟩:ByteArray),.string (⟨#[49]⟩:ByteArray),.string (⟨#[102,102,102,102]⟩:ByteArray),.string (⟨#[49,50,51,52,53]⟩:ByteArray),.string (⟨#[103]⟩:ByteArray),.string (⟨#[50,53,53]⟩:ByteArray),.string (⟨#[50,53,54]⟩:ByteArray),.string (⟨#[48,49]⟩:ByteArray),.string (⟨#[49,48,46,48,46,48,46,49]⟩:ByteArray),.string (⟨#[65]⟩:ByteArray),.string (⟨#[49,46,50,46,51]⟩:ByteArray),.string (⟨#[47]⟩:ByteArray),.string (⟨#[32]⟩:ByteArray)]) (ok:=fun _=>True) (okp:=fun _=>True) ?hr ?hp (fun _ hk=>hk) trivial (Below.refl _ _) (xGv _) (by simp) ?_;(case hd=>rfl);(case hg=>rfl);(case hr=>first|(go_simp;done)|(go_simp;rfl));(case hp=>exact(Reps.one (show Kd.M Kd.string _ _ _ (⟨#[58]⟩:ByteArray) [.string (⟨#[58]⟩:ByteArray)] from rfl) (Reps.one (show Kd.M Kd.string _ _ _ (⟨#[58,58]⟩:ByteArray) [.string (⟨#[58,58]⟩:ByteArray)] from rfl) (Reps.one (show Kd.M Kd.string _ _ _ (⟨#[46]⟩:ByteArray) [.string (⟨#[46]⟩:ByteArray)] from rfl) (Reps.one (show Kd.M Kd.string _ _ _ (⟨#[48]⟩:ByteArray) [.string (⟨#[48]⟩:ByteArray)] from rfl) (Reps.one (show Kd.M Kd.string _ _ _ (⟨#[49]⟩:ByteArray) [.string (⟨#[49]⟩:ByteArray)] from rfl) (Reps.one (show Kd.M Kd.string _ _ _ (⟨#[102,102,102,102]⟩:ByteArray) [.string (⟨#[102,102,102,102]⟩:ByteArray)] from rfl) (Reps.one (show Kd.M Kd.string _ _ _ (⟨#[49,50,51,52,53]⟩:ByteArray) [.string (⟨#[49,50,51,52,53]⟩:ByteArray)] from rfl) (Reps.one (show Kd.M Kd.string _ _ _ (⟨#[103]⟩:ByteArray) [.string (⟨#[103]⟩:ByteArray)] from rfl) (Reps.one (show Kd.M Kd.string _ _ _ (⟨#[50,53,53]⟩:ByteArray) [.string (⟨#[50,53,53]⟩:ByteArray)] from rfl) (Reps.one (show Kd.M Kd.string _ _ _ (⟨#[50,53,54]⟩:ByteArray) [.string (⟨#[50,53,54]⟩:ByteArray)] from rfl) (Reps.one (show Kd.M Kd.string _ _ _ (⟨#[48,49]⟩:ByteArray) [.string (⟨#[48,49]⟩:ByteArray)] from rfl) (Reps.one (show Kd.M Kd.string _ _ _ (⟨#[49,48,46,48,46,48,46,49]⟩:ByteArray) [.string (⟨#[49,48,46,48,46,48,46,49]⟩:ByteArray)] from rfl) (Reps.one (show Kd.M Kd.string _ _ _ (⟨#[65]⟩:ByteArray) [.string (⟨#[65]⟩:ByteArray)] from rfl) (Reps.one (show Kd.M Kd.string _ _ _ (⟨#[49,46,50,46,51]⟩:ByteArray) [.string (⟨#[49,46,50,46,51]⟩:ByteArray)] from rfl) (Reps.one (show Kd.M Kd.string _ _ _ (⟨#[47]⟩:ByteArray) [.string (⟨#[47]⟩:ByteArray)] from rfl) (Reps.one (show Kd.M Kd.string _ _ _ (⟨#[32]⟩:ByteArray) [.string (⟨#[32]⟩:ByteArray)] from rfl) (Reps.none _ _))))))))))))))))));intro v133 w9 ho10 hb hg_ hnew_;clear hg_ hnew_;(first|rw[← Ny132.out] at ho10|(simp only[Int.reduceToNat] at ho10;rw[← Ny132.out] at ho10));have n0_:=Aside0.mk (Kd.R_lower ho10 (zAi zzB));have n1_:=Aside0.mk (zAe zzB hb);clear HB;have HO134:=n0_;have HB:=n1_;clear n0_ n1_;clear hb ho10));try go_wp2_with (first|(go_at_call 42;(with_reducible refine(Ye.calls a0 a1 a2 t128 t129 t130 _ ?side1 A5.out).mono ?_);(case side1=>exact zzG);rintro e w7 ⟨rfl,hb⟩;have n0_:=Aside0.mk (zAe zzB hb);clear HB;have HB:=n0_;clear n0_;(try clear hb);(try clear hk))|(go_at_call 58;(with_reducible refine(Yb.calls k t128 t129 t130 t131 _ ?side1 A6.out).mono ?_);(case side1=>exact zzG);rintro e w8 ⟨rfl,hb⟩;have n0_:=Aside0.mk (zAe zzB hb);clear HB;have HB:=n0_;clear n0_;(try clear hb);(try clear hk))|((with_reducible refine zBv (N:=18) rfl ?_);refine Kd.R_lit Kd.string _ 9 ?hg (N:=18) ?hd (xs:=([(⟨#[58]⟩:ByteArray),(⟨#[58,58]⟩:ByteArray),(⟨#[46]⟩:ByteArray),(⟨#[48]⟩:ByteArray),(⟨#[49]⟩:ByteArray),(⟨#[102,102,102,102]⟩:ByteArray),(⟨#[49,50,51,52,53]⟩:ByteArray),(⟨#[103]⟩:ByteArray),(⟨#[50,53,53]⟩:ByteArray),(⟨#[50,53,54]⟩:ByteArray),(⟨#[48,49]⟩:ByteArray),(⟨#[49,48,46,48,46,48,46,49]⟩:ByteArray),(⟨#[65]⟩:ByteArray),(⟨#[49,46,50,46,51]⟩:ByteArray),(⟨#[47]⟩:ByteArray),(⟨#[32]⟩:ByteArray)]:List ByteArray)) (inner:=[.string (⟨#[58]⟩:ByteArray),.string (⟨#[58,58]⟩:ByteArray),.string (⟨#[46]⟩:ByteArray),.string (⟨#[48]⟩:ByteArray),.string (⟨#[49]⟩:ByteArray),.string (⟨#[102,102,102,102]⟩:ByteArray),.string (⟨#[49,50,51,52,53]⟩:ByteArray),.string (⟨#[103]⟩:ByteArray),.string (⟨#[50,53,53]⟩:ByteArray),.string (⟨#[50,53,54]⟩:ByteArray),.string (⟨#[48,49]⟩:ByteArray),.string (⟨#[49,48,46,48,46,48,46,49]⟩:ByteArray),.string (⟨#[65]⟩:ByteArray),.string (⟨#[49,46,50,46,51]⟩:ByteArray),.string (⟨#[47]⟩:ByteArray),.string (⟨#[32]⟩:ByteArray)]) (ok:=fun _=>True) (okp:=fun _=>True) ?hr ?hp (fun _ hk=>hk) trivial (Below.refl _ _) (xGv _) (by simp) ?_;(case hd=>rfl);(case hg=>rfl);(case hr=>first|(go_simp;done)|(go_simp;rfl));(case hp=>exact(Reps.one (show Kd.M Kd.string _ _ _ (⟨#[58]⟩:ByteArray) [.string (⟨#[58]⟩:ByteArray)] from rfl) (Reps.one (show Kd.M Kd.string _ _ _ (⟨#[58,58]⟩:ByteArray) [.string (⟨#[58,58]⟩:ByteArray)] from rfl) (Reps.one (show Kd.M Kd.string _ _ _ (⟨#[46]⟩:ByteArray) [.string (⟨#[46]⟩:ByteArray)] from rfl) (Reps.one (show Kd.M Kd.string _ _ _ (⟨#[48]⟩:ByteArray) [.string (⟨#[48]⟩:ByteArray)] from rfl) (Reps.one (show Kd.M Kd.string _ _ _ (⟨#[49]⟩:ByteArray) [.string (⟨#[49]⟩:ByteArray)] from rfl) (Reps.one (show Kd.M Kd.string _ _ _ (⟨#[102,102,102,102]⟩:ByteArray) [.string (⟨#[102,102,102,102]⟩:ByteArray)] from rfl) (Reps.one (show Kd.M Kd.string _ _ _ (⟨#[49,50,51,52,53]⟩:ByteArray) [.string (⟨#[49,50,51,52,53]⟩:ByteArray)] from rfl) (Reps.one (show Kd.M Kd.string _ _ _ (⟨#[103]⟩:ByteArray) [.string (⟨#[103]⟩:ByteArray)] from rfl) (Reps.one (show Kd.M Kd.string _ _ _ (⟨#[50,53,53]⟩:ByteArray) [.string (⟨#[50,53,53]⟩:ByteArray)] from rfl) (Reps.one (show Kd.M Kd.string _ _ _ (⟨#[50,53,54]⟩:ByteArray) [.string (⟨#[50,53,54]⟩:ByteArray)] from rfl) (Reps.one (show Kd.M Kd.string _ _ _ (⟨#[48,49]⟩:ByteArray) [.string (⟨#[48,49]⟩:ByteArray)] from rfl) (Reps.one (show Kd.M Kd.string _ _ _ (⟨#[49,48,46,48,46,48,46,49]⟩:ByteArray) [.string (⟨#[49,48,46,48,46,48,46,49]⟩:ByteArray)] from rfl) (Reps.one (show Kd.M Kd.string _ _ _ (⟨#[65]⟩:ByteArray) [.string (⟨#[65]⟩:ByteArray)] from rfl) (Reps.one (show Kd.M Kd.string _ _ _ (⟨#[49,46,50,46,51]⟩:ByteArray) [.string (⟨#[49,46,50,46,51]⟩:ByteArray)] from rfl) (Reps.one (show Kd.M Kd.string _ _ _ (⟨#[47]⟩:ByteArray) [.string (⟨#[47]⟩:ByteArray)] from rfl) (Reps.one (show Kd.M Kd.string _ _ _ (⟨#[32]⟩:ByteArray) [.string (⟨#[32]⟩:ByteArray)] from rfl) (Reps.none _ _))))))))))))))))));intro v133 w9 ho10 hb hg_ hnew_;clear hg_ hnew_;(first|rw[← Ny132.out] at ho10|(simp only[Int.reduceToNat] at ho10;rw[← Ny132.out] at ho10));have n0_:=Aside0.mk (Kd.R_lower ho10 (zAi zzB));have n1_:=Aside0.mk (zAe zzB hb);clear HB;have HO134:=n0_;have HB:=n1_;clear n0_ n1_;clear hb ho10)))
 go_loopg [9,11] k (fun kq v9 v11 w'=>∃ (x9_1:ByteArray) (x11_1:Int),v9=.string x9_1∧v11=.int .i64 x11_1∧Aside0 (Yf.l0 kq a0 l3 x9_1 y132 x11_1=some r)∧Aside0 (kq≤k)∧Aside0 (Kd.R Kd.string 9 w' w.heap.size (fun _=>True) v133 y132)∧Aside0 (Below w.heap.size w w'))
 case atStart=>exact⟨(t131),(0),zzS,zzS,H',⟨xGv _⟩,⟨zzR HO134⟩,⟨zzB⟩⟩
 case round=>
  clear H';(try clear c3);obtain⟨x9_1,x11_1,rfl,rfl,HA,HK1,HO_10,HB⟩:=hrel
  cases gk with
  |zero=>exact absurd HA.out (by simp[Yf.l0])
  |succ k1=>
   have H:=HA.out;clear HA;simp only[Yf.l0] at H;have HC11:=Aside0.mk H;clear H
   go_upto_region 4 with(fail)
   repeat (go_quiet (fail);go_upto_region 4 with(fail))
   go_cut [26] (fun v26 wc=>∃ (kq:Nat) (x26_10:Bool),v26=.bool x26_10∧Aside0 (Yf.j1 kq a0 l3 x9_1 y132 x11_1 x26_10=some r)∧Aside0 (kq≤k1)∧Aside0 (Kd.R Kd.string 9 wc w.heap.size (fun _=>True) v133 y132)∧Aside0 (Below w.heap.size w wc))
   case first=>
    have H:=HC11.out;clear HC11
    replace H:=zzC H;rcases H with⟨c12,H⟩|⟨c12,H⟩
    ·have c12b0:=xGx c12;clear c12
     (first|rw[c12b0]|(simp only[zFy,zH0];rw[c12b0])|skip)
     have H':=Aside0.mk H;clear H;go_wp2
     repeat (go_quiet (fail);try go_wp2)
     go_meet
     case rel=>exact⟨_,(decide (x11_1 < 12)),zzS,H',⟨zzO⟩,⟨zzR HO_10⟩,⟨zzB⟩⟩
    ·have c12b0:=xG1 c12;clear c12
     (first|rw[c12b0]|(simp only[zFy,zH0];rw[c12b0])|skip)
     have H':=Aside0.mk H;clear H;go_wp2
     repeat (go_quiet (fail);try go_wp2)
     go_meet
     case rel=>exact⟨_,(false),zzS,H',⟨zzO⟩,⟨zzR HO_10⟩,⟨zzB⟩⟩
   case rest=>
    clear HC11;(try clear c3);obtain⟨kq,x26_10,rfl,HA,HJ10,HO_10,HB⟩:=hcut
    cases kq with
    |zero=>exact absurd HA.out (by simp[Yf.j1])
    |succ kj10=>
     have H:=HA.out;clear HA;simp only[Yf.j1] at H
     by_cases c13:x26_10=true
     ·subst c13;have H1:=H;rw[xGq rfl] at H1;clear H;have H:=H1;clear H1
      replace H:=zzJ H;obtain⟨c14b0,H⟩:=H
      replace H:=zzJ H;obtain⟨c15b0,H⟩:=H
      replace H:=zzC H;rcases H with⟨c16,H⟩|⟨c16,H⟩
      ·exact absurd H (by simp)
      ·have c16b0:=beq_eq_false_iff_ne.mpr c16;have c16b1:=bne_iff_ne.mpr c16;have HC17:=Aside0.mk H;clear H;have p135:0≤(x11_1:Int):=xGt zzA;have q135:x11_1 < (l3.length:Int):=xGt zzA;obtain⟨ad135,e135,hx135_0⟩:=Kd.at_int HR3.out x11_1 p135 q135;cases e135;replace hx135_0:=(HB.out.cell (World.block_lt_of_cell? w _ hx135_0)).trans hx135_0;replace p135:=xG2 p135;replace q135:=xG2 q135
       go_upto_if 42 with(fail)
       repeat (go_quiet (fail);go_upto_if 42 with(fail))
       go_cut [12] (fun v12 wc=>∃ (kq:Nat) (x12_16:Int),v12=.int .i64 x12_16∧Aside0 (Yf.j2 kq a0 l3 x9_1 y132 x11_1 x12_16=some r)∧Aside0 (kq≤kj10)∧Aside0 (Kd.R Kd.string 9 wc w.heap.size (fun _=>True) v133 y132)∧Aside0 (Below w.heap.size w wc))
       case first=>
        have H:=HC17.out;clear HC17
        replace H:=zzC H;rcases H with⟨c18,H⟩|⟨c18,H⟩
        ·have c18b0:=beq_iff_eq.mpr c18;have c18b1:=bne_eq_false_iff_eq.mpr c18;clear c18
         (first|rw[c18b0]|(simp only[zFy,zH0];rw[c18b0])|skip)
         have H':=Aside0.mk H;clear H;go_wp2
         repeat (go_quiet (fail);try go_wp2)
         go_meet
         case rel=>exact⟨_,((x9_1.size:Int)),zzS,H',⟨by have:=HK1.out;have:=HJ10.out;first|omega|exact xGv _⟩,⟨zzR HO_10⟩,⟨zzB⟩⟩
        ·have c18b0:=beq_eq_false_iff_ne.mpr c18;have c18b1:=bne_iff_ne.mpr c18
         (first|rw[c18b0]|(simp only[zFy,zH0];rw[c18b0])|skip)
         have H':=Aside0.mk H;clear H;go_wp2
         repeat (go_quiet (fail);try go_wp2)
         go_meet
         case rel=>exact⟨_,(Int.tmod (Go.bits .and .i64 ((rd l3 x11_1) / 256) 255) (wrap64 ((x9_1.size:Int)+1))),zzS,H',⟨by have:=HK1.out;have:=HJ10.out;first|omega|exact xGv _⟩,⟨zzR HO_10⟩,⟨zzB⟩⟩
       case rest=>
        clear HC17;(try clear c3);(try clear c13);(try clear c14b0);(try clear c15b0);(try clear c16);(try clear c16b0);(try clear c16b1);(try clear hx135_0);(try clear p135);(try clear q135);obtain⟨kq,x12_16,rfl,HA,HJ16,HO_10,HB⟩:=hcut
        cases kq with
        |zero=>exact absurd HA.out (by simp[Yf.j2])
        |succ kj16=>
         have H:=HA.out;clear HA;simp only[Yf.j2] at H
         have c19:=zzI H;rw[xGq c19] at H;have c19b0:=xG2 c19;have c19b1:=xGx c19;clear c19
         have c20:=zzI H;rw[xGq c20] at H;have c20b0:=xG2 c20;have c20b1:=xGx c20;clear c20
         replace H:=zzJ H;obtain⟨c21b0,H⟩:=H
         replace H:=zzJ H;obtain⟨c22b0,H⟩:=H
         replace H:=zzC H;rcases H with⟨c23,H⟩|⟨c23,H⟩
         ·exact absurd H (by simp)
         ·have c23b0:=beq_eq_false_iff_ne.mpr c23;have c23b1:=bne_iff_ne.mpr c23;have c23b2:¬ (y132=[]):=fun h_=>c23 (by rw[h_];rfl);obtain⟨ji24,hji24⟩:∃ j_:Int,(Int.tmod (Go.bits .and .i64 (rd l3 x11_1) 255) (y132.length:Int))=j_:=⟨_,rfl⟩
          replace H:(if 0≤(ji24) then(if(ji24) < (y132.length:Int) then(if(x9_1.extract 0 (x12_16:Int).toNat).size+(zCl ByteArray.empty y132 (ji24)).size≤9223372036854775807 then(if(wrap64 ((wrap64 ((x9_1.size:Int) - x12_16))+1))=0 then(none) else(if 0≤(wrap64 (x12_16+(Int.tmod (Go.bits .and .i64 ((rd l3 x11_1) / 65536) 1) (wrap64 ((wrap64 ((x9_1.size:Int) - x12_16))+1))))) then(if(wrap64 (x12_16+(Int.tmod (Go.bits .and .i64 ((rd l3 x11_1) / 65536) 1) (wrap64 ((wrap64 ((x9_1.size:Int) - x12_16))+1)))))≤(x9_1.size:Int) then(if((x9_1.extract 0 (x12_16:Int).toNat)++(zCl ByteArray.empty y132 (ji24))).size+(x9_1.extract ((wrap64 (x12_16+(Int.tmod (Go.bits .and .i64 ((rd l3 x11_1) / 65536) 1) (wrap64 ((wrap64 ((x9_1.size:Int) - x12_16))+1))))):Int).toNat x9_1.size).size≤9223372036854775807 then(Yf.l0 kj16 a0 l3 (((x9_1.extract 0 (x12_16:Int).toNat)++(zCl ByteArray.empty y132 (ji24)))++(x9_1.extract ((wrap64 (x12_16+(Int.tmod (Go.bits .and .i64 ((rd l3 x11_1) / 65536) 1) (wrap64 ((wrap64 ((x9_1.size:Int) - x12_16))+1))))):Int).toNat x9_1.size)) y132 (wrap64 (x11_1+1))) else(none)) else(none)) else(none))) else(none)) else(none)) else(none))=some r:=by first|(rw[hji24] at H;exact H)|(simp only[hji24] at H ⊢;exact H)
          replace H:=zzJ H;obtain⟨c25b0,H⟩:=H
          replace H:=zzJ H;obtain⟨c26b0,H⟩:=H
          have c27:=zzI H;rw[xGq c27] at H;have c27b0:=xG2 c27;have c27b1:=xGx c27
          try have c27b2:=xIl (xH2.2 c27)
          replace H:=zzC H;rcases H with⟨c28,H⟩|⟨c28,H⟩
          ·exact absurd H (by simp)
          ·have c28b0:=beq_eq_false_iff_ne.mpr c28;have c28b1:=bne_iff_ne.mpr c28;obtain⟨ji29,hji29⟩:∃ j_:Int,(wrap64 (x12_16+(Int.tmod (Go.bits .and .i64 ((rd l3 x11_1) / 65536) 1) (wrap64 ((wrap64 ((x9_1.size:Int) - x12_16))+1)))))=j_:=⟨_,rfl⟩
           replace H:(if 0≤(ji29) then(if(ji29)≤(x9_1.size:Int) then(if((x9_1.extract 0 (x12_16:Int).toNat)++(zCl ByteArray.empty y132 (ji24))).size+(x9_1.extract ((ji29):Int).toNat x9_1.size).size≤9223372036854775807 then(Yf.l0 kj16 a0 l3 (((x9_1.extract 0 (x12_16:Int).toNat)++(zCl ByteArray.empty y132 (ji24)))++(x9_1.extract ((ji29):Int).toNat x9_1.size)) y132 (wrap64 (x11_1+1))) else(none)) else(none)) else(none))=some r:=by first|(rw[hji29] at H;exact H)|(simp only[hji29] at H ⊢;exact H)
           have hji29w:(IntKind.i64.wrap (x12_16+(Int.tmod (Go.bits .and .i64 ((rd l3 x11_1) / 65536) 1) (wrap64 ((wrap64 ((x9_1.size:Int) - x12_16))+1)))))=ji29:=(zFy _).trans hji29
           have c30:=zzI H;rw[xGq c30] at H;have c30b0:=xG2 c30;have c30b1:=xGx c30;clear c30
           have c31:=zzI H;rw[xGq c31] at H;have c31b0:=xG2 c31;have c31b1:=xGx c31;clear c31
           have c32:=zzI H;rw[xGq c32] at H;have c32b0:=xG2 c32;have c32b1:=xGx c32
           try have c32b2:=xIl (xH2.2 c32)
           try have c32b3:(9223372036854775807 < (x9_1.extract 0 (x12_16:Int).toNat).size+(zCl ByteArray.empty y132 (ji24)).size+(x9_1.extract ((ji29):Int).toNat x9_1.size).size)=False:=xIl (by have z_:=c32;simp only[xHi] at z_;exact xH2.2 z_)
           have H':=Aside0.mk H;clear H;have p136:0≤(x11_1:Int):=xGt zzA;have q136:x11_1 < (l3.length:Int):=xGt zzA;obtain⟨ad136,e136,hx136_0⟩:=Kd.at_int HR3.out x11_1 p136 q136;obtain rfl:ad135=ad136:=(by injection e136);replace hx136_0:=(HB.out.cell (World.block_lt_of_cell? w _ hx136_0)).trans hx136_0;replace p136:=xG2 p136;replace q136:=xG2 q136;obtain⟨Ao33,co33,eo33⟩:=Kd.R_slice HO_10.out;subst eo33;have p137:0≤((ji24):Int):=xGt zzA;have q137:(ji24) < (y132.length:Int):=xGt zzA;obtain⟨ad137,e137,hx137_0⟩:=Kd.at_string (Kd.R_reads' HO_10.out).2.2 (ji24) p137 q137;cases e137;replace p137:=xG2 p137;replace q137:=xG2 q137;have p138:0≤(x11_1:Int):=xGt zzA;have q138:x11_1 < (l3.length:Int):=xGt zzA;obtain⟨ad138,e138,hx138_0⟩:=Kd.at_int HR3.out x11_1 p138 q138;obtain rfl:ad135=ad138:=(by injection e138);replace hx138_0:=(HB.out.cell (World.block_lt_of_cell? w _ hx138_0)).trans hx138_0;replace p138:=xG2 p138;replace q138:=xG2 q138;go_wp2
           repeat (go_quiet (fail);try go_wp2)
           go_roundg kj16
           case measure=>have:=HK1.out;have:=HJ10.out;have:=HJ16.out;omega
           case rel=>exact⟨(((x9_1.extract 0 (x12_16:Int).toNat)++(zCl ByteArray.empty y132 (ji24)))++(x9_1.extract ((ji29):Int).toNat x9_1.size)),(wrap64 (x11_1+1)),(by first|rfl|(simp;done)|(simp only[← hji24,← hji29]<;>(first|rfl|simp))|(simp[*];done)),zzS,H',⟨by have:=HK1.out;have:=HJ10.out;have:=HJ16.out;omega⟩,⟨zzR HO_10⟩,⟨zzB⟩⟩
     ·replace c13:=Bool.eq_false_iff.mpr c13;subst c13
      have H1:(some x9_1)=some r:=by rw[xGr (show ¬ (false=true) by decide)] at H;exact H
      clear H;have H:=H1;clear H1;obtain rfl:=xHc H;go_wp2
      repeat (go_quiet (fail);try go_wp2)
      go_ret
      exact⟨zzE,zzB⟩
def YL.l0:Nat→ByteArray→Int→Int→Option (Int)
 |0,_,_,_=>none
 |k+1,x0,x1,x5=>if x5 ≥ 0 then(if 0≤x5 then(if x5 < (x0.size:Int) then(if(bt x0 x5)=x1 then(some x5) else(YL.l0 k x0 x1 (wrap64 (x5 - 1)))) else(none)) else(none)) else(some (-1))
def YL.f (k:Nat)(a0:ByteArray)(a1:Int):Option (Int):=YL.l0 k a0 a1 (wrap64 ((a0.size:Int) - 1))
set_option maxRecDepth 100000 in
theorem YL.calls (k:Nat)(a0:ByteArray)(a1:Int)(r:Int)(w:World)(hG:GoodW w)(h:YL.f k a0 a1=some r):
  Calls Tryz.prog 62 #[.string a0,.int .u8 a1] w fun e w'=>e=.returned (.int .i64 r)∧Drawn0 w w':=by
 have H:=h;unfold YL.f at H;clear h;have H':=Aside0.mk H;clear H;go_enter Tryz.func62,Tryz.ntmps62;go_wp2
 go_loopg [5] k (fun kq v5 w'=>∃ (x5_1:Int),v5=.int .i64 x5_1∧Aside0 (YL.l0 kq a0 a1 x5_1=some r)∧Aside0 (kq≤k)∧Drawn0 w w')
 case atStart=>exact⟨(wrap64 ((a0.size:Int) - 1)),zzS,H',⟨xGv _⟩,zzD⟩
 case round=>
  clear H';obtain⟨x5_1,rfl,HA,HK1,⟨m1,rfl⟩⟩:=hrel
  cases gk with
  |zero=>exact absurd HA.out (by simp[YL.l0])
  |succ k1=>
   have H:=HA.out;clear HA;simp only[YL.l0] at H
   replace H:=zzC H;rcases H with⟨c3,H⟩|⟨c3,H⟩
   ·have c3b0:=xGx c3;clear c3
    replace H:=zzJ H;obtain⟨c4b0,H⟩:=H
    replace H:=zzJ H;obtain⟨c5b0,H⟩:=H
    replace H:=zzC H;rcases H with⟨c7,H⟩|⟨c7,H⟩
    ·have c7b0:=beq_iff_eq.mpr c7;have c7b1:=bne_eq_false_iff_eq.mpr c7;clear c7;obtain rfl:=xHc H;have p6:0≤(x5_1:Int):=xGt zzA;have q6:x5_1 < (a0.size:Int):=xGt zzA;have hx6:=zD9 a0 x5_1;replace p6:=xG2 p6;replace q6:=xG2 q6;go_wp2
     go_ret
     exact⟨zzS,zzD⟩
    ·have c7b0:=beq_eq_false_iff_ne.mpr c7;have c7b1:=bne_iff_ne.mpr c7;have H':=Aside0.mk H;clear H;have p6:0≤(x5_1:Int):=xGt zzA;have q6:x5_1 < (a0.size:Int):=xGt zzA;have hx6:=zD9 a0 x5_1;replace p6:=xG2 p6;replace q6:=xG2 q6;go_wp2
     go_roundg k1
     case measure=>have:=HK1.out;omega
     case rel=>exact⟨(wrap64 (x5_1 - 1)),zzS,H',⟨by have:=HK1.out;omega⟩,zzD⟩
   ·have c3b0:=xG1 c3;clear c3;obtain rfl:=xHc H;go_wp2
    go_ret
    exact⟨zzS,zzD⟩
def Yo.l0:Nat→ByteArray→Int→List ByteArray→Int→Int→Option (List ByteArray)
 |0,_,_,_,_,_=>none
 |k+1,x0,x1,x5,x6,x7=>if x7≤(x0.size:Int) then(if x7=(x0.size:Int) then(if 0≤x6 then(if x6≤x7 then(if x5.length < 8796093022208 then(Yo.l0 k x0 x1 (x5++[x0.extract (x6:Int).toNat (x7:Int).toNat]) (wrap64 (x7+1)) (wrap64 (x7+1))) else(none)) else(none)) else(none)) else(if 0≤x7 then(if x7 < (x0.size:Int) then(if(bt x0 x7)=x1 then(if 0≤x6 then(if x6≤x7 then(if x5.length < 8796093022208 then(Yo.l0 k x0 x1 (x5++[x0.extract (x6:Int).toNat (x7:Int).toNat]) (wrap64 (x7+1)) (wrap64 (x7+1))) else(none)) else(none)) else(none)) else(Yo.l0 k x0 x1 x5 x6 (wrap64 (x7+1)))) else(none)) else(none))) else(some x5)
def Yo.f (k:Nat)(a0:ByteArray)(a1:Int):Option (List ByteArray):=Yo.l0 k a0 a1 ([]:List ByteArray) 0 0
set_option maxRecDepth 100000 in
theorem Yo.calls (k:Nat)(a0:ByteArray)(a1:Int)(r:List ByteArray)(w:World)(hG:GoodW w)(h:Yo.f k a0 a1=some r):
  Calls Tryz.prog 79 #[.string a0,.int .u8 a1] w fun e w'=>∃ v0_:Value,e=.returned (v0_)∧Kd.R Kd.string 9 w' w.heap.size (fun _=>True) v0_ r∧Below w.heap.size w w':=by
 have HB:=Aside0.mk (Below.refl w.heap.size w);have H:=h;unfold Yo.f at H;clear h;have H':=Aside0.mk H;clear H;go_enter Tryz.func79,Tryz.ntmps79;go_wp2
 go_loopg [5,6,7] k (fun kq v5 v6 v7 w'=>∃ (x5_1:List ByteArray) (x6_1:Int) (x7_1:Int),v6=.int .i64 x6_1∧v7=.int .i64 x7_1∧Aside0 (Yo.l0 kq a0 a1 x5_1 x6_1 x7_1=some r)∧Aside0 (kq≤k)∧Aside0 (Kd.R Kd.string 9 w' w.heap.size (fun _=>True) v5 x5_1)∧Aside0 (Below w.heap.size w w'))
 case atStart=>exact⟨(([]:List ByteArray)),(0),(0),zzS,zzS,H',⟨xGv _⟩,⟨zzN⟩,⟨zzB⟩⟩
 case round=>
  clear H';obtain⟨x5_1,x6_1,x7_1,rfl,rfl,HA,HK1,HO_5,HB⟩:=hrel
  cases gk with
  |zero=>exact absurd HA.out (by simp[Yo.l0])
  |succ k1=>
   have H:=HA.out;clear HA;simp only[Yo.l0] at H
   replace H:=zzC H;rcases H with⟨c3,H⟩|⟨c3,H⟩
   ·have c3b0:=xGx c3;clear c3
    replace H:=zzC H;rcases H with⟨c4,H⟩|⟨c4,H⟩
    ·have c4b0:=beq_iff_eq.mpr c4;have c4b1:=bne_eq_false_iff_eq.mpr c4;clear c4
     have c5:=zzI H;rw[xGq c5] at H;have c5b0:=xG2 c5;have c5b1:=xGx c5;clear c5
     have c6:=zzI H;rw[xGq c6] at H;have c6b0:=xG2 c6;have c6b1:=xGx c6;clear c6;have c7b0:=xG2 (xGt zzA:x7_1≤(a0.size:Int))
     have c8:=zzI H;rw[xGq c8] at H;have LMc8:=Aside0.mk c8;clear c8;obtain⟨y139,hy139⟩:∃ y_:List ByteArray,y_=(x5_1++[a0.extract (x6_1:Int).toNat (x7_1:Int).toNat]):=⟨_,rfl⟩
     replace H:(Yo.l0 k1 a0 a1 y139 (wrap64 (x7_1+1)) (wrap64 (x7_1+1)))=some r:=by first|(rw[hy139];with_reducible exact H)|(have H2_:=(xGp _ _).symm.trans H;rw[hy139];with_reducible exact H2_)|(have H2_:=(xGp _ _).symm.trans H;with_reducible exact H2_)|with_reducible exact H|(rw[hy139];exact H)|exact H
     have Ny139:=Aside0.mk hy139;clear hy139;have H':=Aside0.mk H;clear H
     go_wp2_with (first|((with_reducible refine zC0 (b:=.append) (xs:=#[.tmp 25,.tmp 30]) rfl ?_);at_builtin;refine Kd.R_append Kd.string (w0:=w) w.heap.size rfl (.tmp 25) (.tmp 30) 36 9 (.string ⟨#[]⟩) 16 rfl Tryz.underlying36 info9 rfl (by decide) (by omega) u5 x5_1 (a0.extract (x6_1:Int).toNat (x7_1:Int).toNat) [.string (a0.extract (x6_1:Int).toNat (x7_1:Int).toNat)] (fun _=>True) (fun _=>False) rfl rfl ?aP (fun _ hk=>hk.elim) ?aF ?aO ?aB ?aS ?aL ?_;(case aP=>exact rfl);(case aB=>exact zzB);(case aF=>exact(fun _ _=>trivial));(case aO=>exact(zzR HO_5));(case aS=>exact(zAi zzB));(case aL=>have:=LMc8.out;omega);intro v140 w9 ho hb hg hat;rw[← Ny139.out] at ho;have n0_:=Aside0.mk (hb);have n1_:=Aside0.mk (ho);clear HB;clear HO_5;have HB:=n0_;have HO141:=n1_;clear n0_ n1_;clear ho hb hg hat))
     go_roundg k1
     case measure=>have:=HK1.out;omega
     case rel=>exact⟨(y139),(wrap64 (x7_1+1)),(wrap64 (x7_1+1)),zzS,zzS,H',⟨by have:=HK1.out;omega⟩,⟨zzR HO141⟩,⟨zzB⟩⟩
    ·have c4b0:=beq_eq_false_iff_ne.mpr c4;have c4b1:=bne_iff_ne.mpr c4
     replace H:=zzJ H;obtain⟨c10b0,H⟩:=H
     replace H:=zzJ H;obtain⟨c11b0,H⟩:=H
     replace H:=zzC H;rcases H with⟨c13,H⟩|⟨c13,H⟩
     ·have c13b0:=beq_iff_eq.mpr c13;have c13b1:=bne_eq_false_iff_eq.mpr c13;clear c13
      have c14:=zzI H;rw[xGq c14] at H;have c14b0:=xG2 c14;have c14b1:=xGx c14;clear c14
      have c15:=zzI H;rw[xGq c15] at H;have c15b0:=xG2 c15;have c15b1:=xGx c15;clear c15;have c16b0:=xG2 (xGt zzA:x7_1≤(a0.size:Int))
      have c17:=zzI H;rw[xGq c17] at H;have LMc17:=Aside0.mk c17;clear c17;obtain⟨y142,hy142⟩:∃ y_:List ByteArray,y_=(x5_1++[a0.extract (x6_1:Int).toNat (x7_1:Int).toNat]):=⟨_,rfl⟩
      replace H:(Yo.l0 k1 a0 a1 y142 (wrap64 (x7_1+1)) (wrap64 (x7_1+1)))=some r:=by first|(rw[hy142];with_reducible exact H)|(have H2_:=(xGp _ _).symm.trans H;rw[hy142];with_reducible exact H2_)|(have H2_:=(xGp _ _).symm.trans H;with_reducible exact H2_)|with_reducible exact H|(rw[hy142];exact H)|exact H
      have Ny142:=Aside0.mk hy142;clear hy142;have H':=Aside0.mk H;clear H;have p12:0≤(x7_1:Int):=xGt zzA;have q12:x7_1 < (a0.size:Int):=xGt zzA;have hx12:=zD9 a0 x7_1;replace p12:=xG2 p12;replace q12:=xG2 q12
      go_wp2_with (first|((with_reducible refine zC0 (b:=.append) (xs:=#[.tmp 25,.tmp 30]) rfl ?_);at_builtin;refine Kd.R_append Kd.string (w0:=w) w.heap.size rfl (.tmp 25) (.tmp 30) 36 9 (.string ⟨#[]⟩) 16 rfl Tryz.underlying36 info9 rfl (by decide) (by omega) u5 x5_1 (a0.extract (x6_1:Int).toNat (x7_1:Int).toNat) [.string (a0.extract (x6_1:Int).toNat (x7_1:Int).toNat)] (fun _=>True) (fun _=>False) rfl rfl ?aP (fun _ hk=>hk.elim) ?aF ?aO ?aB ?aS ?aL ?_;(case aP=>exact rfl);(case aB=>exact zzB);(case aF=>exact(fun _ _=>trivial));(case aO=>exact(zzR HO_5));(case aS=>exact(zAi zzB));(case aL=>have:=LMc17.out;omega);intro v143 w18 ho hb hg hat;rw[← Ny142.out] at ho;have n0_:=Aside0.mk (hb);have n1_:=Aside0.mk (ho);clear HB;clear HO_5;have HB:=n0_;have HO144:=n1_;clear n0_ n1_;clear ho hb hg hat))
      go_roundg k1
      case measure=>have:=HK1.out;omega
      case rel=>exact⟨(y142),(wrap64 (x7_1+1)),(wrap64 (x7_1+1)),zzS,zzS,H',⟨by have:=HK1.out;omega⟩,⟨zzR HO144⟩,⟨zzB⟩⟩
     ·have c13b0:=beq_eq_false_iff_ne.mpr c13;have c13b1:=bne_iff_ne.mpr c13;have H':=Aside0.mk H;clear H;have p12:0≤(x7_1:Int):=xGt zzA;have q12:x7_1 < (a0.size:Int):=xGt zzA;have hx12:=zD9 a0 x7_1;replace p12:=xG2 p12;replace q12:=xG2 q12;go_wp2
      go_roundg k1
      case measure=>have:=HK1.out;omega
      case rel=>exact⟨(x5_1),(x6_1),(wrap64 (x7_1+1)),zzS,zzS,H',⟨by have:=HK1.out;omega⟩,⟨zzR HO_5⟩,⟨zzB⟩⟩
   ·have c3b0:=xG1 c3;clear c3;obtain rfl:=xHc H;go_wp2
    go_ret
    exact⟨_,zzE,by(with_reducible repeat (first|apply Kd.R_alloc|apply Kd.R_drewN|apply Kd.R_drew));exact HO_5.out,zzB⟩
mutual
def Yj.l0:Nat→ByteArray→Int→Int→Int→Option (Int×Bool)
 |0,_,_,_,_=>none
 |k+1,x0,x1,x6,x7=>if x7 < (x0.size:Int) then(if 0≤x7 then(if(bt x0 x7) < 48 then(Yj.j1 k x0 x1 x6 x7 true) else(if(bt x0 x7) > 57 then(Yj.j1 k x0 x1 x6 x7 true) else(if x7=1 then(if 0 < (x0.size:Int) then(Yj.j1 k x0 x1 x6 x7 ((bt x0 0)==48)) else(none)) else(Yj.j1 k x0 x1 x6 x7 false)))) else(none)) else(some (x6,decide ((x0.size:Int) > 0)))
def Yj.j1:Nat→ByteArray→Int→Int→Int→Bool→Option (Int×Bool)
 |0,_,_,_,_,_=>none
 |k+1,x0,x1,x6,x7,x33=>if x33=true then(some (0,false)) else(if 0≤x7 then(if x7 < (x0.size:Int) then(if x6 > (IntKind.u64.wrap (Int.tdiv (IntKind.u64.wrap (x1 - (mn x1 (((bt x0 x7) - 48) % 256)))) 10)) then(some (0,false)) else(if(IntKind.u64.wrap ((IntKind.u64.wrap (10 * x6))+(((bt x0 x7) - 48) % 256))) > x1 then(some (0,false)) else(Yj.l0 k x0 x1 (IntKind.u64.wrap ((IntKind.u64.wrap (10 * x6))+(((bt x0 x7) - 48) % 256))) (wrap64 (x7+1))))) else(none)) else(none))
end
def Yj.f (k:Nat)(a0:ByteArray)(a1:Int):Option (Int×Bool):=Yj.l0 k a0 a1 0 0
set_option maxRecDepth 100000 in
theorem Yj.calls (k:Nat)(a0:ByteArray)(a1:Int)(r1:Int)(r2:Bool)(w:World)(hG:GoodW w)(h:Yj.f k a0 a1=some (r1,r2)):
  Calls Tryz.prog 64 #[.string a0,.int .u64 a1] w fun e w'=>e=.returned (.tuple #[.int .u64 r1,.bool r2])∧Below w.heap.size w w':=by
 have HB:=Aside0.mk (Below.refl w.heap.size w);have H:=h;unfold Yj.f at H;clear h;have H':=Aside0.mk H;clear H;go_enter Tryz.func64,Tryz.ntmps64;go_wp2
 go_loopg [6,7] k (fun kq v6 v7 w'=>∃ (x6_1:Int) (x7_1:Int),v6=.int .u64 x6_1∧v7=.int .i64 x7_1∧Aside0 (Yj.l0 kq a0 a1 x6_1 x7_1=some (r1,r2))∧Aside0 (kq≤k)∧Aside0 (Below w.heap.size w w'))
 case atStart=>exact⟨(0),(0),zzS,zzS,H',⟨xGv _⟩,⟨zzB⟩⟩
 case round=>
  clear H';obtain⟨x6_1,x7_1,rfl,rfl,HA,HK1,HB⟩:=hrel
  cases gk with
  |zero=>exact absurd HA.out (by simp[Yj.l0])
  |succ k1=>
   have H:=HA.out;clear HA;simp only[Yj.l0] at H
   replace H:=zzC H;rcases H with⟨c3,H⟩|⟨c3,H⟩
   ·have c3b0:=xGx c3;clear c3;have HC4:=Aside0.mk H;clear H
    go_upto_region 5 with(fail)
    go_cut [33] (fun v33 wc=>∃ (kq:Nat) (x33_3:Bool),v33=.bool x33_3∧Aside0 (Yj.j1 kq a0 a1 x6_1 x7_1 x33_3=some (r1,r2))∧Aside0 (kq≤k1)∧Aside0 (Below w.heap.size w wc))
    case first=>
     have H:=HC4.out;clear HC4
     replace H:=zzJ H;obtain⟨c5b0,H⟩:=H
     (first|rw[c5b0]|(simp only[zFy,zH0];rw[c5b0])|skip)
     replace H:=zzC H;rcases H with⟨c7,H⟩|⟨c7,H⟩
     ·have c7b0:=xGx c7;clear c7;have H':=Aside0.mk H;clear H;have p6:0≤(x7_1:Int):=xGt zzA;have q6:x7_1 < (a0.size:Int):=xGt zzA;have hx6:=zD9 a0 x7_1;replace p6:=xG2 p6;replace q6:=xG2 q6;go_wp2;go_meet
      case rel=>exact⟨_,(true),zzS,H',⟨zzO⟩,⟨zzB⟩⟩
     ·have c7b0:=xG1 c7;clear c7
      replace H:=zzC H;rcases H with⟨c9,H⟩|⟨c9,H⟩
      ·have c9b0:=xGx c9;clear c9;have H':=Aside0.mk H;clear H;have p6:0≤(x7_1:Int):=xGt zzA;have q6:x7_1 < (a0.size:Int):=xGt zzA;have hx6:=zD9 a0 x7_1;replace p6:=xG2 p6;replace q6:=xG2 q6;have p8:0≤(x7_1:Int):=xGt zzA;have q8:x7_1 < (a0.size:Int):=xGt zzA;have hx8:=zD9 a0 x7_1;replace p8:=xG2 p8;replace q8:=xG2 q8;go_wp2;go_meet
       case rel=>exact⟨_,(true),zzS,H',⟨zzO⟩,⟨zzB⟩⟩
      ·have c9b0:=xG1 c9;clear c9
       replace H:=zzC H;rcases H with⟨c10,H⟩|⟨c10,H⟩
       ·have c10b0:=beq_iff_eq.mpr c10;have c10b1:=bne_eq_false_iff_eq.mpr c10;clear c10
        have c11:=zzI H;rw[xGq c11] at H;have c11b0:=xGx c11;have c11b1:decide (0 < a0.size)=true:=xGx (by omega);clear c11;have H':=Aside0.mk H;clear H;have p6:0≤(x7_1:Int):=xGt zzA;have q6:x7_1 < (a0.size:Int):=xGt zzA;have hx6:=zD9 a0 x7_1;replace p6:=xG2 p6;replace q6:=xG2 q6;have p8:0≤(x7_1:Int):=xGt zzA;have q8:x7_1 < (a0.size:Int):=xGt zzA;have hx8:=zD9 a0 x7_1;replace p8:=xG2 p8;replace q8:=xG2 q8;have p12:0≤(0:Int):=(by omega);have q12:0 < a0.size:=(by have:(0:Int) < (a0.size:Int):=xGt zzA;omega);have hx12:∀ h:0 < a0.size,((a0[0]'h).toNat:Int)=bt a0 0:=zD9 a0 0;clear p12;have qi12:(0 < (a0.size:Int))=True:=xG2 (xGt zzA);replace q12:=xG2 q12;go_wp2;go_meet
        case rel=>exact⟨_,(((bt a0 0)==48)),zzS,H',⟨zzO⟩,⟨zzB⟩⟩
       ·have c10b0:=beq_eq_false_iff_ne.mpr c10;have c10b1:=bne_iff_ne.mpr c10;have H':=Aside0.mk H;clear H;have p6:0≤(x7_1:Int):=xGt zzA;have q6:x7_1 < (a0.size:Int):=xGt zzA;have hx6:=zD9 a0 x7_1;replace p6:=xG2 p6;replace q6:=xG2 q6;have p8:0≤(x7_1:Int):=xGt zzA;have q8:x7_1 < (a0.size:Int):=xGt zzA;have hx8:=zD9 a0 x7_1;replace p8:=xG2 p8;replace q8:=xG2 q8;go_wp2;go_meet
        case rel=>exact⟨_,(false),zzS,H',⟨zzO⟩,⟨zzB⟩⟩
    case rest=>
     clear HC4;(try clear c3);(try clear c3b0);obtain⟨kq,x33_3,rfl,HA,HJ3,HB⟩:=hcut
     cases kq with
     |zero=>exact absurd HA.out (by simp[Yj.j1])
     |succ kj3=>
      have H:=HA.out;clear HA;simp only[Yj.j1] at H
      by_cases c13:x33_3=true
      ·subst c13;have H1:=H;rw[xGq rfl] at H1;clear H;have H:=H1;clear H1;simp only[xGu,xG5] at H;obtain⟨rfl,rfl⟩:=H;go_wp2;go_ret2;exact⟨zzE,zzB⟩
      ·replace c13:=Bool.eq_false_iff.mpr c13;subst c13
       have H1:(if 0≤x7_1 then(if x7_1 < (a0.size:Int) then(if x6_1 > (IntKind.u64.wrap (Int.tdiv (IntKind.u64.wrap (a1 - (mn a1 (((bt a0 x7_1) - 48) % 256)))) 10)) then(some (0,false)) else(if(IntKind.u64.wrap ((IntKind.u64.wrap (10 * x6_1))+(((bt a0 x7_1) - 48) % 256))) > a1 then(some (0,false)) else(Yj.l0 kj3 a0 a1 (IntKind.u64.wrap ((IntKind.u64.wrap (10 * x6_1))+(((bt a0 x7_1) - 48) % 256))) (wrap64 (x7_1+1))))) else(none)) else(none))=some (r1,r2):=by rw[xGr (show ¬ (false=true) by decide)] at H;exact H
       clear H;have H:=H1;clear H1
       replace H:=zzJ H;obtain⟨c14b0,H⟩:=H
       replace H:=zzJ H;obtain⟨c15b0,H⟩:=H;obtain⟨ji17,hji17⟩:∃ j_:Int,(mn a1 (((bt a0 x7_1) - 48) % 256))=j_:=⟨_,rfl⟩
       replace H:(if x6_1 > (IntKind.u64.wrap (Int.tdiv (IntKind.u64.wrap (a1 - (ji17))) 10)) then(some (0,false)) else(if(IntKind.u64.wrap ((IntKind.u64.wrap (10 * x6_1))+(((bt a0 x7_1) - 48) % 256))) > a1 then(some (0,false)) else(Yj.l0 kj3 a0 a1 (IntKind.u64.wrap ((IntKind.u64.wrap (10 * x6_1))+(((bt a0 x7_1) - 48) % 256))) (wrap64 (x7_1+1)))))=some (r1,r2):=by first|(rw[hji17] at H;exact H)|(simp only[hji17] at H ⊢;exact H)
       have hji17_:(if(((bt a0 x7_1) - 48) % 256) < a1 then(((bt a0 x7_1) - 48) % 256) else a1)=ji17:=hji17
       replace H:=zzC H;rcases H with⟨c18,H⟩|⟨c18,H⟩
       ·have c18b0:=xGx c18;clear c18;simp only[xGu,xG5] at H;obtain⟨rfl,rfl⟩:=H;have p16:0≤(x7_1:Int):=xGt zzA;have q16:x7_1 < (a0.size:Int):=xGt zzA;have hx16:=zD9 a0 x7_1;replace p16:=xG2 p16;replace q16:=xG2 q16;go_wp2;go_ret2;exact⟨by first|rfl|(simp[errW_none,errW_some]<;>rfl)|(simp only[← hji17];first|rfl|(simp[errW_none,errW_some]<;>rfl))|(simp[*,errW_none,errW_some]<;>rfl),zzB⟩
       ·have c18b0:=xG1 c18;clear c18
        replace H:=zzC H;rcases H with⟨c19,H⟩|⟨c19,H⟩
        ·have c19b0:=xGx c19;clear c19;simp only[xGu,xG5] at H;obtain⟨rfl,rfl⟩:=H;have p16:0≤(x7_1:Int):=xGt zzA;have q16:x7_1 < (a0.size:Int):=xGt zzA;have hx16:=zD9 a0 x7_1;replace p16:=xG2 p16;replace q16:=xG2 q16;go_wp2;go_ret2;exact⟨by first|rfl|(simp[errW_none,errW_some]<;>rfl)|(simp only[← hji17];first|rfl|(simp[errW_none,errW_some]<;>rfl))|(simp[*,errW_none,errW_some]<;>rfl),zzB⟩
        ·have c19b0:=xG1 c19;clear c19;have H':=Aside0.mk H;clear H;have p16:0≤(x7_1:Int):=xGt zzA;have q16:x7_1 < (a0.size:Int):=xGt zzA;have hx16:=zD9 a0 x7_1;replace p16:=xG2 p16;replace q16:=xG2 q16;go_wp2
         go_roundg kj3
         case measure=>have:=HK1.out;have:=HJ3.out;omega
         case rel=>exact⟨(IntKind.u64.wrap ((IntKind.u64.wrap (10 * x6_1))+(((bt a0 x7_1) - 48) % 256))),(wrap64 (x7_1+1)),zzS,zzS,H',⟨by have:=HK1.out;have:=HJ3.out;omega⟩,⟨zzB⟩⟩
   ·have c3b0:=xG1 c3;clear c3;simp only[xGu,xG5] at H;obtain⟨rfl,rfl⟩:=H;go_wp2;go_ret2;exact⟨zzE,zzB⟩
def YB.l0:Nat→List ByteArray→Int→Int→Option (Int×Bool)
 |0,_,_,_=>none
 |k+1,x4,x5,x6=>if x6 < 4 then(if 0≤x6 then(if x6 < (x4.length:Int) then((Yj.f k (zCl ByteArray.empty x4 x6) 255).bind fun bt149=>(if bt149.2=true then(YB.l0 k x4 (Go.bits .or .u64 (IntKind.u64.wrap (x5 * 256)) bt149.1) (wrap64 (x6+1))) else(some (0,false)))) else(none)) else(none)) else(some (x5,true))
def YB.f (k:Nat)(a0:ByteArray):Option (Int×Bool):=(Yo.f k a0 46).bind fun t145=>(if(t145.length:Int)=4 then(YB.l0 k t145 0 0) else(some (0,false)))
set_option maxRecDepth 100000 in
theorem YB.calls (k:Nat)(a0:ByteArray)(r1:Int)(r2:Bool)(w:World)(hG:GoodW w)(h:YB.f k a0=some (r1,r2)):
  Calls Tryz.prog 87 #[.string a0] w fun e w'=>e=.returned (.tuple #[.int .u64 r1,.bool r2])∧Below w.heap.size w w':=by
 have HB:=Aside0.mk (Below.refl w.heap.size w);have H:=h;unfold YB.f at H;clear h;replace H:=zzW H;obtain⟨t145,A2,H⟩:=H;(try dsimp only at H)
 replace H:=zzC H;rcases H with⟨c3,H⟩|⟨c3,H⟩
 ·have c3b0:=beq_iff_eq.mpr c3;have c3b1:=bne_eq_false_iff_eq.mpr c3;clear c3;have H':=Aside0.mk H;clear H;go_enter Tryz.func87,Tryz.ntmps87
  go_wp2_with (first|((with_reducible refine zAu (f:=79) rfl ?_);refine zCj (some 10) rfl rfl Tryz.func79 (by kernel_rfl) rfl #[.string a0,.int .u8 46] rfl zzM ?_;(with_reducible refine(Yo.calls k a0 46 t145 _ ?side1 A2.out).mono ?_);(case side1=>exact zzG);rintro e w4 ⟨v146,rfl,ho0,hb⟩;refine⟨_,rfl,?_⟩;have n0_:=Aside0.mk (Kd.R_lower ho0 (zAi zzB));have n1_:=Aside0.mk (zAe zzB hb);clear HB;have HO147:=n0_;have HB:=n1_;clear n0_ n1_;(try clear hb);(try clear ho0);obtain⟨Ao5,co5,eo5⟩:=Kd.R_slice HO147.out;subst eo5))
  go_loopg [5,6] k (fun kq v5 v6 w'=>∃ (x5_1:Int) (x6_1:Int),v5=.int .u64 x5_1∧v6=.int .i64 x6_1∧Aside0 (YB.l0 kq t145 x5_1 x6_1=some (r1,r2))∧Aside0 (kq≤k)∧Aside0 (Kd.R Kd.string 9 w' w.heap.size (fun _=>True) (.slice Ao5 t145.length co5) t145)∧Aside0 (Below w.heap.size w w'))
  case atStart=>exact⟨(0),(0),zzS,zzS,H',⟨xGv _⟩,⟨zzR HO147⟩,⟨zzB⟩⟩
  case round=>
   clear H';(try clear c3);(try clear c3b0);(try clear c3b1);obtain⟨x5_1,x6_1,rfl,rfl,HA,HK1,HO_4,HB⟩:=hrel
   cases gk with
   |zero=>exact absurd HA.out (by simp[YB.l0])
   |succ k1=>
    have H:=HA.out;clear HA;simp only[YB.l0] at H
    replace H:=zzC H;rcases H with⟨c6,H⟩|⟨c6,H⟩
    ·have c6b0:=xGx c6;clear c6
     replace H:=zzJ H;obtain⟨c7b0,H⟩:=H
     replace H:=zzJ H;obtain⟨c8b0,H⟩:=H;replace H:=zzW H;obtain⟨⟨t149,t150⟩,A9,H⟩:=H;(try dsimp only at H)
     by_cases c10:t150=true
     ·subst c10;have H1:=H;rw[xGq rfl] at H1;clear H;have H:=H1;clear H1;have H':=Aside0.mk H;clear H;have p148:0≤(x6_1:Int):=xGt zzA;have q148:x6_1 < (t145.length:Int):=xGt zzA;obtain⟨ad148,e148,hx148_0⟩:=Kd.at_string (Kd.R_reads' HO_4.out).2.2 x6_1 p148 q148;cases e148;replace p148:=xG2 p148;replace q148:=xG2 q148
      go_wp2_with (first|((with_reducible refine zAu (f:=64) rfl ?_);refine zCj (some 23) rfl rfl Tryz.func64 (by kernel_rfl) rfl #[.string (zCl ByteArray.empty t145 x6_1),.int .u64 255] rfl zzM ?_;(with_reducible refine(Yj.calls k1 (zCl ByteArray.empty t145 x6_1) 255 t149 true _ ?side1 A9.out).mono ?_);(case side1=>exact zzG);rintro e w11 ⟨rfl,hb⟩;refine⟨_,rfl,?_⟩;have n0_:=Aside0.mk (Kd.R_below (zzR HO_4) hb);have n1_:=Aside0.mk (zAe zzB hb);clear HO_4;clear HB;have HO_4:=n0_;have HB:=n1_;clear n0_ n1_;(try clear hb)))
      go_roundg k1
      case measure=>have:=HK1.out;omega
      case rel=>exact⟨(Go.bits .or .u64 (IntKind.u64.wrap (x5_1 * 256)) t149),(wrap64 (x6_1+1)),zzS,zzS,H',⟨by have:=HK1.out;omega⟩,⟨zzR HO_4⟩,⟨zzB⟩⟩
     ·replace c10:=Bool.eq_false_iff.mpr c10;subst c10
      have H1:(some (0,false))=some (r1,r2):=by rw[xGr (show ¬ (false=true) by decide)] at H;exact H
      clear H;have H:=H1;clear H1;simp only[xGu,xG5] at H;obtain⟨rfl,rfl⟩:=H;have p148:0≤(x6_1:Int):=xGt zzA;have q148:x6_1 < (t145.length:Int):=xGt zzA;obtain⟨ad148,e148,hx148_0⟩:=Kd.at_string (Kd.R_reads' HO_4.out).2.2 x6_1 p148 q148;cases e148;replace p148:=xG2 p148;replace q148:=xG2 q148
      go_wp2_with (first|((with_reducible refine zAu (f:=64) rfl ?_);refine zCj (some 23) rfl rfl Tryz.func64 (by kernel_rfl) rfl #[.string (zCl ByteArray.empty t145 x6_1),.int .u64 255] rfl zzM ?_;(with_reducible refine(Yj.calls k1 (zCl ByteArray.empty t145 x6_1) 255 t149 false _ ?side1 A9.out).mono ?_);(case side1=>exact zzG);rintro e w12 ⟨rfl,hb⟩;refine⟨_,rfl,?_⟩;have n0_:=Aside0.mk (Kd.R_below (zzR HO_4) hb);have n1_:=Aside0.mk (zAe zzB hb);clear HO_4;clear HB;have HO_4:=n0_;have HB:=n1_;clear n0_ n1_;(try clear hb)))
      go_ret2;exact⟨zzE,zzB⟩
    ·have c6b0:=xG1 c6;clear c6;simp only[xGu,xG5] at H;obtain⟨rfl,rfl⟩:=H;go_wp2;go_ret2;exact⟨zzE,zzB⟩
 ·have c3b0:=beq_eq_false_iff_ne.mpr c3;have c3b1:=bne_iff_ne.mpr c3;simp only[xGu,xG5] at H;obtain⟨rfl,rfl⟩:=H;go_enter Tryz.func87,Tryz.ntmps87
  go_wp2_with (first|((with_reducible refine zAu (f:=79) rfl ?_);refine zCj (some 10) rfl rfl Tryz.func79 (by kernel_rfl) rfl #[.string a0,.int .u8 46] rfl zzM ?_;(with_reducible refine(Yo.calls k a0 46 t145 _ ?side1 A2.out).mono ?_);(case side1=>exact zzG);rintro e w13 ⟨v146,rfl,ho0,hb⟩;refine⟨_,rfl,?_⟩;have n0_:=Aside0.mk (Kd.R_lower ho0 (zAi zzB));have n1_:=Aside0.mk (zAe zzB hb);clear HB;have HO147:=n0_;have HB:=n1_;clear n0_ n1_;(try clear hb);(try clear ho0);obtain⟨Ao14,co14,eo14⟩:=Kd.R_slice HO147.out;subst eo14))
  go_ret2;exact⟨zzE,zzB⟩
mutual
def Yu.j0:Nat→Int→Bool→Option (Int)
 |0,_,_=>none
 |k+1,x0,x3=>if x3=true then(some ((x0 - 48) % 256)) else(if x0 ≥ 97 then(Yu.j1 k x0 (decide (x0≤102))) else(Yu.j1 k x0 false))
def Yu.j1:Nat→Int→Bool→Option (Int)
 |0,_,_=>none
 |k+1,x0,x13=>if x13=true then(some (((x0 - 97) % 256)+10)) else(if x0 ≥ 65 then(if x0≤70 then(some (((x0 - 65) % 256)+10)) else(some (-1))) else(some (-1)))
end
def Yu.f (k:Nat)(a0:Int):Option (Int):=if a0 ≥ 48 then(Yu.j0 k a0 (decide (a0≤57))) else(Yu.j0 k a0 false)
set_option maxRecDepth 100000 in
theorem Yu.calls (k:Nat)(a0:Int)(r:Int)(w:World)(hG:GoodW w)(h:Yu.f k a0=some r):
  Calls Tryz.prog 104 #[.int .u8 a0] w fun e w'=>e=.returned (.int .i64 r)∧Drawn0 w w':=by
 have H:=h;unfold Yu.f at H;clear h;have HC2:=Aside0.mk H;clear H;go_enter Tryz.func104,Tryz.ntmps104
 go_upto_region 1 with(fail)
 go_cut [3] (fun v3 wc=>∃ (kq:Nat) (x3_1:Bool),v3=.bool x3_1∧Aside0 (Yu.j0 kq a0 x3_1=some r)∧Aside0 (kq≤k)∧Drawn0 w wc)
 case first=>
  have H:=HC2.out;clear HC2
  replace H:=zzC H;rcases H with⟨c3,H⟩|⟨c3,H⟩
  ·have c3b0:=xGx c3;clear c3
   (first|rw[c3b0]|(simp only[zFy,zH0];rw[c3b0])|skip)
   have H':=Aside0.mk H;clear H;go_wp2;go_meet
   case rel=>exact⟨_,(decide (a0≤57)),zzS,H',⟨by first|omega|exact xGv _⟩,zzD⟩
  ·have c3b0:=xG1 c3;clear c3
   (first|rw[c3b0]|(simp only[zFy,zH0];rw[c3b0])|skip)
   have H':=Aside0.mk H;clear H;go_wp2;go_meet
   case rel=>exact⟨_,(false),zzS,H',⟨by first|omega|exact xGv _⟩,zzD⟩
 case rest=>
  clear HC2;obtain⟨kq,x3_1,rfl,HA,HJ1,⟨mc1,rfl⟩⟩:=hcut
  cases kq with
  |zero=>exact absurd HA.out (by simp[Yu.j0])
  |succ kj1=>
   have H:=HA.out;clear HA;simp only[Yu.j0] at H
   by_cases c4:x3_1=true
   ·subst c4;have H1:=H;rw[xGq rfl] at H1;clear H;have H:=H1;clear H1;obtain rfl:=xHc H;go_wp2
    go_ret
    exact⟨zzS,zzD⟩
   ·replace c4:=Bool.eq_false_iff.mpr c4;subst c4
    have H1:(if a0 ≥ 97 then(Yu.j1 kj1 a0 (decide (a0≤102))) else(Yu.j1 kj1 a0 false))=some r:=by rw[xGr (show ¬ (false=true) by decide)] at H;exact H
    clear H;have H:=H1;clear H1;have HC5:=Aside0.mk H;clear H
    go_upto_region 3 with(fail)
    go_cut [13] (fun v13 wc=>∃ (kq:Nat) (x13_4:Bool),v13=.bool x13_4∧Aside0 (Yu.j1 kq a0 x13_4=some r)∧Aside0 (kq≤kj1)∧Drawn0 w wc)
    case first=>
     have H:=HC5.out;clear HC5
     replace H:=zzC H;rcases H with⟨c6,H⟩|⟨c6,H⟩
     ·have c6b0:=xGx c6;clear c6
      (first|rw[c6b0]|(simp only[zFy,zH0];rw[c6b0])|skip)
      have H':=Aside0.mk H;clear H;go_wp2;go_meet
      case rel=>exact⟨_,(decide (a0≤102)),zzS,H',⟨by have:=HJ1.out;first|omega|exact xGv _⟩,zzD⟩
     ·have c6b0:=xG1 c6;clear c6
      (first|rw[c6b0]|(simp only[zFy,zH0];rw[c6b0])|skip)
      have H':=Aside0.mk H;clear H;go_wp2;go_meet
      case rel=>exact⟨_,(false),zzS,H',⟨by have:=HJ1.out;first|omega|exact xGv _⟩,zzD⟩
    case rest=>
     clear HC5;(try clear c4);obtain⟨kq,x13_4,rfl,HA,HJ4,⟨mc4,rfl⟩⟩:=hcut
     cases kq with
     |zero=>exact absurd HA.out (by simp[Yu.j1])
     |succ kj4=>
      have H:=HA.out;clear HA;simp only[Yu.j1] at H
      by_cases c7:x13_4=true
      ·subst c7;have H1:=H;rw[xGq rfl] at H1;clear H;have H:=H1;clear H1;obtain rfl:=xHc H;go_wp2
       go_ret
       exact⟨zzS,zzD⟩
      ·replace c7:=Bool.eq_false_iff.mpr c7;subst c7
       have H1:(if a0 ≥ 65 then(if a0≤70 then(some (((a0 - 65) % 256)+10)) else(some (-1))) else(some (-1)))=some r:=by rw[xGr (show ¬ (false=true) by decide)] at H;exact H
       clear H;have H:=H1;clear H1
       replace H:=zzC H;rcases H with⟨c8,H⟩|⟨c8,H⟩
       ·have c8b0:=xGx c8;clear c8
        replace H:=zzC H;rcases H with⟨c9,H⟩|⟨c9,H⟩
        ·have c9b0:=xGx c9;clear c9;obtain rfl:=xHc H;go_wp2
         go_ret
         exact⟨zzS,zzD⟩
        ·have c9b0:=xG1 c9;clear c9;obtain rfl:=xHc H;go_wp2
         go_ret
         exact⟨zzS,zzD⟩
       ·have c8b0:=xG1 c8;clear c8;obtain rfl:=xHc H;go_wp2
        go_ret
        exact⟨zzS,zzD⟩
mutual
def Ya.l0:Nat→Bool→List Int→List ByteArray→Int→Option (List Int×Bool)
 |0,_,_,_,_=>none
 |k+1,x1,x6,x7,x8=>if x8 < (x7.length:Int) then(if 0≤x8 then((YB.f k (zCl ByteArray.empty x7 x8)).bind fun bt155=>(if bt155.2=true then(if x1=true then(Ya.j1 k x1 x6 x7 x8 bt155.1 (x8==(wrap64 ((x7.length:Int) - 1)))) else(Ya.j1 k x1 x6 x7 x8 bt155.1 false)) else(Ya.j1 k x1 x6 x7 x8 bt155.1 false))) else(none)) else(some (x6,true))
def Ya.j1:Nat→Bool→List Int→List ByteArray→Int→Int→Bool→Option (List Int×Bool)
 |0,_,_,_,_,_,_=>none
 |k+1,x1,x6,x7,x8,x9,x42=>if x42=true then((some (([x9 / 65536,Go.bits .and .u64 x9 65535]:List Int):List Int)).bind fun y157=>(if x6.length+y157.length < 17592186044416 then(Ya.l0 k x1 (x6++y157) x7 (wrap64 (x8+1))) else(none))) else(if 0≤x8 then(if x8 < (x7.length:Int) then(if((zCl ByteArray.empty x7 x8).size:Int) < 1 then(Ya.j2 k x1 x6 x7 x8 true) else(Ya.j2 k x1 x6 x7 x8 (decide (((zCl ByteArray.empty x7 x8).size:Int) > 4)))) else(none)) else(none))
def Ya.j2:Nat→Bool→List Int→List ByteArray→Int→Bool→Option (List Int×Bool)
 |0,_,_,_,_,_=>none
 |k+1,x1,x6,x7,x8,x63=>if x63=true then(some (([]:List Int),false)) else(Ya.l1 k x1 x6 x7 x8 0 0)
def Ya.l1:Nat→Bool→List Int→List ByteArray→Int→Int→Int→Option (List Int×Bool)
 |0,_,_,_,_,_,_=>none
 |k+1,x1,x6,x7,x8,x11,x12=>if 0≤x8 then(if x8 < (x7.length:Int) then(if x12 < ((zCl ByteArray.empty x7 x8).size:Int) then(if 0≤x12 then((Yu.f k (bt (zCl ByteArray.empty x7 x8) x12)).bind fun t167=>(if t167 < 0 then(some (([]:List Int),false)) else(Ya.l1 k x1 x6 x7 x8 (Go.bits .or .u64 (IntKind.u64.wrap (x11 * 16)) (IntKind.u64.wrap (t167))) (wrap64 (x12+1))))) else(none)) else(if x6.length < 17592186044416 then(Ya.l0 k x1 (x6++[x11]) x7 (wrap64 (x8+1))) else(none))) else(none)) else(none)
end
def Ya.f (k:Nat)(a0:ByteArray)(a1:Bool):Option (List Int×Bool):=if a0.toList=([]:List UInt8) then(some (([]:List Int),true)) else((Yo.f k a0 58).bind fun t151=>(Ya.l0 k a1 ([]:List Int) t151 0))
set_option maxRecDepth 100000 in
theorem Ya.calls (k:Nat)(a0:ByteArray)(a1:Bool)(r1:List Int)(r2:Bool)(w:World)(hG:GoodW w)(h:Ya.f k a0 a1=some (r1,r2)):
  Calls Tryz.prog 89 #[.string a0,.bool a1] w fun e w'=>∃ v0_:Value,e=.returned (.tuple #[v0_,.bool r2])∧Kd.R (Kd.int .u64) 23 w' w.heap.size (fun _=>True) v0_ r1∧Below w.heap.size w w':=by
 have HB:=Aside0.mk (Below.refl w.heap.size w);have H:=h;unfold Ya.f at H;clear h
 replace H:=zzC H;rcases H with⟨c3,H⟩|⟨c3,H⟩
 ·have c3b0:=beq_iff_eq.mpr c3;have c3b1:=bne_eq_false_iff_eq.mpr c3;clear c3;simp only[xGu,xG5] at H;obtain⟨rfl,rfl⟩:=H;go_enter Tryz.func89,Tryz.ntmps89;go_wp2;go_ret2;exact⟨_,zzE,zzN,zzB⟩
 ·have c3b0:=beq_eq_false_iff_ne.mpr c3;have c3b1:=bne_iff_ne.mpr c3;replace H:=zzW H;obtain⟨t151,A4,H⟩:=H;(try dsimp only at H);have H':=Aside0.mk H;clear H;go_enter Tryz.func89,Tryz.ntmps89
  go_wp2_with (first|((with_reducible refine zAu (f:=79) rfl ?_);refine zCj (some 17) rfl rfl Tryz.func79 (by kernel_rfl) rfl #[.string a0,.int .u8 58] rfl zzM ?_;(with_reducible refine(Yo.calls k a0 58 t151 _ ?side1 A4.out).mono ?_);(case side1=>exact zzG);rintro e w5 ⟨v152,rfl,ho0,hb⟩;refine⟨_,rfl,?_⟩;have n0_:=Aside0.mk (Kd.R_lower ho0 (zAi zzB));have n1_:=Aside0.mk (zAe zzB hb);clear HB;have HO153:=n0_;have HB:=n1_;clear n0_ n1_;(try clear hb);(try clear ho0)))
  go_loopg [6,8] k (fun kq v6 v8 w'=>∃ (x6_1:List Int) (x8_1:Int),v8=.int .i64 x8_1∧Aside0 (Ya.l0 kq a1 x6_1 t151 x8_1=some (r1,r2))∧Aside0 (kq≤k)∧Aside0 (Kd.R (Kd.int .u64) 23 w' w.heap.size (fun _=>True) v6 x6_1)∧Aside0 (Kd.R Kd.string 9 w' w.heap.size (fun _=>True) v152 t151)∧Aside0 (Below w.heap.size w w'))
  case atStart=>exact⟨(([]:List Int)),(0),zzS,H',⟨xGv _⟩,⟨zzN⟩,⟨zzR HO153⟩,⟨zzB⟩⟩
  case round=>
   clear H';(try clear c3);(try clear c3b0);(try clear c3b1);obtain⟨x6_1,x8_1,rfl,HA,HK1,HO_6,HO_7,HB⟩:=hrel
   cases gk with
   |zero=>exact absurd HA.out (by simp[Ya.l0])
   |succ k1=>
    have H:=HA.out;clear HA;simp only[Ya.l0] at H
    replace H:=zzC H;rcases H with⟨c6,H⟩|⟨c6,H⟩
    ·have c6b0:=xGx c6;clear c6
     replace H:=zzJ H;obtain⟨c7b0,H⟩:=H;replace H:=zzW H;obtain⟨⟨t155,t156⟩,A8,H⟩:=H;(try dsimp only at H);have HC9:=Aside0.mk H;clear H;obtain⟨Ao10,co10,eo10⟩:=Kd.R_slice HO_7.out;subst eo10;have p154:0≤(x8_1:Int):=xGt zzA;have q154:x8_1 < (t151.length:Int):=xGt zzA;obtain⟨ad154,e154,hx154_0⟩:=Kd.at_string (Kd.R_reads' HO_7.out).2.2 x8_1 p154 q154;cases e154;replace p154:=xG2 p154;replace q154:=xG2 q154
     go_upto_region 9 with(first|((with_reducible refine zAu (f:=87) rfl ?_);refine zCj (some 29) rfl rfl Tryz.func87 (by kernel_rfl) rfl #[.string (zCl ByteArray.empty t151 x8_1)] rfl zzM ?_;(with_reducible refine(YB.calls k1 (zCl ByteArray.empty t151 x8_1) t155 t156 _ ?side1 A8.out).mono ?_);(case side1=>exact zzG);rintro e w11 ⟨rfl,hb⟩;refine⟨_,rfl,?_⟩;have n0_:=Aside0.mk (Kd.R_below (zzR HO_6) hb);have n1_:=Aside0.mk (Kd.R_below (zzR HO_7) hb);have n2_:=Aside0.mk (zAe zzB hb);clear HO_6;clear HO_7;clear HB;have HO_6:=n0_;have HO_7:=n1_;have HB:=n2_;clear n0_ n1_ n2_;(try clear hb)))
     (try simp only[Act.put,List.setIfInBounds_toArray,List.set_cons_zero,List.set_cons_succ])
     go_cut [42] (fun v42 wc=>∃ (kq:Nat) (x42_8:Bool),v42=.bool x42_8∧Aside0 (Ya.j1 kq a1 x6_1 t151 x8_1 t155 x42_8=some (r1,r2))∧Aside0 (kq≤k1)∧Aside0 (Kd.R (Kd.int .u64) 23 wc w.heap.size (fun _=>True) u6 x6_1)∧Aside0 (Kd.R Kd.string 9 wc w.heap.size (fun _=>True) (.slice (some ad154) t151.length co10) t151)∧Aside0 (Below w.heap.size w wc))
     case first=>
      have H:=HC9.out;clear HC9
      by_cases c12:t156=true
      ·subst c12;have H1:=H;rw[xGq rfl] at H1;clear H;have H:=H1;clear H1
       by_cases c13:a1=true
       ·subst c13;have H1:=H;rw[xGq rfl] at H1;clear H;have H:=H1;clear H1;have H':=Aside0.mk H;clear H;go_wp2;go_meet
        case rel=>exact⟨_,((x8_1==(wrap64 ((t151.length:Int) - 1)))),zzS,H',⟨zzO⟩,⟨zzR HO_6⟩,⟨zzR HO_7⟩,⟨zzB⟩⟩
       ·replace c13:=Bool.eq_false_iff.mpr c13;subst c13
        have H1:(Ya.j1 k1 false x6_1 t151 x8_1 t155 false)=some (r1,r2):=by rw[xGr (show ¬ (false=true) by decide)] at H;exact H
        clear H;have H:=H1;clear H1;have H':=Aside0.mk H;clear H;go_wp2;go_meet
        case rel=>exact⟨_,(false),zzS,H',⟨zzO⟩,⟨zzR HO_6⟩,⟨zzR HO_7⟩,⟨zzB⟩⟩
      ·replace c12:=Bool.eq_false_iff.mpr c12;subst c12
       have H1:(Ya.j1 k1 a1 x6_1 t151 x8_1 t155 false)=some (r1,r2):=by rw[xGr (show ¬ (false=true) by decide)] at H;exact H
       clear H;have H:=H1;clear H1;have H':=Aside0.mk H;clear H;go_wp2;go_meet
       case rel=>exact⟨_,(false),zzS,H',⟨zzO⟩,⟨zzR HO_6⟩,⟨zzR HO_7⟩,⟨zzB⟩⟩
     case rest=>
      clear HC9;(try clear c3);(try clear c3b0);(try clear c3b1);(try clear c6);(try clear c6b0);(try clear c7b0);(try clear hx154_0);(try clear p154);(try clear q154);obtain⟨kq,x42_8,rfl,HA,HJ8,HO_6,HO_7,HB⟩:=hcut
      cases kq with
      |zero=>exact absurd HA.out (by simp[Ya.j1])
      |succ kj8=>
       have H:=HA.out;clear HA;simp only[Ya.j1] at H
       by_cases c14:x42_8=true
       ·subst c14;have H1:=H;rw[xGq rfl] at H1;clear H;have H:=H1;clear H1;obtain⟨y157,hy157⟩:∃ y_:List Int,y_=(([t155 / 65536,Go.bits .and .u64 t155 65535]:List Int)):=⟨_,rfl⟩
        replace H:(if x6_1.length+y157.length < 17592186044416 then(Ya.l0 kj8 a1 (x6_1++y157) t151 (wrap64 (x8_1+1))) else(none))=some (r1,r2):=by first|(rw[hy157];with_reducible exact H)|(have H2_:=(xGp _ _).symm.trans H;rw[hy157];with_reducible exact H2_)|(have H2_:=(xGp _ _).symm.trans H;with_reducible exact H2_)|with_reducible exact H|(rw[hy157];exact H)|exact H
        have Ny157:=Aside0.mk hy157;clear hy157
        have c15:=zzI H;rw[xGq c15] at H;have LMc15:=Aside0.mk c15;clear c15;obtain⟨y160,hy160⟩:∃ y_:List Int,y_=(x6_1++y157):=⟨_,rfl⟩
        replace H:(Ya.l0 kj8 a1 y160 t151 (wrap64 (x8_1+1)))=some (r1,r2):=by first|(rw[hy160];with_reducible exact H)|(have H2_:=(xGp _ _).symm.trans H;rw[hy160];with_reducible exact H2_)|(have H2_:=(xGp _ _).symm.trans H;with_reducible exact H2_)|with_reducible exact H|(rw[hy160];exact H)|exact H
        have Ny160:=Aside0.mk hy160;clear hy160;have H':=Aside0.mk H;clear H
        go_wp2_with (first|((with_reducible refine zBv (N:=48) rfl ?_);(try(refine zC3 (by rfl) ?_;dsimp only));refine Kd.R_lit (Kd.int .u64) _ 23 ?hg (N:=48) ?hd (xs:=([t155 / 65536,Go.bits .and .u64 t155 65535]:List Int)) (inner:=[.int .u64 (t155 / 65536),.int .u64 (Go.bits .and .u64 t155 65535)]) (ok:=fun _=>True) (okp:=fun _=>True) ?hr ?hp (fun _ hk=>hk) trivial (Below.refl _ _) (xGv _) (by simp) ?_;(case hd=>rfl);(case hg=>rfl);(case hr=>first|(go_simp;done)|(go_simp;rfl));(case hp=>exact(Reps.one (show Kd.M (Kd.int .u64) _ _ _ (t155 / 65536) [.int .u64 (t155 / 65536)] from rfl) (Reps.one (show Kd.M (Kd.int .u64) _ _ _ (Go.bits .and .u64 t155 65535) [.int .u64 (Go.bits .and .u64 t155 65535)] from rfl) (Reps.none _ _))));intro v158 w16 ho17 hb hg_ hnew_;clear hg_ hnew_;(first|rw[← Ny157.out] at ho17|(simp only[Int.reduceToNat] at ho17;rw[← Ny157.out] at ho17));have n0_:=Aside0.mk (Kd.R_elder' (zzR HO_6) (Kd.R_base ho17) hb);have n1_:=Aside0.mk (Kd.R_below (zzR HO_7) hb);have n2_:=Aside0.mk (Kd.R_lower (Kd.R_new' ho17 (Kd.R_lt (zzR HO_6))) (zAi zzB));have n3_:=Aside0.mk (zAe zzB hb);clear HO_6;clear HO_7;clear HB;have HO_6:=n0_;have HO_7:=n1_;have HO159:=n2_;have HB:=n3_;clear n0_ n1_ n2_ n3_;clear hb ho17;obtain⟨Ao19,co19,eo19⟩:=Kd.R_slice HO159.out;subst eo19)|((with_reducible refine zC0 (b:=.append) (xs:=#[.tmp 43,.tmp 48]) rfl ?_);(try(refine zC3 (by rfl) ?_;dsimp only));at_builtin;refine Kd.R_append_rows (Kd.int .u64) (w0:=w) w.heap.size rfl (.tmp 43) (.tmp 48) 95 23 (.int .u64 0) 8 rfl Tryz.underlying95 info23 rfl (by decide) (by omega) u6 x6_1 y157 _ _ _ (fun k_=>some k_≠(.slice Ao19 y157.length co19:Value).ownBlock) (fun _=>False) rfl rfl ?aO ?aR (fun _ _ h=>h) (fun _ h=>h.elim) ?aF ?aB ?aS ?aL ?_;(case aR=>repeat (first|exact(Kd.R_reads' HO159.out).2.2|(with_reducible refine Kd.C_alloc ?_ _)|(with_reducible refine Kd.C_drewN ?_ _)|(with_reducible refine Kd.C_drew ?_)));(case aB=>exact zzB);(case aF=>exact(fun k_ hk=>Kd.fresh' (Kd.R_lt (zzR HO159)) k_ hk));(case aO=>exact(by(with_reducible repeat (first|apply Kd.R_alloc|apply Kd.R_drewN|apply Kd.R_drew));exact Kd.R_mono HO_6.out (fun _ hk=>hk.2)));(case aS=>exact(zAi zzB));(case aL=>have:=LMc15.out;omega);intro v161 w18 ho hb hg hat;rw[← Ny160.out] at ho;have n0_:=Aside0.mk (Kd.R_over' (zzR HO_7) (Kd.R_typed (zzR HO_6)) (by decide) hg);have n1_:=Aside0.mk (Kd.R_after (ok:=(fun _=>True)) (zzR HO159) hg hat);have n2_:=Aside0.mk (hb);have n3_:=Aside0.mk (ho);clear HO_7;clear HO159;clear HB;clear HO_6;have HO_7:=n0_;have HO159:=n1_;have HB:=n2_;have HO162:=n3_;clear n0_ n1_ n2_ n3_;clear ho hb hg hat))
        go_roundg kj8
        case measure=>have:=HK1.out;have:=HJ8.out;omega
        case rel=>exact⟨(y160),(wrap64 (x8_1+1)),zzS,H',⟨by have:=HK1.out;have:=HJ8.out;omega⟩,⟨by(with_reducible repeat (first|apply Kd.R_alloc|apply Kd.R_drewN|apply Kd.R_drew));exact Kd.R_mono HO162.out (fun _ hk=>trivial)⟩,⟨zzR HO_7⟩,⟨zzB⟩⟩
       ·replace c14:=Bool.eq_false_iff.mpr c14;subst c14
        have H1:(if 0≤x8_1 then(if x8_1 < (t151.length:Int) then(if((zCl ByteArray.empty t151 x8_1).size:Int) < 1 then(Ya.j2 kj8 a1 x6_1 t151 x8_1 true) else(Ya.j2 kj8 a1 x6_1 t151 x8_1 (decide (((zCl ByteArray.empty t151 x8_1).size:Int) > 4)))) else(none)) else(none))=some (r1,r2):=by rw[xGr (show ¬ (false=true) by decide)] at H;exact H
        clear H;have H:=H1;clear H1;have HC20:=Aside0.mk H;clear H
        go_upto_region 11 with(fail)
        go_cut [63] (fun v63 wc=>∃ (kq:Nat) (x63_19:Bool),v63=.bool x63_19∧Aside0 (Ya.j2 kq a1 x6_1 t151 x8_1 x63_19=some (r1,r2))∧Aside0 (kq≤kj8)∧Aside0 (Kd.R (Kd.int .u64) 23 wc w.heap.size (fun _=>True) u6 x6_1)∧Aside0 (Kd.R Kd.string 9 wc w.heap.size (fun _=>True) (.slice (some ad154) t151.length co10) t151)∧Aside0 (Below w.heap.size w wc))
        case first=>
         have H:=HC20.out;clear HC20
         replace H:=zzJ H;obtain⟨c21b0,H⟩:=H
         (first|rw[c21b0]|(simp only[zFy,zH0];rw[c21b0])|skip)
         replace H:=zzJ H;obtain⟨c22b0,H⟩:=H
         replace H:=zzC H;rcases H with⟨c23,H⟩|⟨c23,H⟩
         ·have c23b0:=xGx c23;have c23b1:decide ((zCl ByteArray.empty t151 x8_1).size < 1)=true:=xGx (by omega);clear c23;have H':=Aside0.mk H;clear H;have p163:0≤(x8_1:Int):=xGt zzA;have q163:x8_1 < (t151.length:Int):=xGt zzA;obtain⟨ad163,e163,hx163_0⟩:=Kd.at_string (Kd.R_reads' HO_7.out).2.2 x8_1 p163 q163;obtain rfl:ad154=ad163:=(by injection e163);replace p163:=xG2 p163;replace q163:=xG2 q163;go_wp2;go_meet
          case rel=>exact⟨_,(true),zzS,H',⟨by have:=HK1.out;have:=HJ8.out;first|omega|exact xGv _⟩,⟨zzR HO_6⟩,⟨zzR HO_7⟩,⟨zzB⟩⟩
         ·have c23b0:=xG1 c23;have c23b1:decide ((zCl ByteArray.empty t151 x8_1).size < 1)=false:=xG1 (by omega);clear c23;have H':=Aside0.mk H;clear H;have p163:0≤(x8_1:Int):=xGt zzA;have q163:x8_1 < (t151.length:Int):=xGt zzA;obtain⟨ad163,e163,hx163_0⟩:=Kd.at_string (Kd.R_reads' HO_7.out).2.2 x8_1 p163 q163;obtain rfl:ad154=ad163:=(by injection e163);replace p163:=xG2 p163;replace q163:=xG2 q163;have p164:0≤(x8_1:Int):=xGt zzA;have q164:x8_1 < (t151.length:Int):=xGt zzA;obtain⟨ad164,e164,hx164_0⟩:=Kd.at_string (Kd.R_reads' HO_7.out).2.2 x8_1 p164 q164;obtain rfl:ad154=ad164:=(by injection e164);replace p164:=xG2 p164;replace q164:=xG2 q164;go_wp2;go_meet
          case rel=>exact⟨_,(decide (((zCl ByteArray.empty t151 x8_1).size:Int) > 4)),zzS,H',⟨by have:=HK1.out;have:=HJ8.out;first|omega|exact xGv _⟩,⟨zzR HO_6⟩,⟨zzR HO_7⟩,⟨zzB⟩⟩
        case rest=>
         clear HC20;(try clear c3);(try clear c3b0);(try clear c3b1);(try clear c6);(try clear c6b0);(try clear c7b0);(try clear c14);(try clear hx154_0);(try clear p154);(try clear q154);obtain⟨kq,x63_19,rfl,HA,HJ19,HO_6,HO_7,HB⟩:=hcut
         cases kq with
         |zero=>exact absurd HA.out (by simp[Ya.j2])
         |succ kj19=>
          have H:=HA.out;clear HA;simp only[Ya.j2] at H
          by_cases c24:x63_19=true
          ·subst c24;have H1:=H;rw[xGq rfl] at H1;clear H;have H:=H1;clear H1;simp only[xGu,xG5] at H;obtain⟨rfl,rfl⟩:=H;go_wp2;go_ret2;exact⟨_,zzE,zzN,zzB⟩
          ·replace c24:=Bool.eq_false_iff.mpr c24;subst c24
           have H1:(Ya.l1 kj19 a1 x6_1 t151 x8_1 0 0)=some (r1,r2):=by rw[xGr (show ¬ (false=true) by decide)] at H;exact H
           clear H;have H:=H1;clear H1;have H':=Aside0.mk H;clear H;go_wp2
           go_loopg [11,12] kj19 (fun kq v11 v12 w'=>∃ (x11_4:Int) (x12_4:Int),v11=.int .u64 x11_4∧v12=.int .i64 x12_4∧Aside0 (Ya.l1 kq a1 x6_1 t151 x8_1 x11_4 x12_4=some (r1,r2))∧Aside0 (kq≤kj19)∧Aside0 (Kd.R (Kd.int .u64) 23 w' w.heap.size (fun _=>True) u6 x6_1)∧Aside0 (Kd.R Kd.string 9 w' w.heap.size (fun _=>True) (.slice (some ad154) t151.length co10) t151)∧Aside0 (Below w.heap.size w w'))
           case atStart=>exact⟨(0),(0),zzS,zzS,H',⟨xGv _⟩,⟨zzR HO_6⟩,⟨zzR HO_7⟩,⟨zzB⟩⟩
           case round=>
            clear H';(try clear c3);(try clear c3b0);(try clear c3b1);(try clear c6);(try clear c6b0);(try clear c7b0);(try clear c14);(try clear c24);(try clear hx154_0);(try clear p154);(try clear q154);obtain⟨x11_4,x12_4,rfl,rfl,HA,HK4,HO_6,HO_7,HB⟩:=hrel
            cases gk with
            |zero=>exact absurd HA.out (by simp[Ya.l1])
            |succ k4=>
             have H:=HA.out;clear HA;simp only[Ya.l1] at H
             replace H:=zzJ H;obtain⟨c25b0,H⟩:=H
             replace H:=zzJ H;obtain⟨c26b0,H⟩:=H
             replace H:=zzC H;rcases H with⟨c27,H⟩|⟨c27,H⟩
             ·have c27b0:=xGx c27;clear c27
              replace H:=zzJ H;obtain⟨c28b0,H⟩:=H;replace H:=zzW H;obtain⟨t167,A30,H⟩:=H;(try dsimp only at H)
              replace H:=zzC H;rcases H with⟨c31,H⟩|⟨c31,H⟩
              ·have c31b0:=xGx c31;clear c31;simp only[xGu,xG5] at H;obtain⟨rfl,rfl⟩:=H;have p165:0≤(x8_1:Int):=xGt zzA;have q165:x8_1 < (t151.length:Int):=xGt zzA;obtain⟨ad165,e165,hx165_0⟩:=Kd.at_string (Kd.R_reads' HO_7.out).2.2 x8_1 p165 q165;obtain rfl:ad154=ad165:=(by injection e165);replace p165:=xG2 p165;replace q165:=xG2 q165;have p166:0≤(x8_1:Int):=xGt zzA;have q166:x8_1 < (t151.length:Int):=xGt zzA;obtain⟨ad166,e166,hx166_0⟩:=Kd.at_string (Kd.R_reads' HO_7.out).2.2 x8_1 p166 q166;obtain rfl:ad154=ad166:=(by injection e166);replace p166:=xG2 p166;replace q166:=xG2 q166;have p29:0≤(x12_4:Int):=xGt zzA;have q29:x12_4 < ((zCl ByteArray.empty t151 x8_1).size:Int):=xGt zzA;have hx29:=zD9 (zCl ByteArray.empty t151 x8_1) x12_4;replace p29:=xG2 p29;replace q29:=xG2 q29
               go_wp2_with (first|((with_reducible refine zAu (f:=104) rfl ?_);refine zCj (some 79) rfl rfl Tryz.func104 (by kernel_rfl) rfl #[.int .u8 (bt (zCl ByteArray.empty t151 x8_1) x12_4)] rfl zzM ?_;(with_reducible refine(Yu.calls k4 (bt (zCl ByteArray.empty t151 x8_1) x12_4) t167 _ ?side1 A30.out).mono ?_);(case side1=>exact zzG);rintro e w' ⟨rfl,⟨nd,rfl⟩⟩;refine⟨_,rfl,?_⟩))
               go_ret2;exact⟨_,zzE,zzN,zzB⟩
              ·have c31b0:=xG1 c31;clear c31;have H':=Aside0.mk H;clear H;have p165:0≤(x8_1:Int):=xGt zzA;have q165:x8_1 < (t151.length:Int):=xGt zzA;obtain⟨ad165,e165,hx165_0⟩:=Kd.at_string (Kd.R_reads' HO_7.out).2.2 x8_1 p165 q165;obtain rfl:ad154=ad165:=(by injection e165);replace p165:=xG2 p165;replace q165:=xG2 q165;have p166:0≤(x8_1:Int):=xGt zzA;have q166:x8_1 < (t151.length:Int):=xGt zzA;obtain⟨ad166,e166,hx166_0⟩:=Kd.at_string (Kd.R_reads' HO_7.out).2.2 x8_1 p166 q166;obtain rfl:ad154=ad166:=(by injection e166);replace p166:=xG2 p166;replace q166:=xG2 q166;have p29:0≤(x12_4:Int):=xGt zzA;have q29:x12_4 < ((zCl ByteArray.empty t151 x8_1).size:Int):=xGt zzA;have hx29:=zD9 (zCl ByteArray.empty t151 x8_1) x12_4;replace p29:=xG2 p29;replace q29:=xG2 q29
               go_wp2_with (first|((with_reducible refine zAu (f:=104) rfl ?_);refine zCj (some 79) rfl rfl Tryz.func104 (by kernel_rfl) rfl #[.int .u8 (bt (zCl ByteArray.empty t151 x8_1) x12_4)] rfl zzM ?_;(with_reducible refine(Yu.calls k4 (bt (zCl ByteArray.empty t151 x8_1) x12_4) t167 _ ?side1 A30.out).mono ?_);(case side1=>exact zzG);rintro e w' ⟨rfl,⟨nd,rfl⟩⟩;refine⟨_,rfl,?_⟩))
               go_roundg k4
               case measure=>have:=HK1.out;have:=HJ8.out;have:=HJ19.out;have:=HK4.out;omega
               case rel=>exact⟨(Go.bits .or .u64 (IntKind.u64.wrap (x11_4 * 16)) (IntKind.u64.wrap (t167))),(wrap64 (x12_4+1)),zzS,zzS,H',⟨by have:=HK1.out;have:=HJ8.out;have:=HJ19.out;have:=HK4.out;omega⟩,⟨zzR HO_6⟩,⟨zzR HO_7⟩,⟨zzB⟩⟩
             ·have c27b0:=xG1 c27;clear c27
              have c32:=zzI H;rw[xGq c32] at H;have LMc32:=Aside0.mk c32;clear c32;obtain⟨y168,hy168⟩:∃ y_:List Int,y_=(x6_1++[x11_4]):=⟨_,rfl⟩
              replace H:(Ya.l0 k4 a1 y168 t151 (wrap64 (x8_1+1)))=some (r1,r2):=by first|(rw[hy168];with_reducible exact H)|(have H2_:=(xGp _ _).symm.trans H;rw[hy168];with_reducible exact H2_)|(have H2_:=(xGp _ _).symm.trans H;with_reducible exact H2_)|with_reducible exact H|(rw[hy168];exact H)|exact H
              have Ny168:=Aside0.mk hy168;clear hy168;have H':=Aside0.mk H;clear H;have p165:0≤(x8_1:Int):=xGt zzA;have q165:x8_1 < (t151.length:Int):=xGt zzA;obtain⟨ad165,e165,hx165_0⟩:=Kd.at_string (Kd.R_reads' HO_7.out).2.2 x8_1 p165 q165;obtain rfl:ad154=ad165:=(by injection e165);replace p165:=xG2 p165;replace q165:=xG2 q165
              go_wp2_with (first|((with_reducible refine zC0 (b:=.append) (xs:=#[.tmp 87,.tmp 89]) rfl ?_);(try(refine zC3 (by rfl) ?_;dsimp only));at_builtin;refine Kd.R_append (Kd.int .u64) (w0:=w) w.heap.size rfl (.tmp 87) (.tmp 89) 95 23 (.int .u64 0) 8 rfl Tryz.underlying95 info23 rfl (by decide) (by omega) u6 x6_1 x11_4 [.int .u64 x11_4] (fun _=>True) (fun _=>False) rfl rfl ?aP (fun _ hk=>hk.elim) ?aF ?aO ?aB ?aS ?aL ?_;(case aP=>exact rfl);(case aB=>exact zzB);(case aF=>exact(fun _ _=>trivial));(case aO=>exact(zzR HO_6));(case aS=>exact(zAi zzB));(case aL=>have:=LMc32.out;omega);intro v169 w33 ho hb hg hat;rw[← Ny168.out] at ho;have n0_:=Aside0.mk (Kd.R_over' (zzR HO_7) (Kd.R_typed (zzR HO_6)) (by decide) hg);have n1_:=Aside0.mk (hb);have n2_:=Aside0.mk (ho);clear HO_7;clear HB;clear HO_6;have HO_7:=n0_;have HB:=n1_;have HO170:=n2_;clear n0_ n1_ n2_;clear ho hb hg hat))
              go_roundg k4
              case measure=>have:=HK1.out;have:=HJ8.out;have:=HJ19.out;have:=HK4.out;omega
              case rel=>exact⟨(y168),(wrap64 (x8_1+1)),zzS,H',⟨by have:=HK1.out;have:=HJ8.out;have:=HJ19.out;have:=HK4.out;omega⟩,⟨zzR HO170⟩,⟨zzR HO_7⟩,⟨zzB⟩⟩
    ·have c6b0:=xG1 c6;clear c6;simp only[xGu,xG5] at H;obtain⟨rfl,rfl⟩:=H;obtain⟨Ao34,co34,eo34⟩:=Kd.R_slice HO_7.out;subst eo34;go_wp2;go_ret2;exact⟨_,zzE,by(with_reducible repeat (first|apply Kd.R_alloc|apply Kd.R_drewN|apply Kd.R_drew));exact HO_6.out,zzB⟩
def Yz.l0:Nat→ByteArray→Int→Option (Int)
 |0,_,_=>none
 |k+1,x0,x3=>if(wrap64 (x3+1)) < (x0.size:Int) then(if 0≤x3 then(if x3 < (x0.size:Int) then(if(bt x0 x3)=58 then(if 0≤(wrap64 (x3+1)) then(if(bt x0 (wrap64 (x3+1)))=58 then(some x3) else(Yz.l0 k x0 (wrap64 (x3+1)))) else(none)) else(Yz.l0 k x0 (wrap64 (x3+1)))) else(none)) else(none)) else(some (-1))
def Yz.f (k:Nat)(a0:ByteArray):Option (Int):=Yz.l0 k a0 0
set_option maxRecDepth 100000 in
theorem Yz.calls (k:Nat)(a0:ByteArray)(r:Int)(w:World)(hG:GoodW w)(h:Yz.f k a0=some r):
  Calls Tryz.prog 88 #[.string a0] w fun e w'=>e=.returned (.int .i64 r)∧Drawn0 w w':=by
 have H:=h;unfold Yz.f at H;clear h;have H':=Aside0.mk H;clear H;go_enter Tryz.func88,Tryz.ntmps88;go_wp2
 go_loopg [3] k (fun kq v3 w'=>∃ (x3_1:Int),v3=.int .i64 x3_1∧Aside0 (Yz.l0 kq a0 x3_1=some r)∧Aside0 (kq≤k)∧Drawn0 w w')
 case atStart=>exact⟨(0),zzS,H',⟨xGv _⟩,zzD⟩
 case round=>
  clear H';obtain⟨x3_1,rfl,HA,HK1,⟨m1,rfl⟩⟩:=hrel
  cases gk with
  |zero=>exact absurd HA.out (by simp[Yz.l0])
  |succ k1=>
   have H:=HA.out;clear HA;simp only[Yz.l0] at H
   replace H:=zzC H;rcases H with⟨c2,H⟩|⟨c2,H⟩
   ·have c2b0:=xGx c2;clear c2
    replace H:=zzJ H;obtain⟨c3b0,H⟩:=H
    replace H:=zzJ H;obtain⟨c4b0,H⟩:=H
    replace H:=zzC H;rcases H with⟨c6,H⟩|⟨c6,H⟩
    ·have c6b0:=beq_iff_eq.mpr c6;have c6b1:=bne_eq_false_iff_eq.mpr c6;clear c6;obtain⟨ji7,hji7⟩:∃ j_:Int,(wrap64 (x3_1+1))=j_:=⟨_,rfl⟩
     replace H:(if 0≤(ji7) then(if(bt a0 (ji7))=58 then(some x3_1) else(Yz.l0 k1 a0 ji7)) else(none))=some r:=by first|(rw[hji7] at H;exact H)|(simp only[hji7] at H ⊢;exact H)
     (try rw[hji7] at c2b0)
     have hji7w:(IntKind.i64.wrap (x3_1+1))=ji7:=(zFy _).trans hji7
     replace H:=zzJ H;obtain⟨c8b0,H⟩:=H
     replace H:=zzC H;rcases H with⟨c10,H⟩|⟨c10,H⟩
     ·have c10b0:=beq_iff_eq.mpr c10;have c10b1:=bne_eq_false_iff_eq.mpr c10;clear c10;obtain rfl:=xHc H;have p5:0≤(x3_1:Int):=xGt zzA;have q5:x3_1 < (a0.size:Int):=xGt zzA;have hx5:=zD9 a0 x3_1;replace p5:=xG2 p5;replace q5:=xG2 q5;have p9:0≤((ji7):Int):=xGt zzA;have q9:(ji7) < (a0.size:Int):=xGt zzA;have hx9:=zD9 a0 (ji7);replace p9:=xG2 p9;replace q9:=xG2 q9;go_wp2
      go_ret
      exact⟨by first|rfl|(simp;done)|(simp only[← hji7]<;>(first|rfl|simp))|(simp[*];done),zzD⟩
     ·have c10b0:=beq_eq_false_iff_ne.mpr c10;have c10b1:=bne_iff_ne.mpr c10;have H':=Aside0.mk H;clear H;have p5:0≤(x3_1:Int):=xGt zzA;have q5:x3_1 < (a0.size:Int):=xGt zzA;have hx5:=zD9 a0 x3_1;replace p5:=xG2 p5;replace q5:=xG2 q5;have p9:0≤((ji7):Int):=xGt zzA;have q9:(ji7) < (a0.size:Int):=xGt zzA;have hx9:=zD9 a0 (ji7);replace p9:=xG2 p9;replace q9:=xG2 q9;go_wp2
      go_roundg k1
      case measure=>have:=HK1.out;omega
      case rel=>exact⟨(ji7),(by first|rfl|(simp;done)|(simp only[← hji7]<;>(first|rfl|simp))|(simp[*];done)),H',⟨by have:=HK1.out;omega⟩,zzD⟩
    ·have c6b0:=beq_eq_false_iff_ne.mpr c6;have c6b1:=bne_iff_ne.mpr c6;have H':=Aside0.mk H;clear H;have p5:0≤(x3_1:Int):=xGt zzA;have q5:x3_1 < (a0.size:Int):=xGt zzA;have hx5:=zD9 a0 x3_1;replace p5:=xG2 p5;replace q5:=xG2 q5;go_wp2
     go_roundg k1
     case measure=>have:=HK1.out;omega
     case rel=>exact⟨(wrap64 (x3_1+1)),zzS,H',⟨by have:=HK1.out;omega⟩,zzD⟩
   ·have c2b0:=xG1 c2;clear c2;obtain rfl:=xHc H;go_wp2
    go_ret
    exact⟨zzS,zzD⟩
end Go.Proofs.YtfnacgojmdbjmaaGreatDoor.PPPT
end

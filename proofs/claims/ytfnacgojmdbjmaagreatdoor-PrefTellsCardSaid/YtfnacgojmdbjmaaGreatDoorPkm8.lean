/- Texts of a proof, joined: words of the print (those that are named here) and printed functions. -/
import Derived.Test.YtfnacgojmdbjmaaGreatDoorProg
import Derived.Below
import Derived.Deep.Draws
import Derived.Deep.AppendLies
import Derived.Maps.AppendAt
import Derived.OwnWalk
import Derived.Laws.BytesArg
import Derived.Laws.MakeOwn
import Derived.Laws.OwnMore
import Derived.Deep.OwnRows
import Derived.Tactics
import Derived.Lib.ConvBytes
import Derived.Laws.Slices
import Derived.WalkKit
import Derived.KernelRfl
import Derived.RowKit3
import Derived.Deep.LoopGhost
import Derived.Deep.QuietTactic
import Derived.BigQuiet
import Derived.WideLaws
import Derived.Deep.DeepCutAuto
import Derived.Deep.CutBlock
import Derived.Deep.RegionHeld3
import Derived.Laws.Rows
import Derived.Lib.AppendStr
import Derived.ArgAppend
import Derived.Laws.IdiomCopy
import Derived.OrdersHeld
import Derived.Laws.BitsLemmas
import Derived.RowKit
import Derived.Test.YtfnacgojmdbjmaaGreatDoorPkm7
import Derived.Test.YtfnacgojmdbjmaaGreatDoorPkm3
set_option linter.unusedSimpArgs false
set_option linter.unusedVariables false
set_option maxRecDepth 100000
set_option maxHeartbeats 8000000
noncomputable section
namespace Go.Proofs.YtfnacgojmdbjmaaGreatDoor.PPPT
open Go.RowKit YtfnacgojmdbjmaaGreatDoorW.PrintWords YtfnacgojmdbjmaaGreatDoorW.PrintLast YtfnacgojmdbjmaaGreatDoorW.PrintMore
attribute [local go_sem] zEz zE0 zG2 zG3 zDy zDz zE1 zE2
open Go.Det (inQ M64 zCh qn zXk zJo zFk)
def errW:Option Int→Value
 |none=>.nilIface
 |some c=>.iface 0 (.int .i64 c)
theorem errW_none:errW none=.nilIface:=rfl
theorem errW_some (c:Int):errW (some c)=.iface 0 (.int .i64 c):=rfl
theorem info9:(Tryz.prog.info? 9).map (fun i=>(i.zero,i.size,i.bytes))=some (some (.string ⟨#[]⟩),1,16):=by kernel_rfl
theorem info23:(Tryz.prog.info? 23).map (fun i=>(i.zero,i.size,i.bytes))=some (some (.int .u64 0),1,8):=by kernel_rfl
def glebelaw2_Addr.f (a0:Int)(a1:Int)(a2:Int):Option (Int×Int×Int):=PRD.glebelaw2_Addr.f 300 a0 a1 a2
theorem glebelaw2_Addr.calls (a0:Int)(a1:Int)(a2:Int)(r1:Int)(r2:Int)(r3:Int)(w:World)(hG:GoodW w)(h:glebelaw2_Addr.f a0 a1 a2=some (r1,r2,r3)):
  Calls Tryz.prog 42 #[.int .i64 a0,.int .u64 a1,.int .u64 a2] w fun e w'=>e=.returned (.agg #[.int .i64 r1,.int .u64 r2,.int .u64 r3])∧Below w.heap.size w w':=PRD.glebelaw2_Addr.calls 300 a0 a1 a2 r1 r2 r3 w hG h
def gleberef1_Text.l0:Nat→Int→ByteArray→Option (ByteArray)
 |0,_,_=>none
 |k+1,x0,x3=>if x0 > 0 then((some (([(IntKind.u64.wrap (48+(Int.tmod x0 10))) % 256]:List Int):List Int)).bind fun y101=>(if(strOfNums y101).size+x3.size≤9223372036854775807 then(gleberef1_Text.l0 k (IntKind.u64.wrap (Int.tdiv x0 10)) ((strOfNums y101)++x3)) else(none))) else(if x3.toList=([]:List UInt8) then((some (([(IntKind.u64.wrap (48+(Int.tmod x0 10))) % 256]:List Int):List Int)).bind fun y104=>(if(strOfNums y104).size+x3.size≤9223372036854775807 then(gleberef1_Text.l0 k (IntKind.u64.wrap (Int.tdiv x0 10)) ((strOfNums y104)++x3)) else(none))) else(some x3))
def gleberef1_Text.f (k:Nat)(a0:Int):Option (ByteArray):=gleberef1_Text.l0 k a0 (⟨#[]⟩:ByteArray)
theorem gleberef1_Text.mono_l:∀ k,(∀ y0 y1,LeO (gleberef1_Text.l0 k y0 y1) (gleberef1_Text.l0 (k+1) y0 y1))
 |0=>fun _ _ r h=>by simp[gleberef1_Text.l0] at h
 |k+1=>by
  have ih0:=gleberef1_Text.mono_l k
  ·intro y0 y1
   unfold gleberef1_Text.l0
   repeat' first
   |(with_reducible exact ih0 _ _)
   |(with_reducible exact LeO.refl _)
   |(with_reducible exact LeO.none _)
   |(with_reducible refine LeO.ite ?_ ?_)
   |(with_reducible refine LeO.bind ?_ (fun _=>?_))
   |exact ih0 _ _
   |exact LeO.none _
   |refine LeO.ite ?_ ?_
   |refine LeO.bind ?_ (fun _=>?_)
theorem gleberef1_Text.mono:∀ a0 k,LeO (gleberef1_Text.f k a0) (gleberef1_Text.f (k+1) a0):=by
 intro a0 k
 have ih0:=gleberef1_Text.mono_l k
 unfold gleberef1_Text.f
 repeat' first
   |(with_reducible exact ih0 _ _)
   |(with_reducible exact LeO.refl _)
   |(with_reducible exact LeO.none _)
   |(with_reducible refine LeO.ite ?_ ?_)
   |(with_reducible refine LeO.bind ?_ (fun _=>?_))
   |exact ih0 _ _
   |exact LeO.none _
   |refine LeO.ite ?_ ?_
   |refine LeO.bind ?_ (fun _=>?_)
set_option maxRecDepth 100000 in
theorem gleberef1_Text.calls (k:Nat)(a0:Int)(r:ByteArray)(w:World)(hG:GoodW w)(h:gleberef1_Text.f k a0=some r):
  Calls Tryz.prog 13 #[.int .u64 a0] w fun e w'=>e=.returned (.string r)∧Below w.heap.size w w':=by
 have HB:=Aside0.mk (Below.refl w.heap.size w)
 have H:=h
 unfold gleberef1_Text.f at H
 clear h
 have H':=Aside0.mk H
 clear H
 go_enter Tryz.func13,Tryz.ntmps13
 go_wp2
 go_loopg [0,3] k (fun kq v0 v3 w'=>∃ (x0_1:Int) (x3_1:ByteArray),v0=.int .u64 x0_1∧v3=.string x3_1∧Aside0 (gleberef1_Text.l0 kq x0_1 x3_1=some r)∧Aside0 (kq≤k)∧Aside0 (Below w.heap.size w w'))
 case atStart=>exact⟨(a0),((⟨#[]⟩:ByteArray)),(by first|rfl|(simp;done)|(simp[*];done)),(by first|rfl|(simp;done)|(simp[*];done)),H',⟨Nat.le_refl _⟩,⟨by repeat (first|(with_reducible first|exact HB.out|apply zAb|apply zAa|apply zAc)|exact HB.out)⟩⟩
 case round=>
  clear H'
  try clear c1
  obtain⟨x0_1,x3_1,rfl,rfl,HA,HK1,HB⟩:=hrel
  cases gk with
  |zero=>exact absurd HA.out (by simp[gleberef1_Text.l0])
  |succ k1=>
   have H:=HA.out
   clear HA
   simp only[gleberef1_Text.l0] at H
   by_cases c2:x0_1 > 0
   ·rw[if_pos c2] at H
    have c2b0:=decide_eq_true c2
    clear c2
    obtain⟨y101,hy101⟩:∃ y_:List Int,y_=(([(IntKind.u64.wrap (48+(Int.tmod x0_1 10))) % 256]:List Int)):=⟨_,rfl⟩
    replace H:(if(strOfNums y101).size+x3_1.size≤9223372036854775807 then(gleberef1_Text.l0 k1 (IntKind.u64.wrap (Int.tdiv x0_1 10)) ((strOfNums y101)++x3_1)) else(none))=some r:=by first|(rw[hy101];with_reducible exact H)|(have H2_:=(Option.bind_some _ _).symm.trans H;rw[hy101];with_reducible exact H2_)|(have H2_:=(Option.bind_some _ _).symm.trans H;with_reducible exact H2_)|with_reducible exact H|(rw[hy101];exact H)|exact H
    have Ny101:=Aside0.mk hy101
    clear hy101
    by_cases c3:(strOfNums y101).size+x3_1.size≤9223372036854775807
    ·rw[if_pos c3] at H
     have c3b0:=eq_true c3
     have c3b1:=decide_eq_true c3
     try have c3b2:=eq_false (Nat.not_lt.2 c3)
     have H':=Aside0.mk H
     clear H
     go_wp2_with (first|((with_reducible refine zBv (N:=14) rfl ?_);refine Kd.R_lit (Kd.int .u8) _ 5 ?hg (N:=14) ?hd (xs:=([(IntKind.u64.wrap (48+(Int.tmod x0_1 10))) % 256]:List Int)) (inner:=[.int .u8 ((IntKind.u64.wrap (48+(Int.tmod x0_1 10))) % 256)]) (ok:=fun _=>True) (okp:=fun _=>True) ?hr ?hp (fun _ hk=>hk) trivial (Below.refl _ _) (Nat.le_refl _) (by simp) ?_;(case hd=>rfl);(case hg=>rfl);(case hr=>first|(go_simp;done)|(go_simp;rfl));(case hp=>exact(Reps.one (show Kd.M (Kd.int .u8) _ _ _ ((IntKind.u64.wrap (48+(Int.tmod x0_1 10))) % 256) [.int .u8 ((IntKind.u64.wrap (48+(Int.tmod x0_1 10))) % 256)] from rfl) (Reps.none _ _)));intro v102 w4 ho5 hb hg_ hnew_;clear hg_ hnew_;(first|rw[← Ny101.out] at ho5|(simp only[Int.reduceToNat] at ho5;rw[← Ny101.out] at ho5));have n0_:=Aside0.mk (Kd.R_lower ho5 (zAp (by repeat (first|(with_reducible first|exact HB.out|apply zAb|apply zAa|apply zAc)|exact HB.out))));have n1_:=Aside0.mk (zAi (by repeat (first|(with_reducible first|exact HB.out|apply zAb|apply zAa|apply zAc)|exact HB.out)) hb);clear HB;have HO103:=n0_;have HB:=n1_;clear n0_ n1_;clear hb ho5;have hcv6:=zHp (P:=Tryz.prog) Tryz.underlying22 Tryz.underlying5 Tryz.underlying9 (Kd.own_of_R HO103.out)))
     go_roundg k1
     case measure=>have:=HK1.out;omega
     case rel=>exact⟨(IntKind.u64.wrap (Int.tdiv x0_1 10)),((strOfNums y101)++x3_1),(by first|rfl|(simp;done)|(simp[*];done)),(by first|rfl|(simp;done)|(simp[*];done)),H',⟨by have:=HK1.out;omega⟩,⟨by repeat (first|(with_reducible first|exact HB.out|apply zAb|apply zAa|apply zAc)|exact HB.out)⟩⟩
    ·rw[if_neg c3] at H
     exact absurd H (by simp)
   ·rw[if_neg c2] at H
    have c2b0:decide (0 < x0_1)=false:=decide_eq_false c2
    clear c2
    by_cases c7:x3_1.toList=([]:List UInt8)
    ·rw[if_pos c7] at H
     have c7b0:(x3_1.toList==([]:List UInt8))=true:=beq_iff_eq.mpr c7
     have c7b1:(x3_1.toList != ([]:List UInt8))=false:=bne_eq_false_iff_eq.mpr c7
     clear c7
     obtain⟨y104,hy104⟩:∃ y_:List Int,y_=(([(IntKind.u64.wrap (48+(Int.tmod x0_1 10))) % 256]:List Int)):=⟨_,rfl⟩
     replace H:(if(strOfNums y104).size+x3_1.size≤9223372036854775807 then(gleberef1_Text.l0 k1 (IntKind.u64.wrap (Int.tdiv x0_1 10)) ((strOfNums y104)++x3_1)) else(none))=some r:=by first|(rw[hy104];with_reducible exact H)|(have H2_:=(Option.bind_some _ _).symm.trans H;rw[hy104];with_reducible exact H2_)|(have H2_:=(Option.bind_some _ _).symm.trans H;with_reducible exact H2_)|with_reducible exact H|(rw[hy104];exact H)|exact H
     have Ny104:=Aside0.mk hy104
     clear hy104
     by_cases c8:(strOfNums y104).size+x3_1.size≤9223372036854775807
     ·rw[if_pos c8] at H
      have c8b0:=eq_true c8
      have c8b1:=decide_eq_true c8
      try have c8b2:=eq_false (Nat.not_lt.2 c8)
      have H':=Aside0.mk H
      clear H
      go_wp2_with (first|((with_reducible refine zBv (N:=14) rfl ?_);refine Kd.R_lit (Kd.int .u8) _ 5 ?hg (N:=14) ?hd (xs:=([(IntKind.u64.wrap (48+(Int.tmod x0_1 10))) % 256]:List Int)) (inner:=[.int .u8 ((IntKind.u64.wrap (48+(Int.tmod x0_1 10))) % 256)]) (ok:=fun _=>True) (okp:=fun _=>True) ?hr ?hp (fun _ hk=>hk) trivial (Below.refl _ _) (Nat.le_refl _) (by simp) ?_;(case hd=>rfl);(case hg=>rfl);(case hr=>first|(go_simp;done)|(go_simp;rfl));(case hp=>exact(Reps.one (show Kd.M (Kd.int .u8) _ _ _ ((IntKind.u64.wrap (48+(Int.tmod x0_1 10))) % 256) [.int .u8 ((IntKind.u64.wrap (48+(Int.tmod x0_1 10))) % 256)] from rfl) (Reps.none _ _)));intro v105 w9 ho10 hb hg_ hnew_;clear hg_ hnew_;(first|rw[← Ny104.out] at ho10|(simp only[Int.reduceToNat] at ho10;rw[← Ny104.out] at ho10));have n0_:=Aside0.mk (Kd.R_lower ho10 (zAp (by repeat (first|(with_reducible first|exact HB.out|apply zAb|apply zAa|apply zAc)|exact HB.out))));have n1_:=Aside0.mk (zAi (by repeat (first|(with_reducible first|exact HB.out|apply zAb|apply zAa|apply zAc)|exact HB.out)) hb);clear HB;have HO106:=n0_;have HB:=n1_;clear n0_ n1_;clear hb ho10;have hcv11:=zHp (P:=Tryz.prog) Tryz.underlying22 Tryz.underlying5 Tryz.underlying9 (Kd.own_of_R HO106.out)))
      go_roundg k1
      case measure=>have:=HK1.out;omega
      case rel=>exact⟨(IntKind.u64.wrap (Int.tdiv x0_1 10)),((strOfNums y104)++x3_1),(by first|rfl|(simp;done)|(simp[*];done)),(by first|rfl|(simp;done)|(simp[*];done)),H',⟨by have:=HK1.out;omega⟩,⟨by repeat (first|(with_reducible first|exact HB.out|apply zAb|apply zAa|apply zAc)|exact HB.out)⟩⟩
     ·rw[if_neg c8] at H
      exact absurd H (by simp)
    ·rw[if_neg c7] at H
     have c7b0:(x3_1.toList==([]:List UInt8))=false:=beq_eq_false_iff_ne.mpr c7
     have c7b1:(x3_1.toList != ([]:List UInt8))=true:=bne_iff_ne.mpr c7
     obtain rfl:=Option.some.inj H
     go_wp2
     go_ret
     exact⟨by first|rfl|(simp[errW_none,errW_some]<;>rfl)|(simp[*,errW_none,errW_some]<;>rfl),by repeat (first|(with_reducible first|exact HB.out|apply zAb|apply zAa|apply zAc)|exact HB.out)⟩
def gleberef1_Ok.f (a0_0:Int)(a0_1:Int)(a0_2:Int):Option (Bool):=PRD.gleberef1_Ok.f a0_0 a0_1 a0_2
theorem gleberef1_Ok.calls (a0_0:Int)(a0_1:Int)(a0_2:Int)(r:Bool)(w:World)(hG:GoodW w)(h:gleberef1_Ok.f a0_0 a0_1 a0_2=some r):
  Calls Tryz.prog 44 #[.agg #[.int .i64 a0_0,.int .u64 a0_1,.int .u64 a0_2]] w fun e w'=>e=.returned (.bool r)∧Below w.heap.size w w':=PRD.gleberef1_Ok.calls a0_0 a0_1 a0_2 r w hG h
def gleberef1_group.f (a0_0:Int)(a0_1:Int)(a1:Int):Option (Int):=if a1 < 4 then(if 0≤(IntKind.u64.wrap (wrap64 (48 - (wrap64 (16 * a1))))) then(some (Go.bits .and .u64 (shr .u64 a0_0 (IntKind.u64.wrap (wrap64 (48 - (wrap64 (16 * a1)))))) 65535)) else(none)) else(if 0≤(IntKind.u64.wrap (wrap64 (48 - (wrap64 (16 * (wrap64 (a1 - 4))))))) then(some (Go.bits .and .u64 (shr .u64 a0_1 (IntKind.u64.wrap (wrap64 (48 - (wrap64 (16 * (wrap64 (a1 - 4)))))))) 65535)) else(none))
set_option maxRecDepth 100000 in
theorem gleberef1_group.calls (a0_0:Int)(a0_1:Int)(a1:Int)(r:Int)(w:World)(hG:GoodW w)(h:gleberef1_group.f a0_0 a0_1 a1=some r):
  Calls Tryz.prog 82 #[.agg #[.int .u64 a0_0,.int .u64 a0_1],.int .i64 a1] w fun e w'=>e=.returned (.int .u64 r)∧Below w.heap.size w w':=by
 have hu26:=Tryz.underlying26
 have HB:=Aside0.mk (Below.refl w.heap.size w)
 have H:=h
 unfold gleberef1_group.f at H
 clear h
 by_cases c3:a1 < 4
 ·rw[if_pos c3] at H
  have c3b0:=decide_eq_true c3
  clear c3
  obtain⟨ji4,hji4⟩:∃ j_:Int,(IntKind.u64.wrap (wrap64 (48 - (wrap64 (16 * a1)))))=j_:=⟨_,rfl⟩
  replace H:(if 0≤(ji4) then(some (Go.bits .and .u64 (shr .u64 a0_0 (ji4)) 65535)) else(none))=some r:=by first|(rw[hji4] at H;exact H)|(simp only[hji4] at H ⊢;exact H)
  by_cases c5:0≤(ji4)
  ·rw[if_pos c5] at H
   have c5b0:=eq_true c5
   have c5b1:=decide_eq_true c5
   clear c5
   obtain⟨ji6,hji6⟩:∃ j_:Int,(shr .u64 a0_0 (ji4))=j_:=⟨_,rfl⟩
   replace H:(some (Go.bits .and .u64 (ji6) 65535))=some r:=by first|(rw[hji6] at H;exact H)|(simp only[hji6] at H ⊢;exact H)
   have hji6_:(a0_0 / 2 ^ min (ji4).toNat 64)=ji6:=hji6
   have hji6z:(ji4)≤64→(a0_0 / 2 ^ (ji4).toNat)=ji6:=zI0 hji6
   obtain rfl:=Option.some.inj H
   go_enter Tryz.func82,Tryz.ntmps82
   go_wp2_with (first|((with_reducible refine zBv (N:=2) rfl ?_);refine zCr ?hg (N:=2) ?hd (cs:=#[.int .u64 a0_0,.int .u64 a0_1]) (t:=26) ?hr ?_;(case hd=>rfl);(case hg=>rfl);(case hr=>first|(go_simp;done)|(go_simp;rfl));intro gb107 hg w7 hbox hb;have n0_:=Aside0.mk (zAi (by repeat (first|(with_reducible first|exact HB.out|apply zAb|apply zAa|apply zAc)|exact HB.out)) hb);have n1_:=Aside0.mk (hbox);have n2_:=Aside0.mk ((by rw[hg];exact(zAp (by repeat (first|(with_reducible first|exact HB.out|apply zAb|apply zAa|apply zAc)|exact HB.out))):w.heap.size≤gb107));have n3_:=Aside0.mk ((by rw[hg];exact(zAp (by repeat (first|(with_reducible first|exact HB.out|apply zAb|apply zAa|apply zAc)|exact HB.out))):w.heap.size≤gb107));clear HB;have HB:=n0_;have BK107:=n1_;have GW107:=n2_;have GE107:=n3_;clear n0_ n1_ n2_ n3_;clear hb hbox hg;have hcz8_0:w7.cell? ⟨gb107,0,none⟩=some (.int .u64 a0_0):=(zAq BK107.out 0).trans rfl;have hcz8_1:w7.cell? ⟨gb107,1,none⟩=some (.int .u64 a0_1):=(zAq BK107.out 1).trans rfl;have hfz8_0:=zAj BK107.out 0;have hfz8_1:=zAj BK107.out 1))
   go_ret
   exact⟨by first|rfl|(simp[errW_none,errW_some]<;>rfl)|(simp only[← hji4,← hji6];first|rfl|(simp[errW_none,errW_some]<;>rfl))|(simp[*,errW_none,errW_some]<;>rfl),by repeat (first|(with_reducible first|exact HB.out|apply zAb|apply zAa|apply zAc|refine zAg ?_ GE107.out)|exact HB.out)⟩
  ·rw[if_neg c5] at H
   exact absurd H (by simp)
 ·rw[if_neg c3] at H
  have c3b0:decide (a1 < 4)=false:=decide_eq_false c3
  clear c3
  obtain⟨ji9,hji9⟩:∃ j_:Int,(IntKind.u64.wrap (wrap64 (48 - (wrap64 (16 * (wrap64 (a1 - 4)))))))=j_:=⟨_,rfl⟩
  replace H:(if 0≤(ji9) then(some (Go.bits .and .u64 (shr .u64 a0_1 (ji9)) 65535)) else(none))=some r:=by first|(rw[hji9] at H;exact H)|(simp only[hji9] at H ⊢;exact H)
  by_cases c10:0≤(ji9)
  ·rw[if_pos c10] at H
   have c10b0:=eq_true c10
   have c10b1:=decide_eq_true c10
   clear c10
   obtain⟨ji11,hji11⟩:∃ j_:Int,(shr .u64 a0_1 (ji9))=j_:=⟨_,rfl⟩
   replace H:(some (Go.bits .and .u64 (ji11) 65535))=some r:=by first|(rw[hji11] at H;exact H)|(simp only[hji11] at H ⊢;exact H)
   have hji11_:(a0_1 / 2 ^ min (ji9).toNat 64)=ji11:=hji11
   have hji11z:(ji9)≤64→(a0_1 / 2 ^ (ji9).toNat)=ji11:=zI0 hji11
   obtain rfl:=Option.some.inj H
   go_enter Tryz.func82,Tryz.ntmps82
   go_wp2_with (first|((with_reducible refine zBv (N:=2) rfl ?_);refine zCr ?hg (N:=2) ?hd (cs:=#[.int .u64 a0_0,.int .u64 a0_1]) (t:=26) ?hr ?_;(case hd=>rfl);(case hg=>rfl);(case hr=>first|(go_simp;done)|(go_simp;rfl));intro gb107 hg w12 hbox hb;have n0_:=Aside0.mk (zAi (by repeat (first|(with_reducible first|exact HB.out|apply zAb|apply zAa|apply zAc)|exact HB.out)) hb);have n1_:=Aside0.mk (hbox);have n2_:=Aside0.mk ((by rw[hg];exact(zAp (by repeat (first|(with_reducible first|exact HB.out|apply zAb|apply zAa|apply zAc)|exact HB.out))):w.heap.size≤gb107));have n3_:=Aside0.mk ((by rw[hg];exact(zAp (by repeat (first|(with_reducible first|exact HB.out|apply zAb|apply zAa|apply zAc)|exact HB.out))):w.heap.size≤gb107));clear HB;have HB:=n0_;have BK107:=n1_;have GW107:=n2_;have GE107:=n3_;clear n0_ n1_ n2_ n3_;clear hb hbox hg;have hcz13_0:w12.cell? ⟨gb107,0,none⟩=some (.int .u64 a0_0):=(zAq BK107.out 0).trans rfl;have hcz13_1:w12.cell? ⟨gb107,1,none⟩=some (.int .u64 a0_1):=(zAq BK107.out 1).trans rfl;have hfz13_0:=zAj BK107.out 0;have hfz13_1:=zAj BK107.out 1))
   go_ret
   exact⟨by first|rfl|(simp[errW_none,errW_some]<;>rfl)|(simp only[← hji9,← hji11];first|rfl|(simp[errW_none,errW_some]<;>rfl))|(simp[*,errW_none,errW_some]<;>rfl),by repeat (first|(with_reducible first|exact HB.out|apply zAb|apply zAa|apply zAc|refine zAg ?_ GE107.out)|exact HB.out)⟩
  ·rw[if_neg c10] at H
   exact absurd H (by simp)
mutual
def gleberef1_zeros.l0:Nat→Int→Int→Int→Int→Int→Option (Int×Int)
 |0,_,_,_,_,_=>none
 |k+1,x4,x5,x6,x109000,x109001=>if x6 < 8 then(gleberef1_zeros.l1 k x4 x5 x6 x6 x109000 x109001) else(some (x4,x5))
def gleberef1_zeros.l1:Nat→Int→Int→Int→Int→Int→Int→Option (Int×Int)
 |0,_,_,_,_,_,_=>none
 |k+1,x4,x5,x6,x7,x109000,x109001=>if x7 < 8 then((gleberef1_group.f x109000 x109001 x7).bind fun t109=>(if t109=0 then(gleberef1_zeros.l1 k x4 x5 x6 (wrap64 (x7+1)) x109000 x109001) else(if(wrap64 (x7 - x6)) > x5 then(gleberef1_zeros.l0 k x6 (wrap64 (x7 - x6)) (wrap64 (x6+1)) x109000 x109001) else(gleberef1_zeros.l0 k x4 x5 (wrap64 (x6+1)) x109000 x109001)))) else(if(wrap64 (x7 - x6)) > x5 then(gleberef1_zeros.l0 k x6 (wrap64 (x7 - x6)) (wrap64 (x6+1)) x109000 x109001) else(gleberef1_zeros.l0 k x4 x5 (wrap64 (x6+1)) x109000 x109001))
end
def gleberef1_zeros.f (k:Nat)(a0_0:Int)(a0_1:Int):Option (Int×Int):=gleberef1_zeros.l0 k (-1) 1 0 a0_0 a0_1
set_option maxRecDepth 100000 in
theorem gleberef1_zeros.calls (k:Nat)(a0_0:Int)(a0_1:Int)(r1:Int)(r2:Int)(w:World)(hG:GoodW w)(h:gleberef1_zeros.f k a0_0 a0_1=some (r1,r2)):
  Calls Tryz.prog 80 #[.agg #[.int .u64 a0_0,.int .u64 a0_1]] w fun e w'=>e=.returned (.tuple #[.int .i64 r1,.int .i64 r2])∧Below w.heap.size w w':=by
 have hu26:=Tryz.underlying26
 have HB:=Aside0.mk (Below.refl w.heap.size w)
 have H:=h
 unfold gleberef1_zeros.f at H
 clear h
 have H':=Aside0.mk H
 clear H
 go_enter Tryz.func80,Tryz.ntmps80
 go_wp2_with (first|((with_reducible refine zBv (N:=1) rfl ?_);refine zCr ?hg (N:=1) ?hd (cs:=#[.int .u64 a0_0,.int .u64 a0_1]) (t:=26) ?hr ?_;(case hd=>rfl);(case hg=>rfl);(case hr=>first|(go_simp;done)|(go_simp;rfl));intro gb108 hg w2 hbox hb;have n0_:=Aside0.mk (zAi (by repeat (first|(with_reducible first|exact HB.out|apply zAb|apply zAa|apply zAc)|exact HB.out)) hb);have n1_:=Aside0.mk (hbox);have n2_:=Aside0.mk ((by rw[hg];exact(zAp (by repeat (first|(with_reducible first|exact HB.out|apply zAb|apply zAa|apply zAc)|exact HB.out))):w.heap.size≤gb108));have n3_:=Aside0.mk ((by rw[hg];exact(zAp (by repeat (first|(with_reducible first|exact HB.out|apply zAb|apply zAa|apply zAc)|exact HB.out))):w.heap.size≤gb108));clear HB;have HB:=n0_;have BK108:=n1_;have GW108:=n2_;have GE108:=n3_;clear n0_ n1_ n2_ n3_;clear hb hbox hg))
 go_loopg [4,5,6] k (fun kq v4 v5 v6 w'=>∃ (x4_1:Int) (x5_1:Int) (x6_1:Int),v4=.int .i64 x4_1∧v5=.int .i64 x5_1∧v6=.int .i64 x6_1∧Aside0 (gleberef1_zeros.l0 kq x4_1 x5_1 x6_1 a0_0 a0_1=some (r1,r2))∧Aside0 (kq≤k)∧Aside0 (w'.heap[gb108]?=some (.cells #[.int .u64 a0_0,.int .u64 a0_1] 26 (0,0)))∧Aside0 (Below w.heap.size w w'))
 case atStart=>exact⟨((-1)),(1),(0),(by first|rfl|(simp;done)|(simp[*];done)),(by first|rfl|(simp;done)|(simp[*];done)),(by first|rfl|(simp;done)|(simp[*];done)),H',⟨Nat.le_refl _⟩,⟨by(with_reducible repeat (first|refine zAf ?_ _|refine zAk ?_|refine zAe ?_ _));exact BK108.out⟩,⟨by repeat (first|(with_reducible first|exact HB.out|apply zAb|apply zAa|apply zAc|refine zAg ?_ GE108.out)|exact HB.out)⟩⟩
 case round=>
  clear H'
  try clear p2
  obtain⟨x4_1,x5_1,x6_1,rfl,rfl,rfl,HA,HK1,BK108,HB⟩:=hrel
  cases gk with
  |zero=>exact absurd HA.out (by simp[gleberef1_zeros.l0])
  |succ k1=>
   have H:=HA.out
   clear HA
   simp only[gleberef1_zeros.l0] at H
   by_cases c3:x6_1 < 8
   ·rw[if_pos c3] at H
    have c3b0:=decide_eq_true c3
    clear c3
    have H':=Aside0.mk H
    clear H
    go_wp2
    go_loopg [7] k1 (fun kq v7 w'=>∃ (x7_2:Int),v7=.int .i64 x7_2∧Aside0 (gleberef1_zeros.l1 kq x4_1 x5_1 x6_1 x7_2 a0_0 a0_1=some (r1,r2))∧Aside0 (kq≤k1)∧Aside0 (w'.heap[gb108]?=some (.cells #[.int .u64 a0_0,.int .u64 a0_1] 26 (0,0)))∧Aside0 (Below w.heap.size w w'))
    case atStart=>exact⟨(x6_1),(by first|rfl|(simp;done)|(simp[*];done)),H',⟨Nat.le_refl _⟩,⟨by(with_reducible repeat (first|refine zAf ?_ _|refine zAk ?_|refine zAe ?_ _));exact BK108.out⟩,⟨by repeat (first|(with_reducible first|exact HB.out|apply zAb|apply zAa|apply zAc|refine zAg ?_ GE108.out)|exact HB.out)⟩⟩
    case round=>
     clear H'
     try clear p2
     try clear c3
     try clear c3b0
     try clear p2
     obtain⟨x7_2,rfl,HA,HK2,BK108,HB⟩:=hrel
     cases gk with
     |zero=>exact absurd HA.out (by simp[gleberef1_zeros.l1])
     |succ k2=>
      have H:=HA.out
      clear HA
      simp only[gleberef1_zeros.l1] at H
      by_cases c4:x7_2 < 8
      ·rw[if_pos c4] at H
       have c4b0:=decide_eq_true c4
       clear c4
       replace H:=Option.bind_eq_some_iff.mp H
       obtain⟨t109,A50,H⟩:=H
       try dsimp only at H
       have A5:=Aside0.mk A50
       clear A50
       by_cases c6:t109=0
       ·rw[if_pos c6] at H
        have c6b0:(t109==0)=true:=beq_iff_eq.mpr c6
        have c6b1:(t109 != 0)=false:=bne_eq_false_iff_eq.mpr c6
        clear c6
        have H':=Aside0.mk H
        clear H
        have hcz7_0:wr.cell? ⟨gb108,0,none⟩=some (.int .u64 a0_0):=(zAq BK108.out 0).trans rfl
        have hcz7_1:wr.cell? ⟨gb108,1,none⟩=some (.int .u64 a0_1):=(zAq BK108.out 1).trans rfl
        have hfz7_0:=zAj BK108.out 0
        have hfz7_1:=zAj BK108.out 1
        go_wp2_with (first|(go_at_call 82;(with_reducible refine(gleberef1_group.calls a0_0 a0_1 x7_2 t109 _ ?side1 A5.out).mono ?_);(case side1=>first|exact hG|exact GoodW.below hG (by repeat (first|(with_reducible first|exact HB.out|apply zAb|apply zAa|apply zAc|refine zAg ?_ GE108.out)|exact HB.out))|(repeat (first|exact hG|apply GoodW.drewN|apply GoodW.drew)));rintro e w8 ⟨rfl,hb⟩;have n0_:=Aside0.mk (zBr (g:=gb108) (o:=.cells #[.int .u64 a0_0,.int .u64 a0_1] 26 (0,0)) (by(with_reducible repeat (first|refine zAf ?_ _|refine zAk ?_|refine zAe ?_ _));exact BK108.out) hb);have n1_:=Aside0.mk (zAi (by repeat (first|(with_reducible first|exact HB.out|apply zAb|apply zAa|apply zAc|refine zAg ?_ GE108.out)|exact HB.out)) hb);clear BK108;clear HB;have BK108:=n0_;have HB:=n1_;clear n0_ n1_;(try clear hb);(try clear hb2);(try clear hk);(try clear hi)))
        go_roundg k2
        case measure=>have:=HK1.out;have:=HK2.out;omega
        case rel=>exact⟨(wrap64 (x7_2+1)),(by first|rfl|(simp;done)|(simp[*];done)),H',⟨by have:=HK1.out;have:=HK2.out;omega⟩,⟨by(with_reducible repeat (first|refine zAf ?_ _|refine zAk ?_|refine zAe ?_ _));exact BK108.out⟩,⟨by repeat (first|(with_reducible first|exact HB.out|apply zAb|apply zAa|apply zAc|refine zAg ?_ GE108.out)|exact HB.out)⟩⟩
       ·rw[if_neg c6] at H
        have c6b0:(t109==0)=false:=beq_eq_false_iff_ne.mpr c6
        have c6b1:(t109 != 0)=true:=bne_iff_ne.mpr c6
        by_cases c9:(wrap64 (x7_2 - x6_1)) > x5_1
        ·rw[if_pos c9] at H
         have c9b0:=decide_eq_true c9
         clear c9
         have H':=Aside0.mk H
         clear H
         have hcz10_0:wr.cell? ⟨gb108,0,none⟩=some (.int .u64 a0_0):=(zAq BK108.out 0).trans rfl
         have hcz10_1:wr.cell? ⟨gb108,1,none⟩=some (.int .u64 a0_1):=(zAq BK108.out 1).trans rfl
         have hfz10_0:=zAj BK108.out 0
         have hfz10_1:=zAj BK108.out 1
         go_wp2_with (first|(go_at_call 82;(with_reducible refine(gleberef1_group.calls a0_0 a0_1 x7_2 t109 _ ?side1 A5.out).mono ?_);(case side1=>first|exact hG|exact GoodW.below hG (by repeat (first|(with_reducible first|exact HB.out|apply zAb|apply zAa|apply zAc|refine zAg ?_ GE108.out)|exact HB.out))|(repeat (first|exact hG|apply GoodW.drewN|apply GoodW.drew)));rintro e w11 ⟨rfl,hb⟩;have n0_:=Aside0.mk (zBr (g:=gb108) (o:=.cells #[.int .u64 a0_0,.int .u64 a0_1] 26 (0,0)) (by(with_reducible repeat (first|refine zAf ?_ _|refine zAk ?_|refine zAe ?_ _));exact BK108.out) hb);have n1_:=Aside0.mk (zAi (by repeat (first|(with_reducible first|exact HB.out|apply zAb|apply zAa|apply zAc|refine zAg ?_ GE108.out)|exact HB.out)) hb);clear BK108;clear HB;have BK108:=n0_;have HB:=n1_;clear n0_ n1_;(try clear hb);(try clear hb2);(try clear hk);(try clear hi)))
         go_roundg k2
         case measure=>have:=HK1.out;have:=HK2.out;omega
         case rel=>exact⟨(x6_1),(wrap64 (x7_2 - x6_1)),(wrap64 (x6_1+1)),(by first|rfl|(simp;done)|(simp[*];done)),(by first|rfl|(simp;done)|(simp[*];done)),(by first|rfl|(simp;done)|(simp[*];done)),H',⟨by have:=HK1.out;have:=HK2.out;omega⟩,⟨by(with_reducible repeat (first|refine zAf ?_ _|refine zAk ?_|refine zAe ?_ _));exact BK108.out⟩,⟨by repeat (first|(with_reducible first|exact HB.out|apply zAb|apply zAa|apply zAc|refine zAg ?_ GE108.out)|exact HB.out)⟩⟩
        ·rw[if_neg c9] at H
         have c9b0:decide (x5_1 < (wrap64 (x7_2 - x6_1)))=false:=decide_eq_false c9
         clear c9
         have H':=Aside0.mk H
         clear H
         have hcz12_0:wr.cell? ⟨gb108,0,none⟩=some (.int .u64 a0_0):=(zAq BK108.out 0).trans rfl
         have hcz12_1:wr.cell? ⟨gb108,1,none⟩=some (.int .u64 a0_1):=(zAq BK108.out 1).trans rfl
         have hfz12_0:=zAj BK108.out 0
         have hfz12_1:=zAj BK108.out 1
         go_wp2_with (first|(go_at_call 82;(with_reducible refine(gleberef1_group.calls a0_0 a0_1 x7_2 t109 _ ?side1 A5.out).mono ?_);(case side1=>first|exact hG|exact GoodW.below hG (by repeat (first|(with_reducible first|exact HB.out|apply zAb|apply zAa|apply zAc|refine zAg ?_ GE108.out)|exact HB.out))|(repeat (first|exact hG|apply GoodW.drewN|apply GoodW.drew)));rintro e w13 ⟨rfl,hb⟩;have n0_:=Aside0.mk (zBr (g:=gb108) (o:=.cells #[.int .u64 a0_0,.int .u64 a0_1] 26 (0,0)) (by(with_reducible repeat (first|refine zAf ?_ _|refine zAk ?_|refine zAe ?_ _));exact BK108.out) hb);have n1_:=Aside0.mk (zAi (by repeat (first|(with_reducible first|exact HB.out|apply zAb|apply zAa|apply zAc|refine zAg ?_ GE108.out)|exact HB.out)) hb);clear BK108;clear HB;have BK108:=n0_;have HB:=n1_;clear n0_ n1_;(try clear hb);(try clear hb2);(try clear hk);(try clear hi)))
         go_roundg k2
         case measure=>have:=HK1.out;have:=HK2.out;omega
         case rel=>exact⟨(x4_1),(x5_1),(wrap64 (x6_1+1)),(by first|rfl|(simp;done)|(simp[*];done)),(by first|rfl|(simp;done)|(simp[*];done)),(by first|rfl|(simp;done)|(simp[*];done)),H',⟨by have:=HK1.out;have:=HK2.out;omega⟩,⟨by(with_reducible repeat (first|refine zAf ?_ _|refine zAk ?_|refine zAe ?_ _));exact BK108.out⟩,⟨by repeat (first|(with_reducible first|exact HB.out|apply zAb|apply zAa|apply zAc|refine zAg ?_ GE108.out)|exact HB.out)⟩⟩
      ·rw[if_neg c4] at H
       have c4b0:decide (x7_2 < 8)=false:=decide_eq_false c4
       clear c4
       by_cases c14:(wrap64 (x7_2 - x6_1)) > x5_1
       ·rw[if_pos c14] at H
        have c14b0:=decide_eq_true c14
        clear c14
        have H':=Aside0.mk H
        clear H
        go_wp2
        go_roundg k2
        case measure=>have:=HK1.out;have:=HK2.out;omega
        case rel=>exact⟨(x6_1),(wrap64 (x7_2 - x6_1)),(wrap64 (x6_1+1)),(by first|rfl|(simp;done)|(simp[*];done)),(by first|rfl|(simp;done)|(simp[*];done)),(by first|rfl|(simp;done)|(simp[*];done)),H',⟨by have:=HK1.out;have:=HK2.out;omega⟩,⟨by(with_reducible repeat (first|refine zAf ?_ _|refine zAk ?_|refine zAe ?_ _));exact BK108.out⟩,⟨by repeat (first|(with_reducible first|exact HB.out|apply zAb|apply zAa|apply zAc|refine zAg ?_ GE108.out)|exact HB.out)⟩⟩
       ·rw[if_neg c14] at H
        have c14b0:decide (x5_1 < (wrap64 (x7_2 - x6_1)))=false:=decide_eq_false c14
        clear c14
        have H':=Aside0.mk H
        clear H
        go_wp2
        go_roundg k2
        case measure=>have:=HK1.out;have:=HK2.out;omega
        case rel=>exact⟨(x4_1),(x5_1),(wrap64 (x6_1+1)),(by first|rfl|(simp;done)|(simp[*];done)),(by first|rfl|(simp;done)|(simp[*];done)),(by first|rfl|(simp;done)|(simp[*];done)),H',⟨by have:=HK1.out;have:=HK2.out;omega⟩,⟨by(with_reducible repeat (first|refine zAf ?_ _|refine zAk ?_|refine zAe ?_ _));exact BK108.out⟩,⟨by repeat (first|(with_reducible first|exact HB.out|apply zAb|apply zAa|apply zAc|refine zAg ?_ GE108.out)|exact HB.out)⟩⟩
   ·rw[if_neg c3] at H
    have c3b0:decide (x6_1 < 8)=false:=decide_eq_false c3
    clear c3
    simp only[Option.some.injEq,Prod.mk.injEq] at H
    obtain⟨rfl,rfl⟩:=H
    go_wp2
    go_ret2
    exact⟨by first|rfl|(simp[errW_none,errW_some]<;>rfl)|(simp[*,errW_none,errW_some]<;>rfl),by repeat (first|(with_reducible first|exact HB.out|apply zAb|apply zAa|apply zAc|refine zAg ?_ GE108.out)|exact HB.out)⟩
def gleberef1_hex.l0:Nat→Int→ByteArray→Option (ByteArray)
 |0,_,_=>none
 |k+1,x0,x3=>if x0 > 0 then(if 0≤(Go.bits .and .u64 x0 15) then(if(Go.bits .and .u64 x0 15) < 16 then((some (([bt (⟨#[48,49,50,51,52,53,54,55,56,57,97,98,99,100,101,102]⟩:ByteArray) (Go.bits .and .u64 x0 15)]:List Int):List Int)).bind fun y110=>(if(strOfNums y110).size+x3.size≤9223372036854775807 then(gleberef1_hex.l0 k (x0 / 16) ((strOfNums y110)++x3)) else(none))) else(none)) else(none)) else(if x3.toList=([]:List UInt8) then(if 0≤(Go.bits .and .u64 x0 15) then(if(Go.bits .and .u64 x0 15) < 16 then((some (([bt (⟨#[48,49,50,51,52,53,54,55,56,57,97,98,99,100,101,102]⟩:ByteArray) (Go.bits .and .u64 x0 15)]:List Int):List Int)).bind fun y113=>(if(strOfNums y113).size+x3.size≤9223372036854775807 then(gleberef1_hex.l0 k (x0 / 16) ((strOfNums y113)++x3)) else(none))) else(none)) else(none)) else(some x3))
def gleberef1_hex.f (k:Nat)(a0:Int):Option (ByteArray):=gleberef1_hex.l0 k a0 (⟨#[]⟩:ByteArray)
set_option maxRecDepth 100000 in
theorem gleberef1_hex.calls (k:Nat)(a0:Int)(r:ByteArray)(w:World)(hG:GoodW w)(h:gleberef1_hex.f k a0=some r):
  Calls Tryz.prog 81 #[.int .u64 a0] w fun e w'=>e=.returned (.string r)∧Below w.heap.size w w':=by
 have HB:=Aside0.mk (Below.refl w.heap.size w)
 have H:=h
 unfold gleberef1_hex.f at H
 clear h
 have H':=Aside0.mk H
 clear H
 go_enter Tryz.func81,Tryz.ntmps81
 go_wp2
 go_loopg [0,3] k (fun kq v0 v3 w'=>∃ (x0_1:Int) (x3_1:ByteArray),v0=.int .u64 x0_1∧v3=.string x3_1∧Aside0 (gleberef1_hex.l0 kq x0_1 x3_1=some r)∧Aside0 (kq≤k)∧Aside0 (Below w.heap.size w w'))
 case atStart=>exact⟨(a0),((⟨#[]⟩:ByteArray)),(by first|rfl|(simp;done)|(simp[*];done)),(by first|rfl|(simp;done)|(simp[*];done)),H',⟨Nat.le_refl _⟩,⟨by repeat (first|(with_reducible first|exact HB.out|apply zAb|apply zAa|apply zAc)|exact HB.out)⟩⟩
 case round=>
  clear H'
  obtain⟨x0_1,x3_1,rfl,rfl,HA,HK1,HB⟩:=hrel
  cases gk with
  |zero=>exact absurd HA.out (by simp[gleberef1_hex.l0])
  |succ k1=>
   have H:=HA.out
   clear HA
   simp only[gleberef1_hex.l0] at H
   by_cases c2:x0_1 > 0
   ·rw[if_pos c2] at H
    have c2b0:=decide_eq_true c2
    clear c2
    by_cases c3:0≤(Go.bits .and .u64 x0_1 15)
    ·rw[if_pos c3] at H
     have c3b0:=decide_eq_true c3
     clear c3
     by_cases c4:(Go.bits .and .u64 x0_1 15) < 16
     ·rw[if_pos c4] at H
      have c4b0:=decide_eq_true c4
      clear c4
      obtain⟨y110,hy110⟩:∃ y_:List Int,y_=(([bt (⟨#[48,49,50,51,52,53,54,55,56,57,97,98,99,100,101,102]⟩:ByteArray) (Go.bits .and .u64 x0_1 15)]:List Int)):=⟨_,rfl⟩
      replace H:(if(strOfNums y110).size+x3_1.size≤9223372036854775807 then(gleberef1_hex.l0 k1 (x0_1 / 16) ((strOfNums y110)++x3_1)) else(none))=some r:=by first|(rw[hy110];with_reducible exact H)|(have H2_:=(Option.bind_some _ _).symm.trans H;rw[hy110];with_reducible exact H2_)|(have H2_:=(Option.bind_some _ _).symm.trans H;with_reducible exact H2_)|with_reducible exact H|(rw[hy110];exact H)|exact H
      have Ny110:=Aside0.mk hy110
      clear hy110
      by_cases c6:(strOfNums y110).size+x3_1.size≤9223372036854775807
      ·rw[if_pos c6] at H
       have c6b0:=eq_true c6
       have c6b1:=decide_eq_true c6
       try have c6b2:=eq_false (Nat.not_lt.2 c6)
       have H':=Aside0.mk H
       clear H
       have p5:0≤((Go.bits .and .u64 x0_1 15):Int):=of_decide_eq_true (by first|(with_reducible assumption)|assumption)
       have q5:(Go.bits .and .u64 x0_1 15) < (16:Int):=of_decide_eq_true (by first|(with_reducible assumption)|assumption)
       have hx5:=zD2 (⟨#[48,49,50,51,52,53,54,55,56,57,97,98,99,100,101,102]⟩:ByteArray) (Go.bits .and .u64 x0_1 15)
       replace p5:=eq_true p5
       replace q5:=eq_true q5
       go_wp2_with (first|((with_reducible refine zBv (N:=13) rfl ?_);refine Kd.R_lit (Kd.int .u8) _ 5 ?hg (N:=13) ?hd (xs:=([bt (⟨#[48,49,50,51,52,53,54,55,56,57,97,98,99,100,101,102]⟩:ByteArray) (Go.bits .and .u64 x0_1 15)]:List Int)) (inner:=[.int .u8 (bt (⟨#[48,49,50,51,52,53,54,55,56,57,97,98,99,100,101,102]⟩:ByteArray) (Go.bits .and .u64 x0_1 15))]) (ok:=fun _=>True) (okp:=fun _=>True) ?hr ?hp (fun _ hk=>hk) trivial (Below.refl _ _) (Nat.le_refl _) (by simp) ?_;(case hd=>rfl);(case hg=>rfl);(case hr=>first|(go_simp;done)|(go_simp;rfl));(case hp=>exact(Reps.one (show Kd.M (Kd.int .u8) _ _ _ (bt (⟨#[48,49,50,51,52,53,54,55,56,57,97,98,99,100,101,102]⟩:ByteArray) (Go.bits .and .u64 x0_1 15)) [.int .u8 (bt (⟨#[48,49,50,51,52,53,54,55,56,57,97,98,99,100,101,102]⟩:ByteArray) (Go.bits .and .u64 x0_1 15))] from rfl) (Reps.none _ _)));intro v111 w7 ho8 hb hg_ hnew_;clear hg_ hnew_;(first|rw[← Ny110.out] at ho8|(simp only[Int.reduceToNat] at ho8;rw[← Ny110.out] at ho8));have n0_:=Aside0.mk (Kd.R_lower ho8 (zAp (by repeat (first|(with_reducible first|exact HB.out|apply zAb|apply zAa|apply zAc)|exact HB.out))));have n1_:=Aside0.mk (zAi (by repeat (first|(with_reducible first|exact HB.out|apply zAb|apply zAa|apply zAc)|exact HB.out)) hb);clear HB;have HO112:=n0_;have HB:=n1_;clear n0_ n1_;clear hb ho8;have hcv9:=zHp (P:=Tryz.prog) Tryz.underlying22 Tryz.underlying5 Tryz.underlying9 (Kd.own_of_R HO112.out)))
       go_roundg k1
       case measure=>have:=HK1.out;omega
       case rel=>exact⟨(x0_1 / 16),((strOfNums y110)++x3_1),(by first|rfl|(simp;done)|(simp[*];done)),(by first|rfl|(simp;done)|(simp[*];done)),H',⟨by have:=HK1.out;omega⟩,⟨by repeat (first|(with_reducible first|exact HB.out|apply zAb|apply zAa|apply zAc)|exact HB.out)⟩⟩
      ·rw[if_neg c6] at H
       exact absurd H (by simp)
     ·rw[if_neg c4] at H
      exact absurd H (by simp)
    ·rw[if_neg c3] at H
     exact absurd H (by simp)
   ·rw[if_neg c2] at H
    have c2b0:decide (0 < x0_1)=false:=decide_eq_false c2
    clear c2
    by_cases c10:x3_1.toList=([]:List UInt8)
    ·rw[if_pos c10] at H
     have c10b0:(x3_1.toList==([]:List UInt8))=true:=beq_iff_eq.mpr c10
     have c10b1:(x3_1.toList != ([]:List UInt8))=false:=bne_eq_false_iff_eq.mpr c10
     clear c10
     by_cases c11:0≤(Go.bits .and .u64 x0_1 15)
     ·rw[if_pos c11] at H
      have c11b0:=decide_eq_true c11
      clear c11
      by_cases c12:(Go.bits .and .u64 x0_1 15) < 16
      ·rw[if_pos c12] at H
       have c12b0:=decide_eq_true c12
       clear c12
       obtain⟨y113,hy113⟩:∃ y_:List Int,y_=(([bt (⟨#[48,49,50,51,52,53,54,55,56,57,97,98,99,100,101,102]⟩:ByteArray) (Go.bits .and .u64 x0_1 15)]:List Int)):=⟨_,rfl⟩
       replace H:(if(strOfNums y113).size+x3_1.size≤9223372036854775807 then(gleberef1_hex.l0 k1 (x0_1 / 16) ((strOfNums y113)++x3_1)) else(none))=some r:=by first|(rw[hy113];with_reducible exact H)|(have H2_:=(Option.bind_some _ _).symm.trans H;rw[hy113];with_reducible exact H2_)|(have H2_:=(Option.bind_some _ _).symm.trans H;with_reducible exact H2_)|with_reducible exact H|(rw[hy113];exact H)|exact H
       have Ny113:=Aside0.mk hy113
       clear hy113
       by_cases c14:(strOfNums y113).size+x3_1.size≤9223372036854775807
       ·rw[if_pos c14] at H
        have c14b0:=eq_true c14
        have c14b1:=decide_eq_true c14
        try have c14b2:=eq_false (Nat.not_lt.2 c14)
        have H':=Aside0.mk H
        clear H
        have p13:0≤((Go.bits .and .u64 x0_1 15):Int):=of_decide_eq_true (by first|(with_reducible assumption)|assumption)
        have q13:(Go.bits .and .u64 x0_1 15) < (16:Int):=of_decide_eq_true (by first|(with_reducible assumption)|assumption)
        have hx13:=zD2 (⟨#[48,49,50,51,52,53,54,55,56,57,97,98,99,100,101,102]⟩:ByteArray) (Go.bits .and .u64 x0_1 15)
        replace p13:=eq_true p13
        replace q13:=eq_true q13
        go_wp2_with (first|((with_reducible refine zBv (N:=13) rfl ?_);refine Kd.R_lit (Kd.int .u8) _ 5 ?hg (N:=13) ?hd (xs:=([bt (⟨#[48,49,50,51,52,53,54,55,56,57,97,98,99,100,101,102]⟩:ByteArray) (Go.bits .and .u64 x0_1 15)]:List Int)) (inner:=[.int .u8 (bt (⟨#[48,49,50,51,52,53,54,55,56,57,97,98,99,100,101,102]⟩:ByteArray) (Go.bits .and .u64 x0_1 15))]) (ok:=fun _=>True) (okp:=fun _=>True) ?hr ?hp (fun _ hk=>hk) trivial (Below.refl _ _) (Nat.le_refl _) (by simp) ?_;(case hd=>rfl);(case hg=>rfl);(case hr=>first|(go_simp;done)|(go_simp;rfl));(case hp=>exact(Reps.one (show Kd.M (Kd.int .u8) _ _ _ (bt (⟨#[48,49,50,51,52,53,54,55,56,57,97,98,99,100,101,102]⟩:ByteArray) (Go.bits .and .u64 x0_1 15)) [.int .u8 (bt (⟨#[48,49,50,51,52,53,54,55,56,57,97,98,99,100,101,102]⟩:ByteArray) (Go.bits .and .u64 x0_1 15))] from rfl) (Reps.none _ _)));intro v114 w15 ho16 hb hg_ hnew_;clear hg_ hnew_;(first|rw[← Ny113.out] at ho16|(simp only[Int.reduceToNat] at ho16;rw[← Ny113.out] at ho16));have n0_:=Aside0.mk (Kd.R_lower ho16 (zAp (by repeat (first|(with_reducible first|exact HB.out|apply zAb|apply zAa|apply zAc)|exact HB.out))));have n1_:=Aside0.mk (zAi (by repeat (first|(with_reducible first|exact HB.out|apply zAb|apply zAa|apply zAc)|exact HB.out)) hb);clear HB;have HO115:=n0_;have HB:=n1_;clear n0_ n1_;clear hb ho16;have hcv17:=zHp (P:=Tryz.prog) Tryz.underlying22 Tryz.underlying5 Tryz.underlying9 (Kd.own_of_R HO115.out)))
        go_roundg k1
        case measure=>have:=HK1.out;omega
        case rel=>exact⟨(x0_1 / 16),((strOfNums y113)++x3_1),(by first|rfl|(simp;done)|(simp[*];done)),(by first|rfl|(simp;done)|(simp[*];done)),H',⟨by have:=HK1.out;omega⟩,⟨by repeat (first|(with_reducible first|exact HB.out|apply zAb|apply zAa|apply zAc)|exact HB.out)⟩⟩
       ·rw[if_neg c14] at H
        exact absurd H (by simp)
      ·rw[if_neg c12] at H
       exact absurd H (by simp)
     ·rw[if_neg c11] at H
      exact absurd H (by simp)
    ·rw[if_neg c10] at H
     have c10b0:(x3_1.toList==([]:List UInt8))=false:=beq_eq_false_iff_ne.mpr c10
     have c10b1:(x3_1.toList != ([]:List UInt8))=true:=bne_iff_ne.mpr c10
     obtain rfl:=Option.some.inj H
     go_wp2
     go_ret
     exact⟨by first|rfl|(simp[errW_none,errW_some]<;>rfl)|(simp[*,errW_none,errW_some]<;>rfl),by repeat (first|(with_reducible first|exact HB.out|apply zAb|apply zAa|apply zAc)|exact HB.out)⟩
mutual
def gleberef1_Print.l0:Nat→Int→Int→ByteArray→Int→Int→Int→Int→Option (ByteArray)
 |0,_,_,_,_,_,_,_=>none
 |k+1,x4,x5,x6,x7,x117000,x117001,x117002=>if x7 < 8 then(if x7=x4 then(if x6.size+2≤9223372036854775807 then(gleberef1_Print.l0 k x4 x5 (x6++(⟨#[58,58]⟩:ByteArray)) (wrap64 ((wrap64 ((wrap64 (x7+x5)) - 1))+1)) x117000 x117001 x117002) else(none)) else(if x6.toList=([]:List UInt8) then(gleberef1_Print.j1 k x4 x5 x6 x7 false x117000 x117001 x117002) else(if 0≤(wrap64 ((x6.size:Int) - 1)) then(if(wrap64 ((x6.size:Int) - 1)) < (x6.size:Int) then(gleberef1_Print.j1 k x4 x5 x6 x7 ((bt x6 (wrap64 ((x6.size:Int) - 1))) != 58) x117000 x117001 x117002) else(none)) else(none)))) else(some x6)
def gleberef1_Print.j1:Nat→Int→Int→ByteArray→Int→Bool→Int→Int→Int→Option (ByteArray)
 |0,_,_,_,_,_,_,_,_=>none
 |k+1,x4,x5,x6,x7,x65,x117000,x117001,x117002=>if x65=true then(if x6.size+1≤9223372036854775807 then((gleberef1_group.f x117001 x117002 x7).bind fun t124=>((gleberef1_hex.f k t124).bind fun t125=>(if(x6++(⟨#[58]⟩:ByteArray)).size+t125.size≤9223372036854775807 then(gleberef1_Print.l0 k x4 x5 ((x6++(⟨#[58]⟩:ByteArray))++t125) (wrap64 (x7+1)) x117000 x117001 x117002) else(none)))) else(none)) else((gleberef1_group.f x117001 x117002 x7).bind fun t126=>((gleberef1_hex.f k t126).bind fun t127=>(if x6.size+t127.size≤9223372036854775807 then(gleberef1_Print.l0 k x4 x5 (x6++t127) (wrap64 (x7+1)) x117000 x117001 x117002) else(none))))
end
def gleberef1_Print.f (k:Nat)(a0_0:Int)(a0_1:Int)(a0_2:Int):Option (ByteArray):=(gleberef1_Ok.f a0_0 a0_1 a0_2).bind fun t117=>(if t117=true then(if a0_0=4 then((gleberef1_Text.f k (a0_2 / 16777216)).bind fun t118=>(if t118.size+1≤9223372036854775807 then((gleberef1_Text.f k (Go.bits .and .u64 (a0_2 / 65536) 255)).bind fun t119=>(if(t118++(⟨#[46]⟩:ByteArray)).size+t119.size≤9223372036854775807 then(if((t118++(⟨#[46]⟩:ByteArray))++t119).size+1≤9223372036854775807 then((gleberef1_Text.f k (Go.bits .and .u64 (a0_2 / 256) 255)).bind fun t120=>(if(((t118++(⟨#[46]⟩:ByteArray))++t119)++(⟨#[46]⟩:ByteArray)).size+t120.size≤9223372036854775807 then(if((((t118++(⟨#[46]⟩:ByteArray))++t119)++(⟨#[46]⟩:ByteArray))++t120).size+1≤9223372036854775807 then((gleberef1_Text.f k (Go.bits .and .u64 a0_2 255)).bind fun t121=>(if(((((t118++(⟨#[46]⟩:ByteArray))++t119)++(⟨#[46]⟩:ByteArray))++t120)++(⟨#[46]⟩:ByteArray)).size+t121.size≤9223372036854775807 then(some ((((((t118++(⟨#[46]⟩:ByteArray))++t119)++(⟨#[46]⟩:ByteArray))++t120)++(⟨#[46]⟩:ByteArray))++t121)) else(none))) else(none)) else(none))) else(none)) else(none))) else(none))) else((gleberef1_zeros.f k a0_1 a0_2).bind fun bt122=>(gleberef1_Print.l0 k bt122.1 bt122.2 (⟨#[]⟩:ByteArray) 0 a0_0 a0_1 a0_2))) else(some (⟨#[]⟩:ByteArray)))
set_option maxRecDepth 100000 in
theorem gleberef1_Print.calls (k:Nat)(a0_0:Int)(a0_1:Int)(a0_2:Int)(r:ByteArray)(w:World)(hG:GoodW w)(h:gleberef1_Print.f k a0_0 a0_1 a0_2=some r):
  Calls Tryz.prog 58 #[.agg #[.int .i64 a0_0,.int .u64 a0_1,.int .u64 a0_2]] w fun e w'=>e=.returned (.string r)∧Below w.heap.size w w':=by
 have hu28:=Tryz.underlying28
 have hu26:=Tryz.underlying26
 have HB:=Aside0.mk (Below.refl w.heap.size w)
 have H:=h
 unfold gleberef1_Print.f at H
 clear h
 replace H:=Option.bind_eq_some_iff.mp H
 obtain⟨t117,A20,H⟩:=H
 try dsimp only at H
 have A2:=Aside0.mk A20
 clear A20
 by_cases c3:t117=true
 ·subst c3
  have H1:=H
  rw[if_pos rfl] at H1
  clear H
  have H:=H1
  clear H1
  by_cases c4:a0_0=4
  ·rw[if_pos c4] at H
   have c4b0:(a0_0==4)=true:=beq_iff_eq.mpr c4
   have c4b1:(a0_0 != 4)=false:=bne_eq_false_iff_eq.mpr c4
   clear c4
   replace H:=Option.bind_eq_some_iff.mp H
   obtain⟨t118,A50,H⟩:=H
   try dsimp only at H
   have A5:=Aside0.mk A50
   clear A50
   by_cases c6:t118.size+1≤9223372036854775807
   ·rw[if_pos c6] at H
    have c6b0:=eq_true c6
    have c6b1:=decide_eq_true c6
    try have c6b2:=eq_false (Nat.not_lt.2 c6)
    replace H:=Option.bind_eq_some_iff.mp H
    obtain⟨t119,A70,H⟩:=H
    try dsimp only at H
    have A7:=Aside0.mk A70
    clear A70
    by_cases c8:(t118++(⟨#[46]⟩:ByteArray)).size+t119.size≤9223372036854775807
    ·rw[if_pos c8] at H
     have c8b0:=eq_true c8
     have c8b1:=decide_eq_true c8
     try have c8b2:=eq_false (Nat.not_lt.2 c8)
     try have c8b3:(9223372036854775807 < t118.size+1+t119.size)=False:=eq_false (by have z_:=c8;simp only[ByteArray.size_append] at z_;exact Nat.not_lt.2 z_)
     by_cases c9:((t118++(⟨#[46]⟩:ByteArray))++t119).size+1≤9223372036854775807
     ·rw[if_pos c9] at H
      have c9b0:=eq_true c9
      have c9b1:=decide_eq_true c9
      try have c9b2:=eq_false (Nat.not_lt.2 c9)
      try have c9b3:(9223372036854775807 < t118.size+1+t119.size+1)=False:=eq_false (by have z_:=c9;simp only[ByteArray.size_append] at z_;exact Nat.not_lt.2 z_)
      replace H:=Option.bind_eq_some_iff.mp H
      obtain⟨t120,A100,H⟩:=H
      try dsimp only at H
      have A10:=Aside0.mk A100
      clear A100
      by_cases c11:(((t118++(⟨#[46]⟩:ByteArray))++t119)++(⟨#[46]⟩:ByteArray)).size+t120.size≤9223372036854775807
      ·rw[if_pos c11] at H
       have c11b0:=eq_true c11
       have c11b1:=decide_eq_true c11
       try have c11b2:=eq_false (Nat.not_lt.2 c11)
       try have c11b3:(9223372036854775807 < t118.size+1+t119.size+1+t120.size)=False:=eq_false (by have z_:=c11;simp only[ByteArray.size_append] at z_;exact Nat.not_lt.2 z_)
       by_cases c12:((((t118++(⟨#[46]⟩:ByteArray))++t119)++(⟨#[46]⟩:ByteArray))++t120).size+1≤9223372036854775807
       ·rw[if_pos c12] at H
        have c12b0:=eq_true c12
        have c12b1:=decide_eq_true c12
        try have c12b2:=eq_false (Nat.not_lt.2 c12)
        try have c12b3:(9223372036854775807 < t118.size+1+t119.size+1+t120.size+1)=False:=eq_false (by have z_:=c12;simp only[ByteArray.size_append] at z_;exact Nat.not_lt.2 z_)
        replace H:=Option.bind_eq_some_iff.mp H
        obtain⟨t121,A130,H⟩:=H
        try dsimp only at H
        have A13:=Aside0.mk A130
        clear A130
        by_cases c14:(((((t118++(⟨#[46]⟩:ByteArray))++t119)++(⟨#[46]⟩:ByteArray))++t120)++(⟨#[46]⟩:ByteArray)).size+t121.size≤9223372036854775807
        ·rw[if_pos c14] at H
         have c14b0:=eq_true c14
         have c14b1:=decide_eq_true c14
         try have c14b2:=eq_false (Nat.not_lt.2 c14)
         try have c14b3:(9223372036854775807 < t118.size+1+t119.size+1+t120.size+1+t121.size)=False:=eq_false (by have z_:=c14;simp only[ByteArray.size_append] at z_;exact Nat.not_lt.2 z_)
         obtain rfl:=Option.some.inj H
         go_enter Tryz.func58,Tryz.ntmps58
         go_wp2_with (first|((with_reducible refine zBv (N:=1) rfl ?_);(try(refine zCw (by rfl) ?_;dsimp only));refine zCr ?hg (N:=1) ?hd (cs:=#[.int .i64 a0_0,.int .u64 a0_1,.int .u64 a0_2]) (t:=28) ?hr ?_;(case hd=>rfl);(case hg=>rfl);(case hr=>first|(go_simp;done)|(go_simp;rfl));intro gb116 hg w15 hbox hb;have n0_:=Aside0.mk (zAi (by repeat (first|(with_reducible first|exact HB.out|apply zAb|apply zAa|apply zAc)|exact HB.out)) hb);have n1_:=Aside0.mk (hbox);have n2_:=Aside0.mk ((by rw[hg];exact(zAp (by repeat (first|(with_reducible first|exact HB.out|apply zAb|apply zAa|apply zAc)|exact HB.out))):w.heap.size≤gb116));have n3_:=Aside0.mk ((by rw[hg];exact(zAp (by repeat (first|(with_reducible first|exact HB.out|apply zAb|apply zAa|apply zAc)|exact HB.out))):w.heap.size≤gb116));clear HB;have HB:=n0_;have BK116:=n1_;have GW116:=n2_;have GE116:=n3_;clear n0_ n1_ n2_ n3_;clear hb hbox hg;have hcz16_0:w15.cell? ⟨gb116,0,none⟩=some (.int .i64 a0_0):=(zAq BK116.out 0).trans rfl;have hcz16_1:w15.cell? ⟨gb116,1,none⟩=some (.int .u64 a0_1):=(zAq BK116.out 1).trans rfl;have hcz16_2:w15.cell? ⟨gb116,2,none⟩=some (.int .u64 a0_2):=(zAq BK116.out 2).trans rfl;have hfz16_0:=zAj BK116.out 0;have hfz16_1:=zAj BK116.out 1;have hfz16_2:=zAj BK116.out 2)|((with_reducible refine zAu (f:=44) rfl ?_);refine zCa (some 9) rfl rfl Tryz.func44 (by kernel_rfl) rfl #[.agg #[.int .i64 a0_0,.int .u64 a0_1,.int .u64 a0_2]] rfl (by(try simp only[List.map_toArray,List.map_cons,List.map_nil]);first|done|rfl|(simp only[List.length_drop,List.length_take];rfl)) ?_;(with_reducible refine(gleberef1_Ok.calls a0_0 a0_1 a0_2 true _ ?side1 A2.out).mono ?_);(case side1=>first|exact hG|exact GoodW.below hG (by repeat (first|(with_reducible first|exact HB.out|apply zAb|apply zAa|apply zAc|refine zAg ?_ GE116.out)|exact HB.out))|(repeat (first|exact hG|apply GoodW.drewN|apply GoodW.drew)));rintro e w17 ⟨rfl,hb⟩;refine⟨_,rfl,?_⟩;have n0_:=Aside0.mk (zBr (g:=gb116) (o:=.cells #[.int .i64 a0_0,.int .u64 a0_1,.int .u64 a0_2] 28 (0,0)) (by(with_reducible repeat (first|refine zAf ?_ _|refine zAk ?_|refine zAe ?_ _));exact BK116.out) hb);have n1_:=Aside0.mk (zAi (by repeat (first|(with_reducible first|exact HB.out|apply zAb|apply zAa|apply zAc|refine zAg ?_ GE116.out)|exact HB.out)) hb);clear BK116;clear HB;have BK116:=n0_;have HB:=n1_;clear n0_ n1_;(try clear hb);(try clear hb2);(try clear hk);(try clear hi);have hcz18_0:w17.cell? ⟨gb116,0,none⟩=some (.int .i64 a0_0):=(zAq BK116.out 0).trans rfl;have hcz18_1:w17.cell? ⟨gb116,1,none⟩=some (.int .u64 a0_1):=(zAq BK116.out 1).trans rfl;have hcz18_2:w17.cell? ⟨gb116,2,none⟩=some (.int .u64 a0_2):=(zAq BK116.out 2).trans rfl;have hfz18_0:=zAj BK116.out 0;have hfz18_1:=zAj BK116.out 1;have hfz18_2:=zAj BK116.out 2)|((with_reducible refine zAu (f:=13) rfl ?_);refine zCa (some 19) rfl rfl Tryz.func13 (by kernel_rfl) rfl #[.int .u64 (a0_2 / 16777216)] rfl (by(try simp only[List.map_toArray,List.map_cons,List.map_nil]);first|done|rfl|(simp only[List.length_drop,List.length_take];rfl)) ?_;(with_reducible refine(gleberef1_Text.calls k (a0_2 / 16777216) t118 _ ?side1 A5.out).mono ?_);(case side1=>first|exact hG|exact GoodW.below hG (by repeat (first|(with_reducible first|exact HB.out|apply zAb|apply zAa|apply zAc|refine zAg ?_ GE116.out)|exact HB.out))|(repeat (first|exact hG|apply GoodW.drewN|apply GoodW.drew)));rintro e w19 ⟨rfl,hb⟩;refine⟨_,rfl,?_⟩;have n0_:=Aside0.mk (zBr (g:=gb116) (o:=.cells #[.int .i64 a0_0,.int .u64 a0_1,.int .u64 a0_2] 28 (0,0)) (by(with_reducible repeat (first|refine zAf ?_ _|refine zAk ?_|refine zAe ?_ _));exact BK116.out) hb);have n1_:=Aside0.mk (zAi (by repeat (first|(with_reducible first|exact HB.out|apply zAb|apply zAa|apply zAc|refine zAg ?_ GE116.out)|exact HB.out)) hb);clear BK116;clear HB;have BK116:=n0_;have HB:=n1_;clear n0_ n1_;(try clear hb);(try clear hb2);(try clear hk);(try clear hi))|((with_reducible refine zAu (f:=13) rfl ?_);refine zCa (some 24) rfl rfl Tryz.func13 (by kernel_rfl) rfl #[.int .u64 (Go.bits .and .u64 (a0_2 / 65536) 255)] rfl (by(try simp only[List.map_toArray,List.map_cons,List.map_nil]);first|done|rfl|(simp only[List.length_drop,List.length_take];rfl)) ?_;(with_reducible refine(gleberef1_Text.calls k (Go.bits .and .u64 (a0_2 / 65536) 255) t119 _ ?side1 A7.out).mono ?_);(case side1=>first|exact hG|exact GoodW.below hG (by repeat (first|(with_reducible first|exact HB.out|apply zAb|apply zAa|apply zAc|refine zAg ?_ GE116.out)|exact HB.out))|(repeat (first|exact hG|apply GoodW.drewN|apply GoodW.drew)));rintro e w20 ⟨rfl,hb⟩;refine⟨_,rfl,?_⟩;have n0_:=Aside0.mk (zBr (g:=gb116) (o:=.cells #[.int .i64 a0_0,.int .u64 a0_1,.int .u64 a0_2] 28 (0,0)) (by(with_reducible repeat (first|refine zAf ?_ _|refine zAk ?_|refine zAe ?_ _));exact BK116.out) hb);have n1_:=Aside0.mk (zAi (by repeat (first|(with_reducible first|exact HB.out|apply zAb|apply zAa|apply zAc|refine zAg ?_ GE116.out)|exact HB.out)) hb);clear BK116;clear HB;have BK116:=n0_;have HB:=n1_;clear n0_ n1_;(try clear hb);(try clear hb2);(try clear hk);(try clear hi))|((with_reducible refine zAu (f:=13) rfl ?_);refine zCa (some 30) rfl rfl Tryz.func13 (by kernel_rfl) rfl #[.int .u64 (Go.bits .and .u64 (a0_2 / 256) 255)] rfl (by(try simp only[List.map_toArray,List.map_cons,List.map_nil]);first|done|rfl|(simp only[List.length_drop,List.length_take];rfl)) ?_;(with_reducible refine(gleberef1_Text.calls k (Go.bits .and .u64 (a0_2 / 256) 255) t120 _ ?side1 A10.out).mono ?_);(case side1=>first|exact hG|exact GoodW.below hG (by repeat (first|(with_reducible first|exact HB.out|apply zAb|apply zAa|apply zAc|refine zAg ?_ GE116.out)|exact HB.out))|(repeat (first|exact hG|apply GoodW.drewN|apply GoodW.drew)));rintro e w21 ⟨rfl,hb⟩;refine⟨_,rfl,?_⟩;have n0_:=Aside0.mk (zBr (g:=gb116) (o:=.cells #[.int .i64 a0_0,.int .u64 a0_1,.int .u64 a0_2] 28 (0,0)) (by(with_reducible repeat (first|refine zAf ?_ _|refine zAk ?_|refine zAe ?_ _));exact BK116.out) hb);have n1_:=Aside0.mk (zAi (by repeat (first|(with_reducible first|exact HB.out|apply zAb|apply zAa|apply zAc|refine zAg ?_ GE116.out)|exact HB.out)) hb);clear BK116;clear HB;have BK116:=n0_;have HB:=n1_;clear n0_ n1_;(try clear hb);(try clear hb2);(try clear hk);(try clear hi))|((with_reducible refine zAu (f:=13) rfl ?_);refine zCa (some 35) rfl rfl Tryz.func13 (by kernel_rfl) rfl #[.int .u64 (Go.bits .and .u64 a0_2 255)] rfl (by(try simp only[List.map_toArray,List.map_cons,List.map_nil]);first|done|rfl|(simp only[List.length_drop,List.length_take];rfl)) ?_;(with_reducible refine(gleberef1_Text.calls k (Go.bits .and .u64 a0_2 255) t121 _ ?side1 A13.out).mono ?_);(case side1=>first|exact hG|exact GoodW.below hG (by repeat (first|(with_reducible first|exact HB.out|apply zAb|apply zAa|apply zAc|refine zAg ?_ GE116.out)|exact HB.out))|(repeat (first|exact hG|apply GoodW.drewN|apply GoodW.drew)));rintro e w22 ⟨rfl,hb⟩;refine⟨_,rfl,?_⟩;have n0_:=Aside0.mk (zBr (g:=gb116) (o:=.cells #[.int .i64 a0_0,.int .u64 a0_1,.int .u64 a0_2] 28 (0,0)) (by(with_reducible repeat (first|refine zAf ?_ _|refine zAk ?_|refine zAe ?_ _));exact BK116.out) hb);have n1_:=Aside0.mk (zAi (by repeat (first|(with_reducible first|exact HB.out|apply zAb|apply zAa|apply zAc|refine zAg ?_ GE116.out)|exact HB.out)) hb);clear BK116;clear HB;have BK116:=n0_;have HB:=n1_;clear n0_ n1_;(try clear hb);(try clear hb2);(try clear hk);(try clear hi)))
         go_ret
         exact⟨by first|rfl|(simp[errW_none,errW_some]<;>rfl)|(simp[*,errW_none,errW_some]<;>rfl),by repeat (first|(with_reducible first|exact HB.out|apply zAb|apply zAa|apply zAc|refine zAg ?_ GE116.out)|exact HB.out)⟩
        ·rw[if_neg c14] at H
         exact absurd H (by simp)
       ·rw[if_neg c12] at H
        exact absurd H (by simp)
      ·rw[if_neg c11] at H
       exact absurd H (by simp)
     ·rw[if_neg c9] at H
      exact absurd H (by simp)
    ·rw[if_neg c8] at H
     exact absurd H (by simp)
   ·rw[if_neg c6] at H
    exact absurd H (by simp)
  ·rw[if_neg c4] at H
   have c4b0:(a0_0==4)=false:=beq_eq_false_iff_ne.mpr c4
   have c4b1:(a0_0 != 4)=true:=bne_iff_ne.mpr c4
   replace H:=Option.bind_eq_some_iff.mp H
   obtain⟨⟨t122,t123⟩,A230,H⟩:=H
   try dsimp only at H
   have A23:=Aside0.mk A230
   clear A230
   have H':=Aside0.mk H
   clear H
   go_enter Tryz.func58,Tryz.ntmps58
   go_wp2_with (first|((with_reducible refine zBv (N:=1) rfl ?_);(try(refine zCw (by rfl) ?_;dsimp only));refine zCr ?hg (N:=1) ?hd (cs:=#[.int .i64 a0_0,.int .u64 a0_1,.int .u64 a0_2]) (t:=28) ?hr ?_;(case hd=>rfl);(case hg=>rfl);(case hr=>first|(go_simp;done)|(go_simp;rfl));intro gb116 hg w24 hbox hb;have n0_:=Aside0.mk (zAi (by repeat (first|(with_reducible first|exact HB.out|apply zAb|apply zAa|apply zAc)|exact HB.out)) hb);have n1_:=Aside0.mk (hbox);have n2_:=Aside0.mk ((by rw[hg];exact(zAp (by repeat (first|(with_reducible first|exact HB.out|apply zAb|apply zAa|apply zAc)|exact HB.out))):w.heap.size≤gb116));have n3_:=Aside0.mk ((by rw[hg];exact(zAp (by repeat (first|(with_reducible first|exact HB.out|apply zAb|apply zAa|apply zAc)|exact HB.out))):w.heap.size≤gb116));clear HB;have HB:=n0_;have BK116:=n1_;have GW116:=n2_;have GE116:=n3_;clear n0_ n1_ n2_ n3_;clear hb hbox hg;have hcz25_0:w24.cell? ⟨gb116,0,none⟩=some (.int .i64 a0_0):=(zAq BK116.out 0).trans rfl;have hcz25_1:w24.cell? ⟨gb116,1,none⟩=some (.int .u64 a0_1):=(zAq BK116.out 1).trans rfl;have hcz25_2:w24.cell? ⟨gb116,2,none⟩=some (.int .u64 a0_2):=(zAq BK116.out 2).trans rfl;have hfz25_0:=zAj BK116.out 0;have hfz25_1:=zAj BK116.out 1;have hfz25_2:=zAj BK116.out 2)|((with_reducible refine zAu (f:=44) rfl ?_);refine zCa (some 9) rfl rfl Tryz.func44 (by kernel_rfl) rfl #[.agg #[.int .i64 a0_0,.int .u64 a0_1,.int .u64 a0_2]] rfl (by(try simp only[List.map_toArray,List.map_cons,List.map_nil]);first|done|rfl|(simp only[List.length_drop,List.length_take];rfl)) ?_;(with_reducible refine(gleberef1_Ok.calls a0_0 a0_1 a0_2 true _ ?side1 A2.out).mono ?_);(case side1=>first|exact hG|exact GoodW.below hG (by repeat (first|(with_reducible first|exact HB.out|apply zAb|apply zAa|apply zAc|refine zAg ?_ GE116.out)|exact HB.out))|(repeat (first|exact hG|apply GoodW.drewN|apply GoodW.drew)));rintro e w26 ⟨rfl,hb⟩;refine⟨_,rfl,?_⟩;have n0_:=Aside0.mk (zBr (g:=gb116) (o:=.cells #[.int .i64 a0_0,.int .u64 a0_1,.int .u64 a0_2] 28 (0,0)) (by(with_reducible repeat (first|refine zAf ?_ _|refine zAk ?_|refine zAe ?_ _));exact BK116.out) hb);have n1_:=Aside0.mk (zAi (by repeat (first|(with_reducible first|exact HB.out|apply zAb|apply zAa|apply zAc|refine zAg ?_ GE116.out)|exact HB.out)) hb);clear BK116;clear HB;have BK116:=n0_;have HB:=n1_;clear n0_ n1_;(try clear hb);(try clear hb2);(try clear hk);(try clear hi);have hcz27_0:w26.cell? ⟨gb116,0,none⟩=some (.int .i64 a0_0):=(zAq BK116.out 0).trans rfl;have hcz27_1:w26.cell? ⟨gb116,1,none⟩=some (.int .u64 a0_1):=(zAq BK116.out 1).trans rfl;have hcz27_2:w26.cell? ⟨gb116,2,none⟩=some (.int .u64 a0_2):=(zAq BK116.out 2).trans rfl;have hfz27_0:=zAj BK116.out 0;have hfz27_1:=zAj BK116.out 1;have hfz27_2:=zAj BK116.out 2)|((with_reducible refine zAu (f:=80) rfl ?_);refine zCa (some 40) rfl rfl Tryz.func80 (by kernel_rfl) rfl #[.agg #[.int .u64 a0_1,.int .u64 a0_2]] rfl (by(try simp only[List.map_toArray,List.map_cons,List.map_nil]);first|done|rfl|(simp only[List.length_drop,List.length_take];rfl)) ?_;(with_reducible refine(gleberef1_zeros.calls k a0_1 a0_2 t122 t123 _ ?side1 A23.out).mono ?_);(case side1=>first|exact hG|exact GoodW.below hG (by repeat (first|(with_reducible first|exact HB.out|apply zAb|apply zAa|apply zAc|refine zAg ?_ GE116.out)|exact HB.out))|(repeat (first|exact hG|apply GoodW.drewN|apply GoodW.drew)));rintro e w28 ⟨rfl,hb⟩;refine⟨_,rfl,?_⟩;have n0_:=Aside0.mk (zBr (g:=gb116) (o:=.cells #[.int .i64 a0_0,.int .u64 a0_1,.int .u64 a0_2] 28 (0,0)) (by(with_reducible repeat (first|refine zAf ?_ _|refine zAk ?_|refine zAe ?_ _));exact BK116.out) hb);have n1_:=Aside0.mk (zAi (by repeat (first|(with_reducible first|exact HB.out|apply zAb|apply zAa|apply zAc|refine zAg ?_ GE116.out)|exact HB.out)) hb);clear BK116;clear HB;have BK116:=n0_;have HB:=n1_;clear n0_ n1_;(try clear hb);(try clear hb2);(try clear hk);(try clear hi)))
   go_loopg [6,7] k (fun kq v6 v7 w'=>∃ (x6_1:ByteArray) (x7_1:Int),v6=.string x6_1∧v7=.int .i64 x7_1∧Aside0 (gleberef1_Print.l0 kq t122 t123 x6_1 x7_1 a0_0 a0_1 a0_2=some r)∧Aside0 (kq≤k)∧Aside0 (w'.heap[gb116]?=some (.cells #[.int .i64 a0_0,.int .u64 a0_1,.int .u64 a0_2] 28 (0,0)))∧Aside0 (Below w.heap.size w w'))
   case atStart=>exact⟨((⟨#[]⟩:ByteArray)),(0),(by first|rfl|(simp;done)|(simp[*];done)),(by first|rfl|(simp;done)|(simp[*];done)),H',⟨Nat.le_refl _⟩,⟨by(with_reducible repeat (first|refine zAf ?_ _|refine zAk ?_|refine zAe ?_ _));exact BK116.out⟩,⟨by repeat (first|(with_reducible first|exact HB.out|apply zAb|apply zAa|apply zAc|refine zAg ?_ GE116.out)|exact HB.out)⟩⟩
   case round=>
    clear H'
    try clear c1
    try clear p2
    try clear c3
    try clear c4
    try clear c4b0
    try clear c4b1
    try clear c5
    try clear c6
    try clear c6b0
    try clear c6b1
    try clear c6b2
    try clear c8
    try clear c8b0
    try clear c8b1
    try clear c8b2
    try clear c8b3
    try clear c9
    try clear c9b0
    try clear c9b1
    try clear c9b2
    try clear c9b3
    try clear c11
    try clear c11b0
    try clear c11b1
    try clear c11b2
    try clear c11b3
    try clear c12
    try clear c12b0
    try clear c12b1
    try clear c12b2
    try clear c12b3
    try clear c13
    try clear c14
    try clear c14b0
    try clear c14b1
    try clear c14b2
    try clear c14b3
    try clear hcz16_0
    try clear hcz16_1
    try clear hcz16_2
    try clear hcz18_0
    try clear hcz18_1
    try clear hcz18_2
    try clear hcz25_0
    try clear hcz25_1
    try clear hcz25_2
    try clear hcz27_0
    try clear hcz27_1
    try clear hcz27_2
    try clear hfz16_0
    try clear hfz16_1
    try clear hfz16_2
    try clear hfz18_0
    try clear hfz18_1
    try clear hfz18_2
    try clear hfz25_0
    try clear hfz25_1
    try clear hfz25_2
    try clear hfz27_0
    try clear hfz27_1
    try clear hfz27_2
    obtain⟨x6_1,x7_1,rfl,rfl,HA,HK1,BK116,HB⟩:=hrel
    cases gk with
    |zero=>exact absurd HA.out (by simp[gleberef1_Print.l0])
    |succ k1=>
     have H:=HA.out
     clear HA
     simp only[gleberef1_Print.l0] at H
     by_cases c29:x7_1 < 8
     ·rw[if_pos c29] at H
      have c29b0:=decide_eq_true c29
      clear c29
      by_cases c30:x7_1=t122
      ·rw[if_pos c30] at H
       have c30b0:(x7_1==t122)=true:=beq_iff_eq.mpr c30
       have c30b1:(x7_1 != t122)=false:=bne_eq_false_iff_eq.mpr c30
       clear c30
       by_cases c31:x6_1.size+2≤9223372036854775807
       ·rw[if_pos c31] at H
        have c31b0:=eq_true c31
        have c31b1:=decide_eq_true c31
        try have c31b2:=eq_false (Nat.not_lt.2 c31)
        have H':=Aside0.mk H
        clear H
        go_wp2
        go_roundg k1
        case measure=>have:=HK1.out;omega
        case rel=>exact⟨(x6_1++(⟨#[58,58]⟩:ByteArray)),(wrap64 ((wrap64 ((wrap64 (x7_1+t123)) - 1))+1)),(by first|rfl|(simp;done)|(simp[*];done)),(by first|rfl|(simp;done)|(simp[*];done)),H',⟨by have:=HK1.out;omega⟩,⟨by(with_reducible repeat (first|refine zAf ?_ _|refine zAk ?_|refine zAe ?_ _));exact BK116.out⟩,⟨by repeat (first|(with_reducible first|exact HB.out|apply zAb|apply zAa|apply zAc|refine zAg ?_ GE116.out)|exact HB.out)⟩⟩
       ·rw[if_neg c31] at H
        exact absurd H (by simp)
      ·rw[if_neg c30] at H
       have c30b0:(x7_1==t122)=false:=beq_eq_false_iff_ne.mpr c30
       have c30b1:(x7_1 != t122)=true:=bne_iff_ne.mpr c30
       have HC32:=Aside0.mk H
       clear H
       go_upto_region 14 with(fail)
       go_cut [65] (fun v65 wc=>∃ (kq:Nat) (x65_31:Bool),v65=.bool x65_31∧Aside0 (gleberef1_Print.j1 kq t122 t123 x6_1 x7_1 x65_31 a0_0 a0_1 a0_2=some r)∧Aside0 (kq≤k1)∧Aside0 (wc.heap[gb116]?=some (.cells #[.int .i64 a0_0,.int .u64 a0_1,.int .u64 a0_2] 28 (0,0)))∧Aside0 (Below w.heap.size w wc))
       case first=>
        have H:=HC32.out
        clear HC32
        by_cases c33:x6_1.toList=([]:List UInt8)
        ·rw[if_pos c33] at H
         have c33b0:(x6_1.toList==([]:List UInt8))=true:=beq_iff_eq.mpr c33
         have c33b1:(x6_1.toList != ([]:List UInt8))=false:=bne_eq_false_iff_eq.mpr c33
         clear c33
         (first|rw[c33b0]|(simp only[zG1,zIy];rw[c33b0])|skip)
         have H':=Aside0.mk H
         clear H
         go_wp2
         go_meet
         case rel=>exact⟨_,(false),(by first|rfl|(simp;done)|(simp[*];done)),H',⟨by have:=HK1.out;first|omega|exact Nat.le_refl _⟩,⟨by(with_reducible repeat (first|refine zAf ?_ _|refine zAk ?_|refine zAe ?_ _));exact BK116.out⟩,⟨by repeat (first|(with_reducible first|exact HB.out|apply zAb|apply zAa|apply zAc|refine zAg ?_ GE116.out)|exact HB.out)⟩⟩
        ·rw[if_neg c33] at H
         have c33b0:(x6_1.toList==([]:List UInt8))=false:=beq_eq_false_iff_ne.mpr c33
         have c33b1:(x6_1.toList != ([]:List UInt8))=true:=bne_iff_ne.mpr c33
         (first|rw[c33b0]|(simp only[zG1,zIy];rw[c33b0])|skip)
         obtain⟨ji34,hji34⟩:∃ j_:Int,(wrap64 ((x6_1.size:Int) - 1))=j_:=⟨_,rfl⟩
         replace H:(if 0≤(ji34) then(if(ji34) < (x6_1.size:Int) then(gleberef1_Print.j1 k1 t122 t123 x6_1 x7_1 ((bt x6_1 (ji34)) != 58) a0_0 a0_1 a0_2) else(none)) else(none))=some r:=by first|(rw[hji34] at H;exact H)|(simp only[hji34] at H ⊢;exact H)
         have hji34w:(IntKind.i64.wrap ((x6_1.size:Int) - 1))=ji34:=(zG1 _).trans hji34
         by_cases c35:0≤(ji34)
         ·rw[if_pos c35] at H
          have c35b0:=decide_eq_true c35
          clear c35
          by_cases c36:(ji34) < (x6_1.size:Int)
          ·rw[if_pos c36] at H
           have c36b0:=decide_eq_true c36
           clear c36
           have H':=Aside0.mk H
           clear H
           have p37:0≤((ji34):Int):=of_decide_eq_true (by first|(with_reducible assumption)|assumption)
           have q37:(ji34) < (x6_1.size:Int):=of_decide_eq_true (by first|(with_reducible assumption)|assumption)
           have hx37:=zD2 x6_1 (ji34)
           replace p37:=eq_true p37
           replace q37:=eq_true q37
           go_wp2
           go_meet
           case rel=>exact⟨_,(((bt x6_1 (ji34)) != 58)),(by first|rfl|(simp;done)|(simp only[← hji34]<;>(first|rfl|simp))|(simp[*];done)),H',⟨by have:=HK1.out;first|omega|exact Nat.le_refl _⟩,⟨by(with_reducible repeat (first|refine zAf ?_ _|refine zAk ?_|refine zAe ?_ _));exact BK116.out⟩,⟨by repeat (first|(with_reducible first|exact HB.out|apply zAb|apply zAa|apply zAc|refine zAg ?_ GE116.out)|exact HB.out)⟩⟩
          ·rw[if_neg c36] at H
           exact absurd H (by simp)
         ·rw[if_neg c35] at H
          exact absurd H (by simp)
       case rest=>
        clear HC32
        try clear c1
        try clear c2
        try clear p2
        try clear c3
        try clear p3
        try clear q3
        try clear hx3
        try clear c4
        try clear c4b0
        try clear c4b1
        try clear c5
        try clear c6
        try clear c6b0
        try clear c6b1
        try clear c6b2
        try clear p6
        try clear c8
        try clear c8b0
        try clear c8b1
        try clear c8b2
        try clear c8b3
        try clear c9
        try clear c9b0
        try clear c9b1
        try clear c9b2
        try clear c9b3
        try clear c11
        try clear c11b0
        try clear c11b1
        try clear c11b2
        try clear c11b3
        try clear c12
        try clear c12b0
        try clear c12b1
        try clear c12b2
        try clear c12b3
        try clear c13
        try clear c14
        try clear c14b0
        try clear c14b1
        try clear c14b2
        try clear c14b3
        try clear c29
        try clear c29b0
        try clear c30
        try clear c30b0
        try clear c30b1
        try clear c31
        try clear c31b0
        try clear c31b1
        try clear c31b2
        try clear c33
        try clear c33b0
        try clear c33b1
        try clear c35
        try clear c35b0
        try clear c36
        try clear c36b0
        try clear p37
        try clear q37
        try clear hx37
        try clear hcz16_0
        try clear hcz16_1
        try clear hcz16_2
        try clear hcz18_0
        try clear hcz18_1
        try clear hcz18_2
        try clear hcz25_0
        try clear hcz25_1
        try clear hcz25_2
        try clear hcz27_0
        try clear hcz27_1
        try clear hcz27_2
        try clear hfz16_0
        try clear hfz16_1
        try clear hfz16_2
        try clear hfz18_0
        try clear hfz18_1
        try clear hfz18_2
        try clear hfz25_0
        try clear hfz25_1
        try clear hfz25_2
        try clear hfz27_0
        try clear hfz27_1
        try clear hfz27_2
        try clear p2
        try clear p37
        try clear q37
        obtain⟨kq,x65_31,rfl,HA,HJ31,BK116,HB⟩:=hcut
        cases kq with
        |zero=>exact absurd HA.out (by simp[gleberef1_Print.j1])
        |succ kj31=>
         have H:=HA.out
         clear HA
         simp only[gleberef1_Print.j1] at H
         by_cases c38:x65_31=true
         ·subst c38
          have H1:=H
          rw[if_pos rfl] at H1
          clear H
          have H:=H1
          clear H1
          by_cases c39:x6_1.size+1≤9223372036854775807
          ·rw[if_pos c39] at H
           have c39b0:=eq_true c39
           have c39b1:=decide_eq_true c39
           try have c39b2:=eq_false (Nat.not_lt.2 c39)
           replace H:=Option.bind_eq_some_iff.mp H
           obtain⟨t124,A400,H⟩:=H
           try dsimp only at H
           have A40:=Aside0.mk A400
           clear A400
           replace H:=Option.bind_eq_some_iff.mp H
           obtain⟨t125,A410,H⟩:=H
           try dsimp only at H
           have A41:=Aside0.mk A410
           clear A410
           by_cases c42:(x6_1++(⟨#[58]⟩:ByteArray)).size+t125.size≤9223372036854775807
           ·rw[if_pos c42] at H
            have c42b0:=eq_true c42
            have c42b1:=decide_eq_true c42
            try have c42b2:=eq_false (Nat.not_lt.2 c42)
            try have c42b3:(9223372036854775807 < x6_1.size+1+t125.size)=False:=eq_false (by have z_:=c42;simp only[ByteArray.size_append] at z_;exact Nat.not_lt.2 z_)
            have H':=Aside0.mk H
            clear H
            have hcz43_0:wc.cell? ⟨gb116,0,none⟩=some (.int .i64 a0_0):=(zAq BK116.out 0).trans rfl
            have hcz43_1:wc.cell? ⟨gb116,1,none⟩=some (.int .u64 a0_1):=(zAq BK116.out 1).trans rfl
            have hcz43_2:wc.cell? ⟨gb116,2,none⟩=some (.int .u64 a0_2):=(zAq BK116.out 2).trans rfl
            have hfz43_0:=zAj BK116.out 0
            have hfz43_1:=zAj BK116.out 1
            have hfz43_2:=zAj BK116.out 2
            go_wp2_with (first|((with_reducible refine zAu (f:=82) rfl ?_);refine zCa (some 72) rfl rfl Tryz.func82 (by kernel_rfl) rfl #[.agg #[.int .u64 a0_1,.int .u64 a0_2],.int .i64 x7_1] rfl (by(try simp only[List.map_toArray,List.map_cons,List.map_nil]);first|done|rfl|(simp only[List.length_drop,List.length_take];rfl)) ?_;(with_reducible refine(gleberef1_group.calls a0_1 a0_2 x7_1 t124 _ ?side1 A40.out).mono ?_);(case side1=>first|exact hG|exact GoodW.below hG (by repeat (first|(with_reducible first|exact HB.out|apply zAb|apply zAa|apply zAc|refine zAg ?_ GE116.out)|exact HB.out))|(repeat (first|exact hG|apply GoodW.drewN|apply GoodW.drew)));rintro e w44 ⟨rfl,hb⟩;refine⟨_,rfl,?_⟩;have n0_:=Aside0.mk (zBr (g:=gb116) (o:=.cells #[.int .i64 a0_0,.int .u64 a0_1,.int .u64 a0_2] 28 (0,0)) (by(with_reducible repeat (first|refine zAf ?_ _|refine zAk ?_|refine zAe ?_ _));exact BK116.out) hb);have n1_:=Aside0.mk (zAi (by repeat (first|(with_reducible first|exact HB.out|apply zAb|apply zAa|apply zAc|refine zAg ?_ GE116.out)|exact HB.out)) hb);clear BK116;clear HB;have BK116:=n0_;have HB:=n1_;clear n0_ n1_;(try clear hb);(try clear hb2);(try clear hk);(try clear hi))|((with_reducible refine zAu (f:=81) rfl ?_);refine zCa (some 73) rfl rfl Tryz.func81 (by kernel_rfl) rfl #[.int .u64 t124] rfl (by(try simp only[List.map_toArray,List.map_cons,List.map_nil]);first|done|rfl|(simp only[List.length_drop,List.length_take];rfl)) ?_;(with_reducible refine(gleberef1_hex.calls kj31 t124 t125 _ ?side1 A41.out).mono ?_);(case side1=>first|exact hG|exact GoodW.below hG (by repeat (first|(with_reducible first|exact HB.out|apply zAb|apply zAa|apply zAc|refine zAg ?_ GE116.out)|exact HB.out))|(repeat (first|exact hG|apply GoodW.drewN|apply GoodW.drew)));rintro e w45 ⟨rfl,hb⟩;refine⟨_,rfl,?_⟩;have n0_:=Aside0.mk (zBr (g:=gb116) (o:=.cells #[.int .i64 a0_0,.int .u64 a0_1,.int .u64 a0_2] 28 (0,0)) (by(with_reducible repeat (first|refine zAf ?_ _|refine zAk ?_|refine zAe ?_ _));exact BK116.out) hb);have n1_:=Aside0.mk (zAi (by repeat (first|(with_reducible first|exact HB.out|apply zAb|apply zAa|apply zAc|refine zAg ?_ GE116.out)|exact HB.out)) hb);clear BK116;clear HB;have BK116:=n0_;have HB:=n1_;clear n0_ n1_;(try clear hb);(try clear hb2);(try clear hk);(try clear hi)))
            go_roundg kj31
            case measure=>have:=HK1.out;have:=HJ31.out;omega
            case rel=>exact⟨((x6_1++(⟨#[58]⟩:ByteArray))++t125),(wrap64 (x7_1+1)),(by first|rfl|(simp;done)|(simp[*];done)),(by first|rfl|(simp;done)|(simp[*];done)),H',⟨by have:=HK1.out;have:=HJ31.out;omega⟩,⟨by(with_reducible repeat (first|refine zAf ?_ _|refine zAk ?_|refine zAe ?_ _));exact BK116.out⟩,⟨by repeat (first|(with_reducible first|exact HB.out|apply zAb|apply zAa|apply zAc|refine zAg ?_ GE116.out)|exact HB.out)⟩⟩
           ·rw[if_neg c42] at H
            exact absurd H (by simp)
          ·rw[if_neg c39] at H
           exact absurd H (by simp)
         ·replace c38:=Bool.eq_false_iff.mpr c38
          subst c38
          have H1:((gleberef1_group.f a0_1 a0_2 x7_1).bind fun t126=>((gleberef1_hex.f kj31 t126).bind fun t127=>(if x6_1.size+t127.size≤9223372036854775807 then(gleberef1_Print.l0 kj31 t122 t123 (x6_1++t127) (wrap64 (x7_1+1)) a0_0 a0_1 a0_2) else(none))))=some r:=by rw[if_neg (show ¬ (false=true) by decide)] at H;exact H
          clear H
          have H:=H1
          clear H1
          replace H:=Option.bind_eq_some_iff.mp H
          obtain⟨t126,A460,H⟩:=H
          try dsimp only at H
          have A46:=Aside0.mk A460
          clear A460
          replace H:=Option.bind_eq_some_iff.mp H
          obtain⟨t127,A470,H⟩:=H
          try dsimp only at H
          have A47:=Aside0.mk A470
          clear A470
          by_cases c48:x6_1.size+t127.size≤9223372036854775807
          ·rw[if_pos c48] at H
           have c48b0:=eq_true c48
           have c48b1:=decide_eq_true c48
           try have c48b2:=eq_false (Nat.not_lt.2 c48)
           have H':=Aside0.mk H
           clear H
           have hcz49_0:wc.cell? ⟨gb116,0,none⟩=some (.int .i64 a0_0):=(zAq BK116.out 0).trans rfl
           have hcz49_1:wc.cell? ⟨gb116,1,none⟩=some (.int .u64 a0_1):=(zAq BK116.out 1).trans rfl
           have hcz49_2:wc.cell? ⟨gb116,2,none⟩=some (.int .u64 a0_2):=(zAq BK116.out 2).trans rfl
           have hfz49_0:=zAj BK116.out 0
           have hfz49_1:=zAj BK116.out 1
           have hfz49_2:=zAj BK116.out 2
           go_wp2_with (first|((with_reducible refine zAu (f:=82) rfl ?_);refine zCa (some 72) rfl rfl Tryz.func82 (by kernel_rfl) rfl #[.agg #[.int .u64 a0_1,.int .u64 a0_2],.int .i64 x7_1] rfl (by(try simp only[List.map_toArray,List.map_cons,List.map_nil]);first|done|rfl|(simp only[List.length_drop,List.length_take];rfl)) ?_;(with_reducible refine(gleberef1_group.calls a0_1 a0_2 x7_1 t126 _ ?side1 A46.out).mono ?_);(case side1=>first|exact hG|exact GoodW.below hG (by repeat (first|(with_reducible first|exact HB.out|apply zAb|apply zAa|apply zAc|refine zAg ?_ GE116.out)|exact HB.out))|(repeat (first|exact hG|apply GoodW.drewN|apply GoodW.drew)));rintro e w50 ⟨rfl,hb⟩;refine⟨_,rfl,?_⟩;have n0_:=Aside0.mk (zBr (g:=gb116) (o:=.cells #[.int .i64 a0_0,.int .u64 a0_1,.int .u64 a0_2] 28 (0,0)) (by(with_reducible repeat (first|refine zAf ?_ _|refine zAk ?_|refine zAe ?_ _));exact BK116.out) hb);have n1_:=Aside0.mk (zAi (by repeat (first|(with_reducible first|exact HB.out|apply zAb|apply zAa|apply zAc|refine zAg ?_ GE116.out)|exact HB.out)) hb);clear BK116;clear HB;have BK116:=n0_;have HB:=n1_;clear n0_ n1_;(try clear hb);(try clear hb2);(try clear hk);(try clear hi))|((with_reducible refine zAu (f:=81) rfl ?_);refine zCa (some 73) rfl rfl Tryz.func81 (by kernel_rfl) rfl #[.int .u64 t126] rfl (by(try simp only[List.map_toArray,List.map_cons,List.map_nil]);first|done|rfl|(simp only[List.length_drop,List.length_take];rfl)) ?_;(with_reducible refine(gleberef1_hex.calls kj31 t126 t127 _ ?side1 A47.out).mono ?_);(case side1=>first|exact hG|exact GoodW.below hG (by repeat (first|(with_reducible first|exact HB.out|apply zAb|apply zAa|apply zAc|refine zAg ?_ GE116.out)|exact HB.out))|(repeat (first|exact hG|apply GoodW.drewN|apply GoodW.drew)));rintro e w51 ⟨rfl,hb⟩;refine⟨_,rfl,?_⟩;have n0_:=Aside0.mk (zBr (g:=gb116) (o:=.cells #[.int .i64 a0_0,.int .u64 a0_1,.int .u64 a0_2] 28 (0,0)) (by(with_reducible repeat (first|refine zAf ?_ _|refine zAk ?_|refine zAe ?_ _));exact BK116.out) hb);have n1_:=Aside0.mk (zAi (by repeat (first|(with_reducible first|exact HB.out|apply zAb|apply zAa|apply zAc|refine zAg ?_ GE116.out)|exact HB.out)) hb);clear BK116;clear HB;have BK116:=n0_;have HB:=n1_;clear n0_ n1_;(try clear hb);(try clear hb2);(try clear hk);(try clear hi)))
           go_roundg kj31
           case measure=>have:=HK1.out;have:=HJ31.out;omega
           case rel=>exact⟨(x6_1++t127),(wrap64 (x7_1+1)),(by first|rfl|(simp;done)|(simp[*];done)),(by first|rfl|(simp;done)|(simp[*];done)),H',⟨by have:=HK1.out;have:=HJ31.out;omega⟩,⟨by(with_reducible repeat (first|refine zAf ?_ _|refine zAk ?_|refine zAe ?_ _));exact BK116.out⟩,⟨by repeat (first|(with_reducible first|exact HB.out|apply zAb|apply zAa|apply zAc|refine zAg ?_ GE116.out)|exact HB.out)⟩⟩
          ·rw[if_neg c48] at H
           exact absurd H (by simp)
     ·rw[if_neg c29] at H
      have c29b0:decide (x7_1 < 8)=false:=decide_eq_false c29
      clear c29
      obtain rfl:=Option.some.inj H
      go_wp2
      go_ret
      exact⟨by first|rfl|(simp[errW_none,errW_some]<;>rfl)|(simp[*,errW_none,errW_some]<;>rfl),by repeat (first|(with_reducible first|exact HB.out|apply zAb|apply zAa|apply zAc|refine zAg ?_ GE116.out)|exact HB.out)⟩
 ·replace c3:=Bool.eq_false_iff.mpr c3
  subst c3
  have H1:(some (⟨#[]⟩:ByteArray))=some r:=by rw[if_neg (show ¬ (false=true) by decide)] at H;exact H
  clear H
  have H:=H1
  clear H1
  obtain rfl:=Option.some.inj H
  go_enter Tryz.func58,Tryz.ntmps58
  go_wp2_with (first|((with_reducible refine zBv (N:=1) rfl ?_);(try(refine zCw (by rfl) ?_;dsimp only));refine zCr ?hg (N:=1) ?hd (cs:=#[.int .i64 a0_0,.int .u64 a0_1,.int .u64 a0_2]) (t:=28) ?hr ?_;(case hd=>rfl);(case hg=>rfl);(case hr=>first|(go_simp;done)|(go_simp;rfl));intro gb116 hg w52 hbox hb;have n0_:=Aside0.mk (zAi (by repeat (first|(with_reducible first|exact HB.out|apply zAb|apply zAa|apply zAc)|exact HB.out)) hb);have n1_:=Aside0.mk (hbox);have n2_:=Aside0.mk ((by rw[hg];exact(zAp (by repeat (first|(with_reducible first|exact HB.out|apply zAb|apply zAa|apply zAc)|exact HB.out))):w.heap.size≤gb116));have n3_:=Aside0.mk ((by rw[hg];exact(zAp (by repeat (first|(with_reducible first|exact HB.out|apply zAb|apply zAa|apply zAc)|exact HB.out))):w.heap.size≤gb116));clear HB;have HB:=n0_;have BK116:=n1_;have GW116:=n2_;have GE116:=n3_;clear n0_ n1_ n2_ n3_;clear hb hbox hg;have hcz53_0:w52.cell? ⟨gb116,0,none⟩=some (.int .i64 a0_0):=(zAq BK116.out 0).trans rfl;have hcz53_1:w52.cell? ⟨gb116,1,none⟩=some (.int .u64 a0_1):=(zAq BK116.out 1).trans rfl;have hcz53_2:w52.cell? ⟨gb116,2,none⟩=some (.int .u64 a0_2):=(zAq BK116.out 2).trans rfl;have hfz53_0:=zAj BK116.out 0;have hfz53_1:=zAj BK116.out 1;have hfz53_2:=zAj BK116.out 2)|((with_reducible refine zAu (f:=44) rfl ?_);refine zCa (some 9) rfl rfl Tryz.func44 (by kernel_rfl) rfl #[.agg #[.int .i64 a0_0,.int .u64 a0_1,.int .u64 a0_2]] rfl (by(try simp only[List.map_toArray,List.map_cons,List.map_nil]);first|done|rfl|(simp only[List.length_drop,List.length_take];rfl)) ?_;(with_reducible refine(gleberef1_Ok.calls a0_0 a0_1 a0_2 false _ ?side1 A2.out).mono ?_);(case side1=>first|exact hG|exact GoodW.below hG (by repeat (first|(with_reducible first|exact HB.out|apply zAb|apply zAa|apply zAc|refine zAg ?_ GE116.out)|exact HB.out))|(repeat (first|exact hG|apply GoodW.drewN|apply GoodW.drew)));rintro e w54 ⟨rfl,hb⟩;refine⟨_,rfl,?_⟩;have n0_:=Aside0.mk (zBr (g:=gb116) (o:=.cells #[.int .i64 a0_0,.int .u64 a0_1,.int .u64 a0_2] 28 (0,0)) (by(with_reducible repeat (first|refine zAf ?_ _|refine zAk ?_|refine zAe ?_ _));exact BK116.out) hb);have n1_:=Aside0.mk (zAi (by repeat (first|(with_reducible first|exact HB.out|apply zAb|apply zAa|apply zAc|refine zAg ?_ GE116.out)|exact HB.out)) hb);clear BK116;clear HB;have BK116:=n0_;have HB:=n1_;clear n0_ n1_;(try clear hb);(try clear hb2);(try clear hk);(try clear hi)))
  go_ret
  exact⟨by first|rfl|(simp[errW_none,errW_some]<;>rfl)|(simp[*,errW_none,errW_some]<;>rfl),by repeat (first|(with_reducible first|exact HB.out|apply zAb|apply zAa|apply zAc|refine zAg ?_ GE116.out)|exact HB.out)⟩
mutual
def glebelaw2_Text.l0:Nat→Int→List Int→ByteArray→List ByteArray→Int→Option (ByteArray)
 |0,_,_,_,_,_=>none
 |k+1,x0,x3,x9,x10,x11=>if x11 < (x3.length:Int) then(glebelaw2_Text.j1 k x0 x3 x9 x10 x11 (decide (x11 < 12))) else(glebelaw2_Text.j1 k x0 x3 x9 x10 x11 false)
def glebelaw2_Text.j1:Nat→Int→List Int→ByteArray→List ByteArray→Int→Bool→Option (ByteArray)
 |0,_,_,_,_,_,_=>none
 |k+1,x0,x3,x9,x10,x11,x26=>if x26=true then(if 0≤x11 then(if x11 < (x3.length:Int) then(if(wrap64 ((x9.size:Int)+1))=0 then(none) else(if(Go.bits .and .i64 (x0 / 1048576) 3)=0 then(glebelaw2_Text.j2 k x0 x3 x9 x10 x11 (x9.size:Int)) else(glebelaw2_Text.j2 k x0 x3 x9 x10 x11 (Int.tmod (Go.bits .and .i64 ((rd x3 x11) / 256) 255) (wrap64 ((x9.size:Int)+1)))))) else(none)) else(none)) else(some x9)
def glebelaw2_Text.j2:Nat→Int→List Int→ByteArray→List ByteArray→Int→Int→Option (ByteArray)
 |0,_,_,_,_,_,_=>none
 |k+1,x0,x3,x9,x10,x11,x12=>if 0≤x12 then(if x12≤(x9.size:Int) then(if 0≤x11 then(if x11 < (x3.length:Int) then(if(x10.length:Int)=0 then(none) else(if 0≤(Int.tmod (Go.bits .and .i64 (rd x3 x11) 255) (x10.length:Int)) then(if(Int.tmod (Go.bits .and .i64 (rd x3 x11) 255) (x10.length:Int)) < (x10.length:Int) then(if(x9.extract 0 (x12:Int).toNat).size+(zB5 ByteArray.empty x10 (Int.tmod (Go.bits .and .i64 (rd x3 x11) 255) (x10.length:Int))).size≤9223372036854775807 then(if(wrap64 ((wrap64 ((x9.size:Int) - x12))+1))=0 then(none) else(if 0≤(wrap64 (x12+(Int.tmod (Go.bits .and .i64 ((rd x3 x11) / 65536) 1) (wrap64 ((wrap64 ((x9.size:Int) - x12))+1))))) then(if(wrap64 (x12+(Int.tmod (Go.bits .and .i64 ((rd x3 x11) / 65536) 1) (wrap64 ((wrap64 ((x9.size:Int) - x12))+1)))))≤(x9.size:Int) then(if((x9.extract 0 (x12:Int).toNat)++(zB5 ByteArray.empty x10 (Int.tmod (Go.bits .and .i64 (rd x3 x11) 255) (x10.length:Int)))).size+(x9.extract ((wrap64 (x12+(Int.tmod (Go.bits .and .i64 ((rd x3 x11) / 65536) 1) (wrap64 ((wrap64 ((x9.size:Int) - x12))+1))))):Int).toNat x9.size).size≤9223372036854775807 then(glebelaw2_Text.l0 k x0 x3 (((x9.extract 0 (x12:Int).toNat)++(zB5 ByteArray.empty x10 (Int.tmod (Go.bits .and .i64 (rd x3 x11) 255) (x10.length:Int))))++(x9.extract ((wrap64 (x12+(Int.tmod (Go.bits .and .i64 ((rd x3 x11) / 65536) 1) (wrap64 ((wrap64 ((x9.size:Int) - x12))+1))))):Int).toNat x9.size)) x10 (wrap64 (x11+1))) else(none)) else(none)) else(none))) else(none)) else(none)) else(none))) else(none)) else(none)) else(none)) else(none)
end
def glebelaw2_Text.f (k:Nat)(a0:Int)(a1:Int)(a2:Int)(l3:List Int):Option (ByteArray):=(glebelaw2_Addr.f a0 a1 a2).bind fun bt128=>((gleberef1_Print.f k bt128.1 bt128.2.1 bt128.2.2).bind fun t131=>(glebelaw2_Text.l0 k a0 l3 t131 (([(⟨#[58]⟩:ByteArray),(⟨#[58,58]⟩:ByteArray),(⟨#[46]⟩:ByteArray),(⟨#[48]⟩:ByteArray),(⟨#[49]⟩:ByteArray),(⟨#[102,102,102,102]⟩:ByteArray),(⟨#[49,50,51,52,53]⟩:ByteArray),(⟨#[103]⟩:ByteArray),(⟨#[50,53,53]⟩:ByteArray),(⟨#[50,53,54]⟩:ByteArray),(⟨#[48,49]⟩:ByteArray),(⟨#[49,48,46,48,46,48,46,49]⟩:ByteArray),(⟨#[65]⟩:ByteArray),(⟨#[49,46,50,46,51]⟩:ByteArray),(⟨#[47]⟩:ByteArray),(⟨#[32]⟩:ByteArray)]:List ByteArray)) 0))
set_option maxRecDepth 100000 in
theorem glebelaw2_Text.calls (k:Nat)(a0:Int)(a1:Int)(a2:Int)(A3:Option Addr)(c3:Nat)(l3:List Int)(r:ByteArray)(w:World)(hr3:Kd.C (Kd.int .i64) w A3 l3.length l3)(hc3:l3.length≤c3)(hG:GoodW w)(h:glebelaw2_Text.f k a0 a1 a2 l3=some r):
  Calls Tryz.prog 12 #[.int .i64 a0,.int .u64 a1,.int .u64 a2,.slice A3 l3.length c3] w fun e w'=>e=.returned (.string r)∧Below w.heap.size w w':=by
 have HR3:=Aside0.mk hr3
 have HC3:=Aside0.mk hc3
 clear hr3 hc3
 have HB:=Aside0.mk (Below.refl w.heap.size w)
 have H:=h
 unfold glebelaw2_Text.f at H
 clear h
 replace H:=Option.bind_eq_some_iff.mp H
 obtain⟨⟨t128,t129,t130⟩,A50,H⟩:=H
 try dsimp only at H
 have A5:=Aside0.mk A50
 clear A50
 replace H:=Option.bind_eq_some_iff.mp H
 obtain⟨t131,A60,H⟩:=H
 try dsimp only at H
 have A6:=Aside0.mk A60
 clear A60
 obtain⟨y132,hy132⟩:∃ y_:List ByteArray,y_=(([(⟨#[58]⟩:ByteArray),(⟨#[58,58]⟩:ByteArray),(⟨#[46]⟩:ByteArray),(⟨#[48]⟩:ByteArray),(⟨#[49]⟩:ByteArray),(⟨#[102,102,102,102]⟩:ByteArray),(⟨#[49,50,51,52,53]⟩:ByteArray),(⟨#[103]⟩:ByteArray),(⟨#[50,53,53]⟩:ByteArray),(⟨#[50,53,54]⟩:ByteArray),(⟨#[48,49]⟩:ByteArray),(⟨#[49,48,46,48,46,48,46,49]⟩:ByteArray),(⟨#[65]⟩:ByteArray),(⟨#[49,46,50,46,51]⟩:ByteArray),(⟨#[47]⟩:ByteArray),(⟨#[32]⟩:ByteArray)]:List ByteArray)):=⟨_,rfl⟩
 replace H:(glebelaw2_Text.l0 k a0 l3 t131 y132 0)=some r:=by first|(rw[hy132];with_reducible exact H)|(have H2_:=(Option.bind_some _ _).symm.trans H;rw[hy132];with_reducible exact H2_)|(have H2_:=(Option.bind_some _ _).symm.trans H;with_reducible exact H2_)|with_reducible exact H|(rw[hy132];exact H)|exact H
 have Ny132:=Aside0.mk hy132
 clear hy132
 have H':=Aside0.mk H
 clear H
 go_enter Tryz.func12,Tryz.ntmps12
 go_wp2_with (first|(go_at_call 42;(with_reducible refine(glebelaw2_Addr.calls a0 a1 a2 t128 t129 t130 _ ?side1 A5.out).mono ?_);(case side1=>first|exact hG|exact GoodW.below hG (by repeat (first|(with_reducible first|exact HB.out|apply zAb|apply zAa|apply zAc)|exact HB.out))|(repeat (first|exact hG|apply GoodW.drewN|apply GoodW.drew)));rintro e w7 ⟨rfl,hb⟩;have n0_:=Aside0.mk (zAi (by repeat (first|(with_reducible first|exact HB.out|apply zAb|apply zAa|apply zAc)|exact HB.out)) hb);clear HB;have HB:=n0_;clear n0_;(try clear hb);(try clear hb2);(try clear hk);(try clear hi))|(go_at_call 58;(with_reducible refine(gleberef1_Print.calls k t128 t129 t130 t131 _ ?side1 A6.out).mono ?_);(case side1=>first|exact hG|exact GoodW.below hG (by repeat (first|(with_reducible first|exact HB.out|apply zAb|apply zAa|apply zAc)|exact HB.out))|(repeat (first|exact hG|apply GoodW.drewN|apply GoodW.drew)));rintro e w8 ⟨rfl,hb⟩;have n0_:=Aside0.mk (zAi (by repeat (first|(with_reducible first|exact HB.out|apply zAb|apply zAa|apply zAc)|exact HB.out)) hb);clear HB;have HB:=n0_;clear n0_;(try clear hb);(try clear hb2);(try clear hk);(try clear hi))|((with_reducible refine zBv (N:=18) rfl ?_);refine Kd.R_lit Kd.string _ 9 ?hg (N:=18) ?hd (xs:=([(⟨#[58]⟩:ByteArray),(⟨#[58,58]⟩:ByteArray),(⟨#[46]⟩:ByteArray),(⟨#[48]⟩:ByteArray),(⟨#[49]⟩:ByteArray),(⟨#[102,102,102,102]⟩:ByteArray),(⟨#[49,50,51,52,53]⟩:ByteArray),(⟨#[103]⟩:ByteArray),(⟨#[50,53,53]⟩:ByteArray),(⟨#[50,53,54]⟩:ByteArray),(⟨#[48,49]⟩:ByteArray),(⟨#[49,48,46,48,46,48,46,49]⟩:ByteArray),(⟨#[65]⟩:ByteArray),(⟨#[49,46,50,46,51]⟩:ByteArray),(⟨#[47]⟩:ByteArray),(⟨#[32]⟩:ByteArray)]:List ByteArray)) (inner:=[.string (⟨#[58]⟩:ByteArray),.string (⟨#[58,58]⟩:ByteArray),.string (⟨#[46]⟩:ByteArray),.string (⟨#[48]⟩:ByteArray),.string (⟨#[49]⟩:ByteArray),.string (⟨#[102,102,102,102]⟩:ByteArray),.string (⟨#[49,50,51,52,53]⟩:ByteArray),.string (⟨#[103]⟩:ByteArray),.string (⟨#[50,53,53]⟩:ByteArray),.string (⟨#[50,53,54]⟩:ByteArray),.string (⟨#[48,49]⟩:ByteArray),.string (⟨#[49,48,46,48,46,48,46,49]⟩:ByteArray),.string (⟨#[65]⟩:ByteArray),.string (⟨#[49,46,50,46,51]⟩:ByteArray),.string (⟨#[47]⟩:ByteArray),.string (⟨#[32]⟩:ByteArray)]) (ok:=fun _=>True) (okp:=fun _=>True) ?hr ?hp (fun _ hk=>hk) trivial (Below.refl _ _) (Nat.le_refl _) (by simp) ?_;(case hd=>rfl);(case hg=>rfl);(case hr=>first|(go_simp;done)|(go_simp;rfl));(case hp=>exact(Reps.one (show Kd.M Kd.string _ _ _ (⟨#[58]⟩:ByteArray) [.string (⟨#[58]⟩:ByteArray)] from rfl) (Reps.one (show Kd.M Kd.string _ _ _ (⟨#[58,58]⟩:ByteArray) [.string (⟨#[58,58]⟩:ByteArray)] from rfl) (Reps.one (show Kd.M Kd.string _ _ _ (⟨#[46]⟩:ByteArray) [.string (⟨#[46]⟩:ByteArray)] from rfl) (Reps.one (show Kd.M Kd.string _ _ _ (⟨#[48]⟩:ByteArray) [.string (⟨#[48]⟩:ByteArray)] from rfl) (Reps.one (show Kd.M Kd.string _ _ _ (⟨#[49]⟩:ByteArray) [.string (⟨#[49]⟩:ByteArray)] from rfl) (Reps.one (show Kd.M Kd.string _ _ _ (⟨#[102,102,102,102]⟩:ByteArray) [.string (⟨#[102,102,102,102]⟩:ByteArray)] from rfl) (Reps.one (show Kd.M Kd.string _ _ _ (⟨#[49,50,51,52,53]⟩:ByteArray) [.string (⟨#[49,50,51,52,53]⟩:ByteArray)] from rfl) (Reps.one (show Kd.M Kd.string _ _ _ (⟨#[103]⟩:ByteArray) [.string (⟨#[103]⟩:ByteArray)] from rfl) (Reps.one (show Kd.M Kd.string _ _ _ (⟨#[50,53,53]⟩:ByteArray) [.string (⟨#[50,53,53]⟩:ByteArray)] from rfl) (Reps.one (show Kd.M Kd.string _ _ _ (⟨#[50,53,54]⟩:ByteArray) [.string (⟨#[50,53,54]⟩:ByteArray)] from rfl) (Reps.one (show Kd.M Kd.string _ _ _ (⟨#[48,49]⟩:ByteArray) [.string (⟨#[48,49]⟩:ByteArray)] from rfl) (Reps.one (show Kd.M Kd.string _ _ _ (⟨#[49,48,46,48,46,48,46,49]⟩:ByteArray) [.string (⟨#[49,48,46,48,46,48,46,49]⟩:ByteArray)] from rfl) (Reps.one (show Kd.M Kd.string _ _ _ (⟨#[65]⟩:ByteArray) [.string (⟨#[65]⟩:ByteArray)] from rfl) (Reps.one (show Kd.M Kd.string _ _ _ (⟨#[49,46,50,46,51]⟩:ByteArray) [.string (⟨#[49,46,50,46,51]⟩:ByteArray)] from rfl) (Reps.one (show Kd.M Kd.string _ _ _ (⟨#[47]⟩:ByteArray) [.string (⟨#[47]⟩:ByteArray)] from rfl) (Reps.one (show Kd.M Kd.string _ _ _ (⟨#[32]⟩:ByteArray) [.string (⟨#[32]⟩:ByteArray)] from rfl) (Reps.none _ _))))))))))))))))));intro v133 w9 ho10 hb hg_ hnew_;clear hg_ hnew_;(first|rw[← Ny132.out] at ho10|(simp only[Int.reduceToNat] at ho10;rw[← Ny132.out] at ho10));have n0_:=Aside0.mk (Kd.R_lower ho10 (zAp (by repeat (first|(with_reducible first|exact HB.out|apply zAb|apply zAa|apply zAc)|exact HB.out))));have n1_:=Aside0.mk (zAi (by repeat (first|(with_reducible first|exact HB.out|apply zAb|apply zAa|apply zAc)|exact HB.out)) hb);clear HB;have HO134:=n0_;have HB:=n1_;clear n0_ n1_;clear hb ho10))
 repeat (go_quiet (first|(go_at_call 42;(with_reducible refine(glebelaw2_Addr.calls a0 a1 a2 t128 t129 t130 _ ?side1 A5.out).mono ?_);(case side1=>first|exact hG|exact GoodW.below hG (by repeat (first|(with_reducible first|exact HB.out|apply zAb|apply zAa|apply zAc)|exact HB.out))|(repeat (first|exact hG|apply GoodW.drewN|apply GoodW.drew)));rintro e w7 ⟨rfl,hb⟩;have n0_:=Aside0.mk (zAi (by repeat (first|(with_reducible first|exact HB.out|apply zAb|apply zAa|apply zAc)|exact HB.out)) hb);clear HB;have HB:=n0_;clear n0_;(try clear hb);(try clear hb2);(try clear hk);(try clear hi))|(go_at_call 58;(with_reducible refine(gleberef1_Print.calls k t128 t129 t130 t131 _ ?side1 A6.out).mono ?_);(case side1=>first|exact hG|exact GoodW.below hG (by repeat (first|(with_reducible first|exact HB.out|apply zAb|apply zAa|apply zAc)|exact HB.out))|(repeat (first|exact hG|apply GoodW.drewN|apply GoodW.drew)));rintro e w8 ⟨rfl,hb⟩;have n0_:=Aside0.mk (zAi (by repeat (first|(with_reducible first|exact HB.out|apply zAb|apply zAa|apply zAc)|exact HB.out)) hb);clear HB;have HB:=n0_;clear n0_;(try clear hb);(try clear hb2);(try clear hk);(try clear hi))|((with_reducible refine zBv (N:=18) rfl ?_);refine Kd.R_lit Kd.string _ 9 ?hg (N:=18) ?hd (xs:=([(⟨#[58]⟩:ByteArray),(⟨#[58,58]⟩:ByteArray),(⟨#[46]⟩:ByteArray),(⟨#[48]⟩:ByteArray),(⟨#[49]⟩:ByteArray),(⟨#[102,102,102,102]⟩:ByteArray),(⟨#[49,50,51,52,53]⟩:ByteArray),(⟨#[103]⟩:ByteArray),(⟨#[50,53,53]⟩:ByteArray),(⟨#[50,53,54]⟩:ByteArray),(⟨#[48,49]⟩:ByteArray),(⟨#[49,48,46,48,46,48,46,49]⟩:ByteArray),(⟨#[65]⟩:ByteArray),(⟨#[49,46,50,46,51]⟩:ByteArray),(⟨#[47]⟩:ByteArray),(⟨#[32]⟩:ByteArray)]:List ByteArray)) (inner:=[.string (⟨#[58]⟩:ByteArray),.string (⟨#[58,58]⟩:ByteArray),.string (⟨#[46]⟩:ByteArray),.string (⟨#[48]⟩:ByteArray),.string (⟨#[49]⟩:ByteArray),.string (⟨#[102,102,102,102]⟩:ByteArray),.string (⟨#[49,50,51,52,53]⟩:ByteArray),.string (⟨#[103]⟩:ByteArray),.string (⟨#[50,53,53]⟩:ByteArray),.string (⟨#[50,53,54]⟩:ByteArray),.string (⟨#[48,49]⟩:ByteArray),.string (⟨#[49,48,46,48,46,48,46,49]⟩:ByteArray),.string (⟨#[65]⟩:ByteArray),.string (⟨#[49,46,50,46,51]⟩:ByteArray),.string (⟨#[47]⟩:ByteArray),.string (⟨#[32]⟩:ByteArray)]) (ok:=fun _=>True) (okp:=fun _=>True) ?hr ?hp (fun _ hk=>hk) trivial (Below.refl _ _) (Nat.le_refl _) (by simp) ?_;(case hd=>rfl);(case hg=>rfl);(case hr=>first|(go_simp;done)|(go_simp;rfl));(case hp=>exact(Reps.one (show Kd.M Kd.string _ _ _ (⟨#[58]⟩:ByteArray) [.string (⟨#[58]⟩:ByteArray)] from rfl) (Reps.one (show Kd.M Kd.string _ _ _ (⟨#[58,58]⟩:ByteArray) [.string (⟨#[58,58]⟩:ByteArray)] from rfl) (Reps.one (show Kd.M Kd.string _ _ _ (⟨#[46]⟩:ByteArray) [.string (⟨#[46]⟩:ByteArray)] from rfl) (Reps.one (show Kd.M Kd.string _ _ _ (⟨#[48]⟩:ByteArray) [.string (⟨#[48]⟩:ByteArray)] from rfl) (Reps.one (show Kd.M Kd.string _ _ _ (⟨#[49]⟩:ByteArray) [.string (⟨#[49]⟩:ByteArray)] from rfl) (Reps.one (show Kd.M Kd.string _ _ _ (⟨#[102,102,102,102]⟩:ByteArray) [.string (⟨#[102,102,102,102]⟩:ByteArray)] from rfl) (Reps.one (show Kd.M Kd.string _ _ _ (⟨#[49,50,51,52,53]⟩:ByteArray) [.string (⟨#[49,50,51,52,53]⟩:ByteArray)] from rfl) (Reps.one (show Kd.M Kd.string _ _ _ (⟨#[103]⟩:ByteArray) [.string (⟨#[103]⟩:ByteArray)] from rfl) (Reps.one (show Kd.M Kd.string _ _ _ (⟨#[50,53,53]⟩:ByteArray) [.string (⟨#[50,53,53]⟩:ByteArray)] from rfl) (Reps.one (show Kd.M Kd.string _ _ _ (⟨#[50,53,54]⟩:ByteArray) [.string (⟨#[50,53,54]⟩:ByteArray)] from rfl) (Reps.one (show Kd.M Kd.string _ _ _ (⟨#[48,49]⟩:ByteArray) [.string (⟨#[48,49]⟩:ByteArray)] from rfl) (Reps.one (show Kd.M Kd.string _ _ _ (⟨#[49,48,46,48,46,48,46,49]⟩:ByteArray) [.string (⟨#[49,48,46,48,46,48,46,49]⟩:ByteArray)] from rfl) (Reps.one (show Kd.M Kd.string _ _ _ (⟨#[65]⟩:ByteArray) [.string (⟨#[65]⟩:ByteArray)] from rfl) (Reps.one (show Kd.M Kd.string _ _ _ (⟨#[49,46,50,46,51]⟩:ByteArray) [.string (⟨#[49,46,50,46,51]⟩:ByteArray)] from rfl) (Reps.one (show Kd.M Kd.string _ _ _ (⟨#[47]⟩:ByteArray) [.string (⟨#[47]⟩:ByteArray)] from rfl) (Reps.one (show Kd.M Kd.string _ _ _ (⟨#[32]⟩:ByteArray) [.string (⟨#[32]⟩:ByteArray)] from rfl) (Reps.none _ _))))))))))))))))));intro v133 w9 ho10 hb hg_ hnew_;clear hg_ hnew_;(first|rw[← Ny132.out] at ho10|(simp only[Int.reduceToNat] at ho10;rw[← Ny132.out] at ho10));have n0_:=Aside0.mk (Kd.R_lower ho10 (zAp (by repeat (first|(with_reducible first|exact HB.out|apply zAb|apply zAa|apply zAc)|exact HB.out))));have n1_:=Aside0.mk (zAi (by repeat (first|(with_reducible first|exact HB.out|apply zAb|apply zAa|apply zAc)|exact HB.out)) hb);clear HB;have HO134:=n0_;have HB:=n1_;clear n0_ n1_;clear hb ho10));try go_wp2_with (first|(go_at_call 42;(with_reducible refine(glebelaw2_Addr.calls a0 a1 a2 t128 t129 t130 _ ?side1 A5.out).mono ?_);(case side1=>first|exact hG|exact GoodW.below hG (by repeat (first|(with_reducible first|exact HB.out|apply zAb|apply zAa|apply zAc)|exact HB.out))|(repeat (first|exact hG|apply GoodW.drewN|apply GoodW.drew)));rintro e w7 ⟨rfl,hb⟩;have n0_:=Aside0.mk (zAi (by repeat (first|(with_reducible first|exact HB.out|apply zAb|apply zAa|apply zAc)|exact HB.out)) hb);clear HB;have HB:=n0_;clear n0_;(try clear hb);(try clear hb2);(try clear hk);(try clear hi))|(go_at_call 58;(with_reducible refine(gleberef1_Print.calls k t128 t129 t130 t131 _ ?side1 A6.out).mono ?_);(case side1=>first|exact hG|exact GoodW.below hG (by repeat (first|(with_reducible first|exact HB.out|apply zAb|apply zAa|apply zAc)|exact HB.out))|(repeat (first|exact hG|apply GoodW.drewN|apply GoodW.drew)));rintro e w8 ⟨rfl,hb⟩;have n0_:=Aside0.mk (zAi (by repeat (first|(with_reducible first|exact HB.out|apply zAb|apply zAa|apply zAc)|exact HB.out)) hb);clear HB;have HB:=n0_;clear n0_;(try clear hb);(try clear hb2);(try clear hk);(try clear hi))|((with_reducible refine zBv (N:=18) rfl ?_);refine Kd.R_lit Kd.string _ 9 ?hg (N:=18) ?hd (xs:=([(⟨#[58]⟩:ByteArray),(⟨#[58,58]⟩:ByteArray),(⟨#[46]⟩:ByteArray),(⟨#[48]⟩:ByteArray),(⟨#[49]⟩:ByteArray),(⟨#[102,102,102,102]⟩:ByteArray),(⟨#[49,50,51,52,53]⟩:ByteArray),(⟨#[103]⟩:ByteArray),(⟨#[50,53,53]⟩:ByteArray),(⟨#[50,53,54]⟩:ByteArray),(⟨#[48,49]⟩:ByteArray),(⟨#[49,48,46,48,46,48,46,49]⟩:ByteArray),(⟨#[65]⟩:ByteArray),(⟨#[49,46,50,46,51]⟩:ByteArray),(⟨#[47]⟩:ByteArray),(⟨#[32]⟩:ByteArray)]:List ByteArray)) (inner:=[.string (⟨#[58]⟩:ByteArray),.string (⟨#[58,58]⟩:ByteArray),.string (⟨#[46]⟩:ByteArray),.string (⟨#[48]⟩:ByteArray),.string (⟨#[49]⟩:ByteArray),.string (⟨#[102,102,102,102]⟩:ByteArray),.string (⟨#[49,50,51,52,53]⟩:ByteArray),.string (⟨#[103]⟩:ByteArray),.string (⟨#[50,53,53]⟩:ByteArray),.string (⟨#[50,53,54]⟩:ByteArray),.string (⟨#[48,49]⟩:ByteArray),.string (⟨#[49,48,46,48,46,48,46,49]⟩:ByteArray),.string (⟨#[65]⟩:ByteArray),.string (⟨#[49,46,50,46,51]⟩:ByteArray),.string (⟨#[47]⟩:ByteArray),.string (⟨#[32]⟩:ByteArray)]) (ok:=fun _=>True) (okp:=fun _=>True) ?hr ?hp (fun _ hk=>hk) trivial (Below.refl _ _) (Nat.le_refl _) (by simp) ?_;(case hd=>rfl);(case hg=>rfl);(case hr=>first|(go_simp;done)|(go_simp;rfl));(case hp=>exact(Reps.one (show Kd.M Kd.string _ _ _ (⟨#[58]⟩:ByteArray) [.string (⟨#[58]⟩:ByteArray)] from rfl) (Reps.one (show Kd.M Kd.string _ _ _ (⟨#[58,58]⟩:ByteArray) [.string (⟨#[58,58]⟩:ByteArray)] from rfl) (Reps.one (show Kd.M Kd.string _ _ _ (⟨#[46]⟩:ByteArray) [.string (⟨#[46]⟩:ByteArray)] from rfl) (Reps.one (show Kd.M Kd.string _ _ _ (⟨#[48]⟩:ByteArray) [.string (⟨#[48]⟩:ByteArray)] from rfl) (Reps.one (show Kd.M Kd.string _ _ _ (⟨#[49]⟩:ByteArray) [.string (⟨#[49]⟩:ByteArray)] from rfl) (Reps.one (show Kd.M Kd.string _ _ _ (⟨#[102,102,102,102]⟩:ByteArray) [.string (⟨#[102,102,102,102]⟩:ByteArray)] from rfl) (Reps.one (show Kd.M Kd.string _ _ _ (⟨#[49,50,51,52,53]⟩:ByteArray) [.string (⟨#[49,50,51,52,53]⟩:ByteArray)] from rfl) (Reps.one (show Kd.M Kd.string _ _ _ (⟨#[103]⟩:ByteArray) [.string (⟨#[103]⟩:ByteArray)] from rfl) (Reps.one (show Kd.M Kd.string _ _ _ (⟨#[50,53,53]⟩:ByteArray) [.string (⟨#[50,53,53]⟩:ByteArray)] from rfl) (Reps.one (show Kd.M Kd.string _ _ _ (⟨#[50,53,54]⟩:ByteArray) [.string (⟨#[50,53,54]⟩:ByteArray)] from rfl) (Reps.one (show Kd.M Kd.string _ _ _ (⟨#[48,49]⟩:ByteArray) [.string (⟨#[48,49]⟩:ByteArray)] from rfl) (Reps.one (show Kd.M Kd.string _ _ _ (⟨#[49,48,46,48,46,48,46,49]⟩:ByteArray) [.string (⟨#[49,48,46,48,46,48,46,49]⟩:ByteArray)] from rfl) (Reps.one (show Kd.M Kd.string _ _ _ (⟨#[65]⟩:ByteArray) [.string (⟨#[65]⟩:ByteArray)] from rfl) (Reps.one (show Kd.M Kd.string _ _ _ (⟨#[49,46,50,46,51]⟩:ByteArray) [.string (⟨#[49,46,50,46,51]⟩:ByteArray)] from rfl) (Reps.one (show Kd.M Kd.string _ _ _ (⟨#[47]⟩:ByteArray) [.string (⟨#[47]⟩:ByteArray)] from rfl) (Reps.one (show Kd.M Kd.string _ _ _ (⟨#[32]⟩:ByteArray) [.string (⟨#[32]⟩:ByteArray)] from rfl) (Reps.none _ _))))))))))))))))));intro v133 w9 ho10 hb hg_ hnew_;clear hg_ hnew_;(first|rw[← Ny132.out] at ho10|(simp only[Int.reduceToNat] at ho10;rw[← Ny132.out] at ho10));have n0_:=Aside0.mk (Kd.R_lower ho10 (zAp (by repeat (first|(with_reducible first|exact HB.out|apply zAb|apply zAa|apply zAc)|exact HB.out))));have n1_:=Aside0.mk (zAi (by repeat (first|(with_reducible first|exact HB.out|apply zAb|apply zAa|apply zAc)|exact HB.out)) hb);clear HB;have HO134:=n0_;have HB:=n1_;clear n0_ n1_;clear hb ho10)))
 go_loopg [9,11] k (fun kq v9 v11 w'=>∃ (x9_1:ByteArray) (x11_1:Int),v9=.string x9_1∧v11=.int .i64 x11_1∧Aside0 (glebelaw2_Text.l0 kq a0 l3 x9_1 y132 x11_1=some r)∧Aside0 (kq≤k)∧Aside0 (Kd.R Kd.string 9 w' w.heap.size (fun _=>True) v133 y132)∧Aside0 (Below w.heap.size w w'))
 case atStart=>exact⟨(t131),(0),(by first|rfl|(simp;done)|(simp[*];done)),(by first|rfl|(simp;done)|(simp[*];done)),H',⟨Nat.le_refl _⟩,⟨by(with_reducible repeat (first|apply Kd.R_alloc|apply Kd.R_drewN|apply Kd.R_drew));exact HO134.out⟩,⟨by repeat (first|(with_reducible first|exact HB.out|apply zAb|apply zAa|apply zAc)|exact HB.out)⟩⟩
 case round=>
  clear H'
  try clear c1
  try clear p2
  try clear c3
  obtain⟨x9_1,x11_1,rfl,rfl,HA,HK1,HO_10,HB⟩:=hrel
  cases gk with
  |zero=>exact absurd HA.out (by simp[glebelaw2_Text.l0])
  |succ k1=>
   have H:=HA.out
   clear HA
   simp only[glebelaw2_Text.l0] at H
   have HC11:=Aside0.mk H
   clear H
   go_upto_region 4 with(fail)
   repeat (go_quiet (fail);go_upto_region 4 with(fail))
   go_cut [26] (fun v26 wc=>∃ (kq:Nat) (x26_10:Bool),v26=.bool x26_10∧Aside0 (glebelaw2_Text.j1 kq a0 l3 x9_1 y132 x11_1 x26_10=some r)∧Aside0 (kq≤k1)∧Aside0 (Kd.R Kd.string 9 wc w.heap.size (fun _=>True) v133 y132)∧Aside0 (Below w.heap.size w wc))
   case first=>
    have H:=HC11.out
    clear HC11
    by_cases c12:x11_1 < (l3.length:Int)
    ·rw[if_pos c12] at H
     have c12b0:=decide_eq_true c12
     clear c12
     (first|rw[c12b0]|(simp only[zG1,zIy];rw[c12b0])|skip)
     have H':=Aside0.mk H
     clear H
     go_wp2
     repeat (go_quiet (fail);try go_wp2)
     go_meet
     case rel=>exact⟨_,(decide (x11_1 < 12)),(by first|rfl|(simp;done)|(simp[*];done)),H',⟨by have:=HK1.out;first|omega|exact Nat.le_refl _⟩,⟨by(with_reducible repeat (first|apply Kd.R_alloc|apply Kd.R_drewN|apply Kd.R_drew));exact HO_10.out⟩,⟨by repeat (first|(with_reducible first|exact HB.out|apply zAb|apply zAa|apply zAc)|exact HB.out)⟩⟩
    ·rw[if_neg c12] at H
     have c12b0:decide (x11_1 < (l3.length:Int))=false:=decide_eq_false c12
     clear c12
     (first|rw[c12b0]|(simp only[zG1,zIy];rw[c12b0])|skip)
     have H':=Aside0.mk H
     clear H
     go_wp2
     repeat (go_quiet (fail);try go_wp2)
     go_meet
     case rel=>exact⟨_,(false),(by first|rfl|(simp;done)|(simp[*];done)),H',⟨by have:=HK1.out;first|omega|exact Nat.le_refl _⟩,⟨by(with_reducible repeat (first|apply Kd.R_alloc|apply Kd.R_drewN|apply Kd.R_drew));exact HO_10.out⟩,⟨by repeat (first|(with_reducible first|exact HB.out|apply zAb|apply zAa|apply zAc)|exact HB.out)⟩⟩
   case rest=>
    clear HC11
    try clear c1
    try clear p2
    try clear c3
    try clear c12
    try clear c12b0
    try clear p2
    obtain⟨kq,x26_10,rfl,HA,HJ10,HO_10,HB⟩:=hcut
    cases kq with
    |zero=>exact absurd HA.out (by simp[glebelaw2_Text.j1])
    |succ kj10=>
     have H:=HA.out
     clear HA
     simp only[glebelaw2_Text.j1] at H
     by_cases c13:x26_10=true
     ·subst c13
      have H1:=H
      rw[if_pos rfl] at H1
      clear H
      have H:=H1
      clear H1
      by_cases c14:0≤x11_1
      ·rw[if_pos c14] at H
       have c14b0:=decide_eq_true c14
       clear c14
       by_cases c15:x11_1 < (l3.length:Int)
       ·rw[if_pos c15] at H
        have c15b0:=decide_eq_true c15
        clear c15
        by_cases c16:(wrap64 ((x9_1.size:Int)+1))=0
        ·rw[if_pos c16] at H
         exact absurd H (by simp)
        ·rw[if_neg c16] at H
         have c16b0:((wrap64 ((x9_1.size:Int)+1))==0)=false:=beq_eq_false_iff_ne.mpr c16
         have c16b1:((wrap64 ((x9_1.size:Int)+1)) != 0)=true:=bne_iff_ne.mpr c16
         have HC17:=Aside0.mk H
         clear H
         have p135:0≤(x11_1:Int):=of_decide_eq_true (by first|(with_reducible assumption)|assumption)
         have q135:x11_1 < (l3.length:Int):=of_decide_eq_true (by first|(with_reducible assumption)|assumption)
         obtain⟨ad135,e135,hx135_0⟩:=Kd.at_int HR3.out x11_1 p135 q135
         cases e135
         replace hx135_0:=(HB.out.cell (World.block_lt_of_cell? w _ hx135_0)).trans hx135_0
         replace p135:=eq_true p135
         replace q135:=eq_true q135
         go_upto_if 42 with(fail)
         repeat (go_quiet (fail);go_upto_if 42 with(fail))
         go_cut [12] (fun v12 wc=>∃ (kq:Nat) (x12_16:Int),v12=.int .i64 x12_16∧Aside0 (glebelaw2_Text.j2 kq a0 l3 x9_1 y132 x11_1 x12_16=some r)∧Aside0 (kq≤kj10)∧Aside0 (Kd.R Kd.string 9 wc w.heap.size (fun _=>True) v133 y132)∧Aside0 (Below w.heap.size w wc))
         case first=>
          have H:=HC17.out
          clear HC17
          by_cases c18:(Go.bits .and .i64 (a0 / 1048576) 3)=0
          ·rw[if_pos c18] at H
           have c18b0:((Go.bits .and .i64 (a0 / 1048576) 3)==0)=true:=beq_iff_eq.mpr c18
           have c18b1:((Go.bits .and .i64 (a0 / 1048576) 3) != 0)=false:=bne_eq_false_iff_eq.mpr c18
           clear c18
           (first|rw[c18b0]|(simp only[zG1,zIy];rw[c18b0])|skip)
           have H':=Aside0.mk H
           clear H
           go_wp2
           repeat (go_quiet (fail);try go_wp2)
           go_meet
           case rel=>exact⟨_,((x9_1.size:Int)),(by first|rfl|(simp;done)|(simp[*];done)),H',⟨by have:=HK1.out;have:=HJ10.out;first|omega|exact Nat.le_refl _⟩,⟨by(with_reducible repeat (first|apply Kd.R_alloc|apply Kd.R_drewN|apply Kd.R_drew));exact HO_10.out⟩,⟨by repeat (first|(with_reducible first|exact HB.out|apply zAb|apply zAa|apply zAc)|exact HB.out)⟩⟩
          ·rw[if_neg c18] at H
           have c18b0:((Go.bits .and .i64 (a0 / 1048576) 3)==0)=false:=beq_eq_false_iff_ne.mpr c18
           have c18b1:((Go.bits .and .i64 (a0 / 1048576) 3) != 0)=true:=bne_iff_ne.mpr c18
           (first|rw[c18b0]|(simp only[zG1,zIy];rw[c18b0])|skip)
           have H':=Aside0.mk H
           clear H
           go_wp2
           repeat (go_quiet (fail);try go_wp2)
           go_meet
           case rel=>exact⟨_,(Int.tmod (Go.bits .and .i64 ((rd l3 x11_1) / 256) 255) (wrap64 ((x9_1.size:Int)+1))),(by first|rfl|(simp;done)|(simp[*];done)),H',⟨by have:=HK1.out;have:=HJ10.out;first|omega|exact Nat.le_refl _⟩,⟨by(with_reducible repeat (first|apply Kd.R_alloc|apply Kd.R_drewN|apply Kd.R_drew));exact HO_10.out⟩,⟨by repeat (first|(with_reducible first|exact HB.out|apply zAb|apply zAa|apply zAc)|exact HB.out)⟩⟩
         case rest=>
          clear HC17
          try clear c1
          try clear p1
          try clear q1
          try clear hx1
          try clear p2
          try clear c3
          try clear p6
          try clear c12
          try clear c12b0
          try clear c13
          try clear p13
          try clear q13
          try clear hx13
          try clear c14
          try clear c14b0
          try clear c15
          try clear c15b0
          try clear c16
          try clear c16b0
          try clear c16b1
          try clear c18
          try clear c18b0
          try clear c18b1
          try clear hx135_0
          try clear p135
          try clear p2
          try clear q135
          obtain⟨kq,x12_16,rfl,HA,HJ16,HO_10,HB⟩:=hcut
          cases kq with
          |zero=>exact absurd HA.out (by simp[glebelaw2_Text.j2])
          |succ kj16=>
           have H:=HA.out
           clear HA
           simp only[glebelaw2_Text.j2] at H
           by_cases c19:0≤x12_16
           ·rw[if_pos c19] at H
            have c19b0:=eq_true c19
            have c19b1:=decide_eq_true c19
            clear c19
            by_cases c20:x12_16≤(x9_1.size:Int)
            ·rw[if_pos c20] at H
             have c20b0:=eq_true c20
             have c20b1:=decide_eq_true c20
             clear c20
             by_cases c21:0≤x11_1
             ·rw[if_pos c21] at H
              have c21b0:=decide_eq_true c21
              clear c21
              by_cases c22:x11_1 < (l3.length:Int)
              ·rw[if_pos c22] at H
               have c22b0:=decide_eq_true c22
               clear c22
               by_cases c23:(y132.length:Int)=0
               ·rw[if_pos c23] at H
                exact absurd H (by simp)
               ·rw[if_neg c23] at H
                have c23b0:((y132.length:Int)==0)=false:=beq_eq_false_iff_ne.mpr c23
                have c23b1:((y132.length:Int) != 0)=true:=bne_iff_ne.mpr c23
                have c23b2:¬ (y132=[]):=fun h_=>c23 (by rw[h_];rfl)
                obtain⟨ji24,hji24⟩:∃ j_:Int,(Int.tmod (Go.bits .and .i64 (rd l3 x11_1) 255) (y132.length:Int))=j_:=⟨_,rfl⟩
                replace H:(if 0≤(ji24) then(if(ji24) < (y132.length:Int) then(if(x9_1.extract 0 (x12_16:Int).toNat).size+(zB5 ByteArray.empty y132 (ji24)).size≤9223372036854775807 then(if(wrap64 ((wrap64 ((x9_1.size:Int) - x12_16))+1))=0 then(none) else(if 0≤(wrap64 (x12_16+(Int.tmod (Go.bits .and .i64 ((rd l3 x11_1) / 65536) 1) (wrap64 ((wrap64 ((x9_1.size:Int) - x12_16))+1))))) then(if(wrap64 (x12_16+(Int.tmod (Go.bits .and .i64 ((rd l3 x11_1) / 65536) 1) (wrap64 ((wrap64 ((x9_1.size:Int) - x12_16))+1)))))≤(x9_1.size:Int) then(if((x9_1.extract 0 (x12_16:Int).toNat)++(zB5 ByteArray.empty y132 (ji24))).size+(x9_1.extract ((wrap64 (x12_16+(Int.tmod (Go.bits .and .i64 ((rd l3 x11_1) / 65536) 1) (wrap64 ((wrap64 ((x9_1.size:Int) - x12_16))+1))))):Int).toNat x9_1.size).size≤9223372036854775807 then(glebelaw2_Text.l0 kj16 a0 l3 (((x9_1.extract 0 (x12_16:Int).toNat)++(zB5 ByteArray.empty y132 (ji24)))++(x9_1.extract ((wrap64 (x12_16+(Int.tmod (Go.bits .and .i64 ((rd l3 x11_1) / 65536) 1) (wrap64 ((wrap64 ((x9_1.size:Int) - x12_16))+1))))):Int).toNat x9_1.size)) y132 (wrap64 (x11_1+1))) else(none)) else(none)) else(none))) else(none)) else(none)) else(none))=some r:=by first|(rw[hji24] at H;exact H)|(simp only[hji24] at H ⊢;exact H)
                by_cases c25:0≤(ji24)
                ·rw[if_pos c25] at H
                 have c25b0:=decide_eq_true c25
                 clear c25
                 by_cases c26:(ji24) < (y132.length:Int)
                 ·rw[if_pos c26] at H
                  have c26b0:=decide_eq_true c26
                  clear c26
                  by_cases c27:(x9_1.extract 0 (x12_16:Int).toNat).size+(zB5 ByteArray.empty y132 (ji24)).size≤9223372036854775807
                  ·rw[if_pos c27] at H
                   have c27b0:=eq_true c27
                   have c27b1:=decide_eq_true c27
                   try have c27b2:=eq_false (Nat.not_lt.2 c27)
                   by_cases c28:(wrap64 ((wrap64 ((x9_1.size:Int) - x12_16))+1))=0
                   ·rw[if_pos c28] at H
                    exact absurd H (by simp)
                   ·rw[if_neg c28] at H
                    have c28b0:((wrap64 ((wrap64 ((x9_1.size:Int) - x12_16))+1))==0)=false:=beq_eq_false_iff_ne.mpr c28
                    have c28b1:((wrap64 ((wrap64 ((x9_1.size:Int) - x12_16))+1)) != 0)=true:=bne_iff_ne.mpr c28
                    obtain⟨ji29,hji29⟩:∃ j_:Int,(wrap64 (x12_16+(Int.tmod (Go.bits .and .i64 ((rd l3 x11_1) / 65536) 1) (wrap64 ((wrap64 ((x9_1.size:Int) - x12_16))+1)))))=j_:=⟨_,rfl⟩
                    replace H:(if 0≤(ji29) then(if(ji29)≤(x9_1.size:Int) then(if((x9_1.extract 0 (x12_16:Int).toNat)++(zB5 ByteArray.empty y132 (ji24))).size+(x9_1.extract ((ji29):Int).toNat x9_1.size).size≤9223372036854775807 then(glebelaw2_Text.l0 kj16 a0 l3 (((x9_1.extract 0 (x12_16:Int).toNat)++(zB5 ByteArray.empty y132 (ji24)))++(x9_1.extract ((ji29):Int).toNat x9_1.size)) y132 (wrap64 (x11_1+1))) else(none)) else(none)) else(none))=some r:=by first|(rw[hji29] at H;exact H)|(simp only[hji29] at H ⊢;exact H)
                    have hji29w:(IntKind.i64.wrap (x12_16+(Int.tmod (Go.bits .and .i64 ((rd l3 x11_1) / 65536) 1) (wrap64 ((wrap64 ((x9_1.size:Int) - x12_16))+1)))))=ji29:=(zG1 _).trans hji29
                    by_cases c30:0≤(ji29)
                    ·rw[if_pos c30] at H
                     have c30b0:=eq_true c30
                     have c30b1:=decide_eq_true c30
                     clear c30
                     by_cases c31:(ji29)≤(x9_1.size:Int)
                     ·rw[if_pos c31] at H
                      have c31b0:=eq_true c31
                      have c31b1:=decide_eq_true c31
                      clear c31
                      by_cases c32:((x9_1.extract 0 (x12_16:Int).toNat)++(zB5 ByteArray.empty y132 (ji24))).size+(x9_1.extract ((ji29):Int).toNat x9_1.size).size≤9223372036854775807
                      ·rw[if_pos c32] at H
                       have c32b0:=eq_true c32
                       have c32b1:=decide_eq_true c32
                       try have c32b2:=eq_false (Nat.not_lt.2 c32)
                       try have c32b3:(9223372036854775807 < (x9_1.extract 0 (x12_16:Int).toNat).size+(zB5 ByteArray.empty y132 (ji24)).size+(x9_1.extract ((ji29):Int).toNat x9_1.size).size)=False:=eq_false (by have z_:=c32;simp only[ByteArray.size_append] at z_;exact Nat.not_lt.2 z_)
                       have H':=Aside0.mk H
                       clear H
                       have p136:0≤(x11_1:Int):=of_decide_eq_true (by first|(with_reducible assumption)|assumption)
                       have q136:x11_1 < (l3.length:Int):=of_decide_eq_true (by first|(with_reducible assumption)|assumption)
                       obtain⟨ad136,e136,hx136_0⟩:=Kd.at_int HR3.out x11_1 p136 q136
                       obtain rfl:ad135=ad136:=(by injection e136)
                       replace hx136_0:=(HB.out.cell (World.block_lt_of_cell? w _ hx136_0)).trans hx136_0
                       replace p136:=eq_true p136
                       replace q136:=eq_true q136
                       obtain⟨Ao33,co33,eo33⟩:=Kd.R_slice HO_10.out
                       subst eo33
                       have p137:0≤((ji24):Int):=of_decide_eq_true (by first|(with_reducible assumption)|assumption)
                       have q137:(ji24) < (y132.length:Int):=of_decide_eq_true (by first|(with_reducible assumption)|assumption)
                       obtain⟨ad137,e137,hx137_0⟩:=Kd.at_string (Kd.R_reads' HO_10.out).2.2 (ji24) p137 q137
                       cases e137
                       replace p137:=eq_true p137
                       replace q137:=eq_true q137
                       have p138:0≤(x11_1:Int):=of_decide_eq_true (by first|(with_reducible assumption)|assumption)
                       have q138:x11_1 < (l3.length:Int):=of_decide_eq_true (by first|(with_reducible assumption)|assumption)
                       obtain⟨ad138,e138,hx138_0⟩:=Kd.at_int HR3.out x11_1 p138 q138
                       obtain rfl:ad135=ad138:=(by injection e138)
                       replace hx138_0:=(HB.out.cell (World.block_lt_of_cell? w _ hx138_0)).trans hx138_0
                       replace p138:=eq_true p138
                       replace q138:=eq_true q138
                       go_wp2
                       repeat (go_quiet (fail);try go_wp2)
                       go_roundg kj16
                       case measure=>have:=HK1.out;have:=HJ10.out;have:=HJ16.out;omega
                       case rel=>exact⟨(((x9_1.extract 0 (x12_16:Int).toNat)++(zB5 ByteArray.empty y132 (ji24)))++(x9_1.extract ((ji29):Int).toNat x9_1.size)),(wrap64 (x11_1+1)),(by first|rfl|(simp;done)|(simp only[← hji24,← hji29]<;>(first|rfl|simp))|(simp[*];done)),(by first|rfl|(simp;done)|(simp[*];done)),H',⟨by have:=HK1.out;have:=HJ10.out;have:=HJ16.out;omega⟩,⟨by(with_reducible repeat (first|apply Kd.R_alloc|apply Kd.R_drewN|apply Kd.R_drew));exact HO_10.out⟩,⟨by repeat (first|(with_reducible first|exact HB.out|apply zAb|apply zAa|apply zAc)|exact HB.out)⟩⟩
                      ·rw[if_neg c32] at H
                       exact absurd H (by simp)
                     ·rw[if_neg c31] at H
                      exact absurd H (by simp)
                    ·rw[if_neg c30] at H
                     exact absurd H (by simp)
                  ·rw[if_neg c27] at H
                   exact absurd H (by simp)
                 ·rw[if_neg c26] at H
                  exact absurd H (by simp)
                ·rw[if_neg c25] at H
                 exact absurd H (by simp)
              ·rw[if_neg c22] at H
               exact absurd H (by simp)
             ·rw[if_neg c21] at H
              exact absurd H (by simp)
            ·rw[if_neg c20] at H
             exact absurd H (by simp)
           ·rw[if_neg c19] at H
            exact absurd H (by simp)
       ·rw[if_neg c15] at H
        exact absurd H (by simp)
      ·rw[if_neg c14] at H
       exact absurd H (by simp)
     ·replace c13:=Bool.eq_false_iff.mpr c13
      subst c13
      have H1:(some x9_1)=some r:=by rw[if_neg (show ¬ (false=true) by decide)] at H;exact H
      clear H
      have H:=H1
      clear H1
      obtain rfl:=Option.some.inj H
      go_wp2
      repeat (go_quiet (fail);try go_wp2)
      go_ret
      exact⟨by first|rfl|(simp[errW_none,errW_some]<;>rfl)|(simp[*,errW_none,errW_some]<;>rfl),by repeat (first|(with_reducible first|exact HB.out|apply zAb|apply zAa|apply zAc)|exact HB.out)⟩
def gleberef1_last.l0:Nat→ByteArray→Int→Int→Option (Int)
 |0,_,_,_=>none
 |k+1,x0,x1,x5=>if x5 ≥ 0 then(if 0≤x5 then(if x5 < (x0.size:Int) then(if(bt x0 x5)=x1 then(some x5) else(gleberef1_last.l0 k x0 x1 (wrap64 (x5 - 1)))) else(none)) else(none)) else(some (-1))
def gleberef1_last.f (k:Nat)(a0:ByteArray)(a1:Int):Option (Int):=gleberef1_last.l0 k a0 a1 (wrap64 ((a0.size:Int) - 1))
set_option maxRecDepth 100000 in
theorem gleberef1_last.calls (k:Nat)(a0:ByteArray)(a1:Int)(r:Int)(w:World)(hG:GoodW w)(h:gleberef1_last.f k a0 a1=some r):
  Calls Tryz.prog 62 #[.string a0,.int .u8 a1] w fun e w'=>e=.returned (.int .i64 r)∧Drawn0 w w':=by
 have H:=h
 unfold gleberef1_last.f at H
 clear h
 have H':=Aside0.mk H
 clear H
 go_enter Tryz.func62,Tryz.ntmps62
 go_wp2
 go_loopg [5] k (fun kq v5 w'=>∃ (x5_1:Int),v5=.int .i64 x5_1∧Aside0 (gleberef1_last.l0 kq a0 a1 x5_1=some r)∧Aside0 (kq≤k)∧Drawn0 w w')
 case atStart=>exact⟨(wrap64 ((a0.size:Int) - 1)),(by first|rfl|(simp;done)|(simp[*];done)),H',⟨Nat.le_refl _⟩,by repeat (first|exact Drawn0.refl _|apply Drawn0.step)⟩
 case round=>
  clear H'
  try clear p2
  obtain⟨x5_1,rfl,HA,HK1,⟨m1,rfl⟩⟩:=hrel
  cases gk with
  |zero=>exact absurd HA.out (by simp[gleberef1_last.l0])
  |succ k1=>
   have H:=HA.out
   clear HA
   simp only[gleberef1_last.l0] at H
   by_cases c3:x5_1 ≥ 0
   ·rw[if_pos c3] at H
    have c3b0:=decide_eq_true c3
    clear c3
    by_cases c4:0≤x5_1
    ·rw[if_pos c4] at H
     have c4b0:=decide_eq_true c4
     clear c4
     by_cases c5:x5_1 < (a0.size:Int)
     ·rw[if_pos c5] at H
      have c5b0:=decide_eq_true c5
      clear c5
      by_cases c7:(bt a0 x5_1)=a1
      ·rw[if_pos c7] at H
       have c7b0:((bt a0 x5_1)==a1)=true:=beq_iff_eq.mpr c7
       have c7b1:((bt a0 x5_1) != a1)=false:=bne_eq_false_iff_eq.mpr c7
       clear c7
       obtain rfl:=Option.some.inj H
       have p6:0≤(x5_1:Int):=of_decide_eq_true (by first|(with_reducible assumption)|assumption)
       have q6:x5_1 < (a0.size:Int):=of_decide_eq_true (by first|(with_reducible assumption)|assumption)
       have hx6:=zD2 a0 x5_1
       replace p6:=eq_true p6
       replace q6:=eq_true q6
       go_wp2
       go_ret
       exact⟨by first|rfl|(simp;done)|(simp[*];done),by repeat (first|exact Drawn0.refl _|apply Drawn0.step)⟩
      ·rw[if_neg c7] at H
       have c7b0:((bt a0 x5_1)==a1)=false:=beq_eq_false_iff_ne.mpr c7
       have c7b1:((bt a0 x5_1) != a1)=true:=bne_iff_ne.mpr c7
       have H':=Aside0.mk H
       clear H
       have p6:0≤(x5_1:Int):=of_decide_eq_true (by first|(with_reducible assumption)|assumption)
       have q6:x5_1 < (a0.size:Int):=of_decide_eq_true (by first|(with_reducible assumption)|assumption)
       have hx6:=zD2 a0 x5_1
       replace p6:=eq_true p6
       replace q6:=eq_true q6
       go_wp2
       go_roundg k1
       case measure=>have:=HK1.out;omega
       case rel=>exact⟨(wrap64 (x5_1 - 1)),(by first|rfl|(simp;done)|(simp[*];done)),H',⟨by have:=HK1.out;omega⟩,by repeat (first|exact Drawn0.refl _|apply Drawn0.step)⟩
     ·rw[if_neg c5] at H
      exact absurd H (by simp)
    ·rw[if_neg c4] at H
     exact absurd H (by simp)
   ·rw[if_neg c3] at H
    have c3b0:decide (0≤x5_1)=false:=decide_eq_false c3
    clear c3
    obtain rfl:=Option.some.inj H
    go_wp2
    go_ret
    exact⟨by first|rfl|(simp;done)|(simp[*];done),by repeat (first|exact Drawn0.refl _|apply Drawn0.step)⟩
def gleberef1_Split.l0:Nat→ByteArray→Int→List ByteArray→Int→Int→Option (List ByteArray)
 |0,_,_,_,_,_=>none
 |k+1,x0,x1,x5,x6,x7=>if x7≤(x0.size:Int) then(if x7=(x0.size:Int) then(if 0≤x6 then(if x6≤x7 then(if x5.length < 8796093022208 then(gleberef1_Split.l0 k x0 x1 (x5++[x0.extract (x6:Int).toNat (x7:Int).toNat]) (wrap64 (x7+1)) (wrap64 (x7+1))) else(none)) else(none)) else(none)) else(if 0≤x7 then(if x7 < (x0.size:Int) then(if(bt x0 x7)=x1 then(if 0≤x6 then(if x6≤x7 then(if x5.length < 8796093022208 then(gleberef1_Split.l0 k x0 x1 (x5++[x0.extract (x6:Int).toNat (x7:Int).toNat]) (wrap64 (x7+1)) (wrap64 (x7+1))) else(none)) else(none)) else(none)) else(gleberef1_Split.l0 k x0 x1 x5 x6 (wrap64 (x7+1)))) else(none)) else(none))) else(some x5)
def gleberef1_Split.f (k:Nat)(a0:ByteArray)(a1:Int):Option (List ByteArray):=gleberef1_Split.l0 k a0 a1 ([]:List ByteArray) 0 0
set_option maxRecDepth 100000 in
theorem gleberef1_Split.calls (k:Nat)(a0:ByteArray)(a1:Int)(r:List ByteArray)(w:World)(hG:GoodW w)(h:gleberef1_Split.f k a0 a1=some r):
  Calls Tryz.prog 79 #[.string a0,.int .u8 a1] w fun e w'=>∃ v0_:Value,e=.returned (v0_)∧Kd.R Kd.string 9 w' w.heap.size (fun _=>True) v0_ r∧Below w.heap.size w w':=by
 have HB:=Aside0.mk (Below.refl w.heap.size w)
 have H:=h
 unfold gleberef1_Split.f at H
 clear h
 have H':=Aside0.mk H
 clear H
 go_enter Tryz.func79,Tryz.ntmps79
 go_wp2
 go_loopg [5,6,7] k (fun kq v5 v6 v7 w'=>∃ (x5_1:List ByteArray) (x6_1:Int) (x7_1:Int),v6=.int .i64 x6_1∧v7=.int .i64 x7_1∧Aside0 (gleberef1_Split.l0 kq a0 a1 x5_1 x6_1 x7_1=some r)∧Aside0 (kq≤k)∧Aside0 (Kd.R Kd.string 9 w' w.heap.size (fun _=>True) v5 x5_1)∧Aside0 (Below w.heap.size w w'))
 case atStart=>exact⟨(([]:List ByteArray)),(0),(0),(by first|rfl|(simp;done)|(simp[*];done)),(by first|rfl|(simp;done)|(simp[*];done)),H',⟨Nat.le_refl _⟩,⟨by first|exact Kd.R_nil _ _ _ _ _|exact Kd.N_nil _ _ _ _ _|exact Kd.V_nil _ _ _ _ _|exact Kd.Q_nil _ _ _ _ _|exact Kd.S_nil _ _ _ _ _⟩,⟨by repeat (first|(with_reducible first|exact HB.out|apply zAb|apply zAa|apply zAc)|exact HB.out)⟩⟩
 case round=>
  clear H'
  try clear p2
  obtain⟨x5_1,x6_1,x7_1,rfl,rfl,HA,HK1,HO_5,HB⟩:=hrel
  cases gk with
  |zero=>exact absurd HA.out (by simp[gleberef1_Split.l0])
  |succ k1=>
   have H:=HA.out
   clear HA
   simp only[gleberef1_Split.l0] at H
   by_cases c3:x7_1≤(a0.size:Int)
   ·rw[if_pos c3] at H
    have c3b0:=decide_eq_true c3
    clear c3
    by_cases c4:x7_1=(a0.size:Int)
    ·rw[if_pos c4] at H
     have c4b0:(x7_1==(a0.size:Int))=true:=beq_iff_eq.mpr c4
     have c4b1:(x7_1 != (a0.size:Int))=false:=bne_eq_false_iff_eq.mpr c4
     clear c4
     by_cases c5:0≤x6_1
     ·rw[if_pos c5] at H
      have c5b0:=eq_true c5
      have c5b1:=decide_eq_true c5
      clear c5
      by_cases c6:x6_1≤x7_1
      ·rw[if_pos c6] at H
       have c6b0:=eq_true c6
       have c6b1:=decide_eq_true c6
       clear c6
       have c7b0:=eq_true (of_decide_eq_true (by first|(with_reducible assumption)|assumption):x7_1≤(a0.size:Int))
       by_cases c8:x5_1.length < 8796093022208
       ·rw[if_pos c8] at H
        have LMc8:=Aside0.mk c8
        clear c8
        obtain⟨y139,hy139⟩:∃ y_:List ByteArray,y_=(x5_1++[a0.extract (x6_1:Int).toNat (x7_1:Int).toNat]):=⟨_,rfl⟩
        replace H:(gleberef1_Split.l0 k1 a0 a1 y139 (wrap64 (x7_1+1)) (wrap64 (x7_1+1)))=some r:=by first|(rw[hy139];with_reducible exact H)|(have H2_:=(Option.bind_some _ _).symm.trans H;rw[hy139];with_reducible exact H2_)|(have H2_:=(Option.bind_some _ _).symm.trans H;with_reducible exact H2_)|with_reducible exact H|(rw[hy139];exact H)|exact H
        have Ny139:=Aside0.mk hy139
        clear hy139
        have H':=Aside0.mk H
        clear H
        go_wp2_with (first|((with_reducible refine zCs (b:=.append) (xs:=#[.tmp 25,.tmp 30]) rfl ?_);at_builtin;refine Kd.R_append Kd.string (w0:=w) w.heap.size rfl (.tmp 25) (.tmp 30) 36 9 (.string ⟨#[]⟩) 16 rfl Tryz.underlying36 info9 rfl (by decide) (by omega) u5 x5_1 (a0.extract (x6_1:Int).toNat (x7_1:Int).toNat) [.string (a0.extract (x6_1:Int).toNat (x7_1:Int).toNat)] (fun _=>True) (fun _=>False) rfl rfl ?aP (fun _ hk=>hk.elim) ?aF ?aO ?aB ?aS ?aL ?_;(case aP=>exact rfl);(case aB=>exact(by repeat (first|(with_reducible first|exact HB.out|apply zAb|apply zAa|apply zAc)|exact HB.out)));(case aF=>exact(fun _ _=>trivial));(case aO=>exact(by(with_reducible repeat (first|apply Kd.R_alloc|apply Kd.R_drewN|apply Kd.R_drew));exact HO_5.out));(case aS=>exact(zAp (by repeat (first|(with_reducible first|exact HB.out|apply zAb|apply zAa|apply zAc)|exact HB.out))));(case aL=>have:=LMc8.out;omega);intro v140 w9 ho hb hg hat;rw[← Ny139.out] at ho;have n0_:=Aside0.mk (hb);have n1_:=Aside0.mk (ho);clear HB;clear HO_5;have HB:=n0_;have HO141:=n1_;clear n0_ n1_;clear ho hb hg hat))
        go_roundg k1
        case measure=>have:=HK1.out;omega
        case rel=>exact⟨(y139),(wrap64 (x7_1+1)),(wrap64 (x7_1+1)),(by first|rfl|(simp;done)|(simp[*];done)),(by first|rfl|(simp;done)|(simp[*];done)),H',⟨by have:=HK1.out;omega⟩,⟨by(with_reducible repeat (first|apply Kd.R_alloc|apply Kd.R_drewN|apply Kd.R_drew));exact HO141.out⟩,⟨by repeat (first|(with_reducible first|exact HB.out|apply zAb|apply zAa|apply zAc)|exact HB.out)⟩⟩
       ·rw[if_neg c8] at H
        exact absurd H (by simp)
      ·rw[if_neg c6] at H
       exact absurd H (by simp)
     ·rw[if_neg c5] at H
      exact absurd H (by simp)
    ·rw[if_neg c4] at H
     have c4b0:(x7_1==(a0.size:Int))=false:=beq_eq_false_iff_ne.mpr c4
     have c4b1:(x7_1 != (a0.size:Int))=true:=bne_iff_ne.mpr c4
     by_cases c10:0≤x7_1
     ·rw[if_pos c10] at H
      have c10b0:=decide_eq_true c10
      clear c10
      by_cases c11:x7_1 < (a0.size:Int)
      ·rw[if_pos c11] at H
       have c11b0:=decide_eq_true c11
       clear c11
       by_cases c13:(bt a0 x7_1)=a1
       ·rw[if_pos c13] at H
        have c13b0:((bt a0 x7_1)==a1)=true:=beq_iff_eq.mpr c13
        have c13b1:((bt a0 x7_1) != a1)=false:=bne_eq_false_iff_eq.mpr c13
        clear c13
        by_cases c14:0≤x6_1
        ·rw[if_pos c14] at H
         have c14b0:=eq_true c14
         have c14b1:=decide_eq_true c14
         clear c14
         by_cases c15:x6_1≤x7_1
         ·rw[if_pos c15] at H
          have c15b0:=eq_true c15
          have c15b1:=decide_eq_true c15
          clear c15
          have c16b0:=eq_true (of_decide_eq_true (by first|(with_reducible assumption)|assumption):x7_1≤(a0.size:Int))
          by_cases c17:x5_1.length < 8796093022208
          ·rw[if_pos c17] at H
           have LMc17:=Aside0.mk c17
           clear c17
           obtain⟨y142,hy142⟩:∃ y_:List ByteArray,y_=(x5_1++[a0.extract (x6_1:Int).toNat (x7_1:Int).toNat]):=⟨_,rfl⟩
           replace H:(gleberef1_Split.l0 k1 a0 a1 y142 (wrap64 (x7_1+1)) (wrap64 (x7_1+1)))=some r:=by first|(rw[hy142];with_reducible exact H)|(have H2_:=(Option.bind_some _ _).symm.trans H;rw[hy142];with_reducible exact H2_)|(have H2_:=(Option.bind_some _ _).symm.trans H;with_reducible exact H2_)|with_reducible exact H|(rw[hy142];exact H)|exact H
           have Ny142:=Aside0.mk hy142
           clear hy142
           have H':=Aside0.mk H
           clear H
           have p12:0≤(x7_1:Int):=of_decide_eq_true (by first|(with_reducible assumption)|assumption)
           have q12:x7_1 < (a0.size:Int):=of_decide_eq_true (by first|(with_reducible assumption)|assumption)
           have hx12:=zD2 a0 x7_1
           replace p12:=eq_true p12
           replace q12:=eq_true q12
           go_wp2_with (first|((with_reducible refine zCs (b:=.append) (xs:=#[.tmp 25,.tmp 30]) rfl ?_);at_builtin;refine Kd.R_append Kd.string (w0:=w) w.heap.size rfl (.tmp 25) (.tmp 30) 36 9 (.string ⟨#[]⟩) 16 rfl Tryz.underlying36 info9 rfl (by decide) (by omega) u5 x5_1 (a0.extract (x6_1:Int).toNat (x7_1:Int).toNat) [.string (a0.extract (x6_1:Int).toNat (x7_1:Int).toNat)] (fun _=>True) (fun _=>False) rfl rfl ?aP (fun _ hk=>hk.elim) ?aF ?aO ?aB ?aS ?aL ?_;(case aP=>exact rfl);(case aB=>exact(by repeat (first|(with_reducible first|exact HB.out|apply zAb|apply zAa|apply zAc)|exact HB.out)));(case aF=>exact(fun _ _=>trivial));(case aO=>exact(by(with_reducible repeat (first|apply Kd.R_alloc|apply Kd.R_drewN|apply Kd.R_drew));exact HO_5.out));(case aS=>exact(zAp (by repeat (first|(with_reducible first|exact HB.out|apply zAb|apply zAa|apply zAc)|exact HB.out))));(case aL=>have:=LMc17.out;omega);intro v143 w18 ho hb hg hat;rw[← Ny142.out] at ho;have n0_:=Aside0.mk (hb);have n1_:=Aside0.mk (ho);clear HB;clear HO_5;have HB:=n0_;have HO144:=n1_;clear n0_ n1_;clear ho hb hg hat))
           go_roundg k1
           case measure=>have:=HK1.out;omega
           case rel=>exact⟨(y142),(wrap64 (x7_1+1)),(wrap64 (x7_1+1)),(by first|rfl|(simp;done)|(simp[*];done)),(by first|rfl|(simp;done)|(simp[*];done)),H',⟨by have:=HK1.out;omega⟩,⟨by(with_reducible repeat (first|apply Kd.R_alloc|apply Kd.R_drewN|apply Kd.R_drew));exact HO144.out⟩,⟨by repeat (first|(with_reducible first|exact HB.out|apply zAb|apply zAa|apply zAc)|exact HB.out)⟩⟩
          ·rw[if_neg c17] at H
           exact absurd H (by simp)
         ·rw[if_neg c15] at H
          exact absurd H (by simp)
        ·rw[if_neg c14] at H
         exact absurd H (by simp)
       ·rw[if_neg c13] at H
        have c13b0:((bt a0 x7_1)==a1)=false:=beq_eq_false_iff_ne.mpr c13
        have c13b1:((bt a0 x7_1) != a1)=true:=bne_iff_ne.mpr c13
        have H':=Aside0.mk H
        clear H
        have p12:0≤(x7_1:Int):=of_decide_eq_true (by first|(with_reducible assumption)|assumption)
        have q12:x7_1 < (a0.size:Int):=of_decide_eq_true (by first|(with_reducible assumption)|assumption)
        have hx12:=zD2 a0 x7_1
        replace p12:=eq_true p12
        replace q12:=eq_true q12
        go_wp2
        go_roundg k1
        case measure=>have:=HK1.out;omega
        case rel=>exact⟨(x5_1),(x6_1),(wrap64 (x7_1+1)),(by first|rfl|(simp;done)|(simp[*];done)),(by first|rfl|(simp;done)|(simp[*];done)),H',⟨by have:=HK1.out;omega⟩,⟨by(with_reducible repeat (first|apply Kd.R_alloc|apply Kd.R_drewN|apply Kd.R_drew));exact HO_5.out⟩,⟨by repeat (first|(with_reducible first|exact HB.out|apply zAb|apply zAa|apply zAc)|exact HB.out)⟩⟩
      ·rw[if_neg c11] at H
       exact absurd H (by simp)
     ·rw[if_neg c10] at H
      exact absurd H (by simp)
   ·rw[if_neg c3] at H
    have c3b0:decide (x7_1≤(a0.size:Int))=false:=decide_eq_false c3
    clear c3
    obtain rfl:=Option.some.inj H
    go_wp2
    go_ret
    exact⟨_,by first|rfl|(simp[errW_none,errW_some]<;>rfl)|(simp[*,errW_none,errW_some]<;>rfl),by(with_reducible repeat (first|apply Kd.R_alloc|apply Kd.R_drewN|apply Kd.R_drew));exact HO_5.out,by repeat (first|(with_reducible first|exact HB.out|apply zAb|apply zAa|apply zAc)|exact HB.out)⟩
end Go.Proofs.YtfnacgojmdbjmaaGreatDoor.PPPT
end

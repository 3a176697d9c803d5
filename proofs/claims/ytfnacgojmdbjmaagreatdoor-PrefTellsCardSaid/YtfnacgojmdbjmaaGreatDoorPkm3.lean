/- Texts of a proof, joined: words of the print (those that are named here) and printed functions. -/
import Derived.Test.YtfnacgojmdbjmaaGreatDoorPkm2
import Derived.Shelf.Strings.Builder1
import Derived.Shelf.Strings.Builder2
import Derived.Shelf.Strings.OnBuilder
import Derived.Shelf.Small.Strs
import Derived.Shelf.Utf8.RuneCount
import Derived.Shelf.Strconv.Itoa0
import Derived.Shelf.Strconv.Itoa1
import Derived.Shelf.LaysM
import Derived.Shelf.Strconv.Itoa2
import Derived.Shelf.Strings.Search1
import Derived.Shelf.Strings.Search2
import Derived.Shelf.Strings.Search3
import Derived.Shelf.Strings.Cut
import Derived.Shelf.Strings.Count
import Derived.Shelf.Strings.Shaped
import Derived.Shelf.Strings.Split
import Derived.Shelf.Strings.SplitShaped
import Derived.Shelf.Unicode.Decode
import Derived.Shelf.Strings.RuneCount
import Derived.Shelf.Strings.Explode
import Derived.Shelf.Unicode.DecodeSlow
import Derived.Shelf.Unicode.DecodeAny
import Derived.Test.YtfnacgojmdbjmaaGreatDoorProg
import Derived.Below
import Derived.Deep.Draws
import Derived.Deep.AppendLies
import Derived.Maps.AppendAt
import Derived.OwnWalk
import Derived.Laws.BytesArg
import Derived.Laws.MakeOwn
import Derived.Laws.OwnMore
import Derived.Deep.OwnRows
import Derived.Tactics
import Derived.Lib.ConvBytes
import Derived.Laws.Slices
import Derived.WalkKit
import Derived.KernelRfl
import Derived.RowKit3
import Derived.Deep.LoopGhost
import Derived.Deep.QuietTactic
import Derived.BigQuiet
import Derived.WideLaws
import Derived.Deep.DeepCutAuto
import Derived.Deep.CutBlock
import Derived.Deep.RegionHeld3
import Derived.Laws.Rows
import Derived.Lib.AppendStr
import Derived.ArgAppend
import Derived.Laws.IdiomCopy
import Derived.RowKit
import Derived.OrdersHeld
import Derived.Laws.BitsLemmas
import Derived.Laws.StructEq
import Derived.SizedLaws
import Derived.ChangeSlices
set_option linter.unusedSimpArgs false
set_option linter.unusedVariables false
set_option maxRecDepth 100000
set_option maxHeartbeats 8000000
noncomputable section
namespace Go.Proofs.YtfnacgojmdbjmaaGreatDoor.PRD
open Go.RowKit YtfnacgojmdbjmaaGreatDoorW.PrintWords YtfnacgojmdbjmaaGreatDoorW.PrintLast YtfnacgojmdbjmaaGreatDoorW.PrintMore
attribute [local go_sem] zEz zE0 zG2 zG3 zDy zDz zE1 zE2
open Go.Det (inQ M64 zCh qn zXk zJo zFk)
def gleberef1_Mask.l0:Nat→Int→Int→Int→Int→Option (Int×Int)
 |0,_,_,_,_=>none
 |k+1,x0,x4,x103000,x103001=>if x4 < x0 then(if x4 < 64 then(if 0≤(IntKind.u64.wrap (wrap64 (63 - x4))) then(gleberef1_Mask.l0 k x0 (wrap64 (x4+1)) (Go.bits .or .u64 x103000 (shl .u64 1 (IntKind.u64.wrap (wrap64 (63 - x4))))) x103001) else(none)) else(if 0≤(IntKind.u64.wrap (wrap64 (127 - x4))) then(gleberef1_Mask.l0 k x0 (wrap64 (x4+1)) x103000 (Go.bits .or .u64 x103001 (shl .u64 1 (IntKind.u64.wrap (wrap64 (127 - x4)))))) else(none))) else(some (x103000,x103001))
def gleberef1_Mask.f (k:Nat)(a0:Int):Option (Int×Int):=gleberef1_Mask.l0 k (mn (mx a0 0) 128) 0 0 0
theorem gleberef1_Mask.mono_l:∀ k,(∀ y0 y1 y2 y3,LeO (gleberef1_Mask.l0 k y0 y1 y2 y3) (gleberef1_Mask.l0 (k+1) y0 y1 y2 y3))
 |0=>fun _ _ _ _ r h=>by simp[gleberef1_Mask.l0] at h
 |k+1=>by
  have ih0:=gleberef1_Mask.mono_l k
  ·intro y0 y1 y2 y3
   unfold gleberef1_Mask.l0
   repeat' first
   |(with_reducible exact ih0 _ _ _ _)
   |(with_reducible exact LeO.refl _)
   |(with_reducible exact LeO.none _)
   |(with_reducible refine LeO.ite ?_ ?_)
   |(with_reducible refine LeO.bind ?_ (fun _=>?_))
   |exact ih0 _ _ _ _
   |exact LeO.none _
   |refine LeO.ite ?_ ?_
   |refine LeO.bind ?_ (fun _=>?_)
theorem gleberef1_Mask.mono:∀ a0 k,LeO (gleberef1_Mask.f k a0) (gleberef1_Mask.f (k+1) a0):=by
 intro a0 k
 have ih0:=gleberef1_Mask.mono_l k
 unfold gleberef1_Mask.f
 repeat' first
   |(with_reducible exact ih0 _ _ _ _)
   |(with_reducible exact LeO.refl _)
   |(with_reducible exact LeO.none _)
   |(with_reducible refine LeO.ite ?_ ?_)
   |(with_reducible refine LeO.bind ?_ (fun _=>?_))
   |exact ih0 _ _ _ _
   |exact LeO.none _
   |refine LeO.ite ?_ ?_
   |refine LeO.bind ?_ (fun _=>?_)
set_option maxRecDepth 100000 in
theorem gleberef1_Mask.calls (k:Nat)(a0:Int)(r1:Int)(r2:Int)(w:World)(hG:GoodW w)(h:gleberef1_Mask.f k a0=some (r1,r2)):
  Calls Tryz.prog 56 #[.int .i64 a0] w fun e w'=>e=.returned (.agg #[.int .u64 r1,.int .u64 r2])∧Below w.heap.size w w':=by
 have hu26:=Tryz.underlying26
 have HB:=Aside0.mk (Below.refl w.heap.size w)
 have H:=h
 unfold gleberef1_Mask.f at H
 clear h
 obtain⟨ji2,hji2⟩:∃ j_:Int,(mx a0 0)=j_:=⟨_,rfl⟩
 replace H:(gleberef1_Mask.l0 k (mn (ji2) 128) 0 0 0)=some (r1,r2):=by first|(rw[hji2] at H;exact H)|(simp only[hji2] at H ⊢;exact H)
 (try(have hji2l:0≤ji2:=by(rw[← hji2];unfold mx;(repeat' split)<;>omega)))
 (try(have hji2m:0≤ji2:=by omega))
 have hji2_:(if a0 < 0 then 0 else a0)=ji2:=hji2
 obtain⟨ji3,hji3⟩:∃ j_:Int,(mn (ji2) 128)=j_:=⟨_,rfl⟩
 replace H:(gleberef1_Mask.l0 k ji3 0 0 0)=some (r1,r2):=by first|(rw[hji3] at H;exact H)|(simp only[hji3] at H ⊢;exact H)
 have hji3_:(if 128 < (ji2) then 128 else(ji2))=ji3:=hji3
 have H':=Aside0.mk H
 clear H
 go_enter Tryz.func56,Tryz.ntmps56
 go_wp2_with (first|((with_reducible refine zBv (N:=2) rfl ?_);refine zCr ?hg (N:=2) ?hd (cs:=#[.int .u64 0,.int .u64 0]) (t:=26) ?hr ?_;(case hd=>rfl);(case hg=>rfl);(case hr=>first|(go_simp;done)|(go_simp;rfl));intro gb101 hg w4 hbox hb;have n0_:=Aside0.mk (zAi (by repeat (first|(with_reducible first|exact HB.out|apply zAb|apply zAa|apply zAc)|exact HB.out)) hb);have n1_:=Aside0.mk (hbox);have n2_:=Aside0.mk ((by rw[hg];exact(zAp (by repeat (first|(with_reducible first|exact HB.out|apply zAb|apply zAa|apply zAc)|exact HB.out))):w.heap.size≤gb101));have n3_:=Aside0.mk ((by rw[hg];exact(zAp (by repeat (first|(with_reducible first|exact HB.out|apply zAb|apply zAa|apply zAc)|exact HB.out))):w.heap.size≤gb101));clear HB;have HB:=n0_;have BK101:=n1_;have GW101:=n2_;have GE101:=n3_;clear n0_ n1_ n2_ n3_;clear hb hbox hg)|((with_reducible refine zBv (N:=3) rfl ?_);refine zCr ?hg (N:=3) ?hd (cs:=#[.int .u64 0,.int .u64 0]) (t:=26) ?hr ?_;(case hd=>rfl);(case hg=>rfl);(case hr=>first|(go_simp;done)|(go_simp;rfl));intro gb102 hg w5 hbox hb;have n0_:=Aside0.mk (zBr (g:=gb101) (o:=.cells #[.int .u64 0,.int .u64 0] 26 (0,0)) (by(with_reducible repeat (first|refine zAf ?_ _|refine zAk ?_|refine zAe ?_ _));exact BK101.out) hb);have n1_:=Aside0.mk (zAi (by repeat (first|(with_reducible first|exact HB.out|apply zAb|apply zAa|apply zAc|refine zAg ?_ GE101.out)|exact HB.out)) hb);have n2_:=Aside0.mk (hbox);have n3_:=Aside0.mk ((by rw[hg];exact(zAp (by repeat (first|(with_reducible first|exact HB.out|apply zAb|apply zAa|apply zAc|refine zAg ?_ GE101.out)|exact HB.out))):w.heap.size≤gb102));have n4_:=Aside0.mk ((by rw[hg];exact(zAp (by repeat (first|(with_reducible first|exact HB.out|apply zAb|apply zAa|apply zAc|refine zAg ?_ GE101.out)|exact HB.out))):w.heap.size≤gb102));have n5_:=Aside0.mk ((by rw[hg];exact Nat.ne_of_lt (zOa (g:=gb101) (o:=.cells #[.int .u64 0,.int .u64 0] 26 (0,0)) (by(with_reducible repeat (first|refine zAf ?_ _|refine zAk ?_|refine zAe ?_ _));exact BK101.out)):gb101≠gb102));have n6_:=Aside0.mk ((by rw[hg];exact Nat.ne_of_gt (zOa (g:=gb101) (o:=.cells #[.int .u64 0,.int .u64 0] 26 (0,0)) (by(with_reducible repeat (first|refine zAf ?_ _|refine zAk ?_|refine zAe ?_ _));exact BK101.out)):gb102≠gb101));clear BK101;clear HB;have BK101:=n0_;have HB:=n1_;have BK102:=n2_;have GW102:=n3_;have GE102:=n4_;have NB101_102:=n5_;have NB102_101:=n6_;clear n0_ n1_ n2_ n3_ n4_ n5_ n6_;clear hb hbox hg;have hnb6:=NB102_101.out;have hnc6:=NB101_102.out;have hcz7_0:w5.cell? ⟨gb102,0,none⟩=some (.int .u64 0):=(zAq BK102.out 0).trans rfl;have hcz7_1:w5.cell? ⟨gb102,1,none⟩=some (.int .u64 0):=(zAq BK102.out 1).trans rfl;have hfz7_0:=zAj BK102.out 0;have hfz7_1:=zAj BK102.out 1))
 go_loopg [4] k (fun kq v4 w'=>∃ (x4_1:Int) (x103000_1:Int) (x103001_1:Int),v4=.int .i64 x4_1∧Aside0 (gleberef1_Mask.l0 kq ji3 x4_1 x103000_1 x103001_1=some (r1,r2))∧Aside0 (kq≤k)∧Aside0 (w'.heap[gb101]?=some (.cells #[.int .u64 0,.int .u64 0] 26 (0,0)))∧Aside0 (w'.heap[gb102]?=some (.cells #[.int .u64 x103000_1,.int .u64 x103001_1] 26 (0,0)))∧Aside0 (Below w.heap.size w w'))
 case atStart=>exact⟨(0),(0),(0),(by first|rfl|(simp;done)|(simp[*];done)),H',⟨Nat.le_refl _⟩,⟨by(with_reducible repeat (first|refine zAf ?_ _|refine zAk ?_|refine zAe ?_ _));refine zG0 ?_ NB101_102.out _;(with_reducible repeat (first|refine zAf ?_ _|refine zAk ?_|refine zAe ?_ _));refine zG0 ?_ NB101_102.out _;(with_reducible repeat (first|refine zAf ?_ _|refine zAk ?_|refine zAe ?_ _));exact BK101.out⟩,⟨by(with_reducible repeat (first|refine zAf ?_ _|refine zAk ?_|refine zAe ?_ _));refine zCy (cs:=#[.int .u64 0,.int .u64 0]) ?_ 1 _ rfl;(with_reducible repeat (first|refine zAf ?_ _|refine zAk ?_|refine zAe ?_ _));refine zCy (cs:=#[.int .u64 0,.int .u64 0]) ?_ 0 _ rfl;(with_reducible repeat (first|refine zAf ?_ _|refine zAk ?_|refine zAe ?_ _));exact BK102.out⟩,⟨by repeat (first|(with_reducible first|exact HB.out|apply zAb|apply zAa|apply zAc|refine zAg ?_ GE101.out|refine zAg ?_ GE102.out)|exact HB.out)⟩⟩
 case round=>
  clear H'
  try clear p2
  try clear c5
  try clear c6
  try clear hcz7_0
  try clear hcz7_1
  try clear hfz7_0
  try clear hfz7_1
  obtain⟨x4_1,x103000_1,x103001_1,rfl,HA,HK1,BK101,BK102,HB⟩:=hrel
  cases gk with
  |zero=>exact absurd HA.out (by simp[gleberef1_Mask.l0])
  |succ k1=>
   have H:=HA.out
   clear HA
   simp only[gleberef1_Mask.l0] at H
   by_cases c8:x4_1 < ji3
   ·rw[if_pos c8] at H
    have c8b0:=decide_eq_true c8
    clear c8
    by_cases c9:x4_1 < 64
    ·rw[if_pos c9] at H
     have c9b0:=decide_eq_true c9
     clear c9
     obtain⟨ji10,hji10⟩:∃ j_:Int,(IntKind.u64.wrap (wrap64 (63 - x4_1)))=j_:=⟨_,rfl⟩
     replace H:(if 0≤(ji10) then(gleberef1_Mask.l0 k1 ji3 (wrap64 (x4_1+1)) (Go.bits .or .u64 x103000_1 (shl .u64 1 (ji10))) x103001_1) else(none))=some (r1,r2):=by first|(rw[hji10] at H;exact H)|(simp only[hji10] at H ⊢;exact H)
     by_cases c11:0≤(ji10)
     ·rw[if_pos c11] at H
      have c11b0:=eq_true c11
      have c11b1:=decide_eq_true c11
      clear c11
      obtain⟨ji12,hji12⟩:∃ j_:Int,(shl .u64 1 (ji10))=j_:=⟨_,rfl⟩
      replace H:(gleberef1_Mask.l0 k1 ji3 (wrap64 (x4_1+1)) (Go.bits .or .u64 x103000_1 (ji12)) x103001_1)=some (r1,r2):=by first|(rw[hji12] at H;exact H)|(simp only[hji12] at H ⊢;exact H)
      have hji12_:(IntKind.u64.wrap (1 * 2 ^ min (ji10).toNat 64))=ji12:=hji12
      have hji12z:(ji10)≤64→(IntKind.u64.wrap (1 * 2 ^ (ji10).toNat))=ji12:=zIz hji12
      have hji12u:(IntKind.u64.wrap (2 ^ min (ji10).toNat 64))=ji12:=by have h_:=hji12_;rw[Int.one_mul] at h_;exact h_
      have hji12v:(ji10)≤64→(IntKind.u64.wrap (2 ^ (ji10).toNat))=ji12:=fun hle_=>by have h_:=hji12z hle_;rw[Int.one_mul] at h_;exact h_
      have H':=Aside0.mk H
      clear H
      have hnb13:=NB102_101.out
      have hnc13:=NB101_102.out
      have hcz14_0:wr.cell? ⟨gb102,0,none⟩=some (.int .u64 x103000_1):=(zAq BK102.out 0).trans rfl
      have hcz14_1:wr.cell? ⟨gb102,1,none⟩=some (.int .u64 x103001_1):=(zAq BK102.out 1).trans rfl
      have hfz14_0:=zAj BK102.out 0
      have hfz14_1:=zAj BK102.out 1
      go_wp2
      go_roundg k1
      case measure=>have:=HK1.out;omega
      case rel=>exact⟨(wrap64 (x4_1+1)),(Go.bits .or .u64 x103000_1 (ji12)),(x103001_1),(by first|rfl|(simp;done)|(simp[*];done)),H',⟨by have:=HK1.out;omega⟩,⟨by(with_reducible repeat (first|refine zAf ?_ _|refine zAk ?_|refine zAe ?_ _));refine zG0 ?_ NB101_102.out _;(with_reducible repeat (first|refine zAf ?_ _|refine zAk ?_|refine zAe ?_ _));exact BK101.out⟩,⟨by(with_reducible repeat (first|refine zAf ?_ _|refine zAk ?_|refine zAe ?_ _));refine zCy (cs:=#[.int .u64 x103000_1,.int .u64 x103001_1]) ?_ 0 _ rfl;(with_reducible repeat (first|refine zAf ?_ _|refine zAk ?_|refine zAe ?_ _));exact BK102.out⟩,⟨by repeat (first|(with_reducible first|exact HB.out|apply zAb|apply zAa|apply zAc|refine zAg ?_ GE101.out|refine zAg ?_ GE102.out)|exact HB.out)⟩⟩
     ·rw[if_neg c11] at H
      exact absurd H (by simp)
    ·rw[if_neg c9] at H
     have c9b0:decide (x4_1 < 64)=false:=decide_eq_false c9
     clear c9
     obtain⟨ji15,hji15⟩:∃ j_:Int,(IntKind.u64.wrap (wrap64 (127 - x4_1)))=j_:=⟨_,rfl⟩
     replace H:(if 0≤(ji15) then(gleberef1_Mask.l0 k1 ji3 (wrap64 (x4_1+1)) x103000_1 (Go.bits .or .u64 x103001_1 (shl .u64 1 (ji15)))) else(none))=some (r1,r2):=by first|(rw[hji15] at H;exact H)|(simp only[hji15] at H ⊢;exact H)
     by_cases c16:0≤(ji15)
     ·rw[if_pos c16] at H
      have c16b0:=eq_true c16
      have c16b1:=decide_eq_true c16
      clear c16
      obtain⟨ji17,hji17⟩:∃ j_:Int,(shl .u64 1 (ji15))=j_:=⟨_,rfl⟩
      replace H:(gleberef1_Mask.l0 k1 ji3 (wrap64 (x4_1+1)) x103000_1 (Go.bits .or .u64 x103001_1 (ji17)))=some (r1,r2):=by first|(rw[hji17] at H;exact H)|(simp only[hji17] at H ⊢;exact H)
      have hji17_:(IntKind.u64.wrap (1 * 2 ^ min (ji15).toNat 64))=ji17:=hji17
      have hji17z:(ji15)≤64→(IntKind.u64.wrap (1 * 2 ^ (ji15).toNat))=ji17:=zIz hji17
      have hji17u:(IntKind.u64.wrap (2 ^ min (ji15).toNat 64))=ji17:=by have h_:=hji17_;rw[Int.one_mul] at h_;exact h_
      have hji17v:(ji15)≤64→(IntKind.u64.wrap (2 ^ (ji15).toNat))=ji17:=fun hle_=>by have h_:=hji17z hle_;rw[Int.one_mul] at h_;exact h_
      have H':=Aside0.mk H
      clear H
      have hnb18:=NB102_101.out
      have hnc18:=NB101_102.out
      have hcz19_0:wr.cell? ⟨gb102,0,none⟩=some (.int .u64 x103000_1):=(zAq BK102.out 0).trans rfl
      have hcz19_1:wr.cell? ⟨gb102,1,none⟩=some (.int .u64 x103001_1):=(zAq BK102.out 1).trans rfl
      have hfz19_0:=zAj BK102.out 0
      have hfz19_1:=zAj BK102.out 1
      go_wp2
      go_roundg k1
      case measure=>have:=HK1.out;omega
      case rel=>exact⟨(wrap64 (x4_1+1)),(x103000_1),(Go.bits .or .u64 x103001_1 (ji17)),(by first|rfl|(simp;done)|(simp[*];done)),H',⟨by have:=HK1.out;omega⟩,⟨by(with_reducible repeat (first|refine zAf ?_ _|refine zAk ?_|refine zAe ?_ _));refine zG0 ?_ NB101_102.out _;(with_reducible repeat (first|refine zAf ?_ _|refine zAk ?_|refine zAe ?_ _));exact BK101.out⟩,⟨by(with_reducible repeat (first|refine zAf ?_ _|refine zAk ?_|refine zAe ?_ _));refine zCy (cs:=#[.int .u64 x103000_1,.int .u64 x103001_1]) ?_ 1 _ rfl;(with_reducible repeat (first|refine zAf ?_ _|refine zAk ?_|refine zAe ?_ _));exact BK102.out⟩,⟨by repeat (first|(with_reducible first|exact HB.out|apply zAb|apply zAa|apply zAc|refine zAg ?_ GE101.out|refine zAg ?_ GE102.out)|exact HB.out)⟩⟩
     ·rw[if_neg c16] at H
      exact absurd H (by simp)
   ·rw[if_neg c8] at H
    have c8b0:decide (x4_1 < ji3)=false:=decide_eq_false c8
    clear c8
    simp only[Option.some.injEq,Prod.mk.injEq] at H
    obtain⟨rfl,rfl⟩:=H
    have hnb20:=NB102_101.out
    have hnc20:=NB101_102.out
    have hcz21_0:wr.cell? ⟨gb102,0,none⟩=some (.int .u64 x103000_1):=(zAq BK102.out 0).trans rfl
    have hcz21_1:wr.cell? ⟨gb102,1,none⟩=some (.int .u64 x103001_1):=(zAq BK102.out 1).trans rfl
    have hfz21_0:=zAj BK102.out 0
    have hfz21_1:=zAj BK102.out 1
    have hcz22_0:wr.cell? ⟨gb101,0,none⟩=some (.int .u64 0):=(zAq BK101.out 0).trans rfl
    have hcz22_1:wr.cell? ⟨gb101,1,none⟩=some (.int .u64 0):=(zAq BK101.out 1).trans rfl
    have hfz22_0:=zAj BK101.out 0
    have hfz22_1:=zAj BK101.out 1
    go_wp2
    refine bodyPost_ret (results_cell_row rfl _ _ gb101 26 #[.int .u64 x103000_1,.int .u64 x103001_1] (0,0) _ rfl (by(with_reducible repeat (first|refine zAf ?_ _|refine zAk ?_|refine zAe ?_ _));refine zCy (cs:=#[.int .u64 x103000_1,.int .u64 0]) ?_ 1 _ rfl;(with_reducible repeat (first|refine zAf ?_ _|refine zAk ?_|refine zAe ?_ _));refine zCy (cs:=#[.int .u64 0,.int .u64 0]) ?_ 0 _ rfl;(with_reducible repeat (first|refine zAf ?_ _|refine zAk ?_|refine zAe ?_ _));exact BK101.out) Tryz.underlying26 rfl (by kernel_rfl)) rfl ?_
    exact⟨by first|rfl|(simp[errW_none,errW_some]<;>rfl)|(simp only[← hji2,← hji3];first|rfl|(simp[errW_none,errW_some]<;>rfl))|(simp[*,errW_none,errW_some]<;>rfl),by repeat (first|(with_reducible first|exact HB.out|apply zAb|apply zAa|apply zAc|refine zAg ?_ GE101.out|refine zAg ?_ GE102.out)|exact HB.out)⟩
def glebelaw2_Addr.l0:Nat→Int→Int→Int→Int→Option (Int×Int×Int)
 |0,_,_,_,_=>none
 |k+1,x0,x8,x105000,x105001=>if x8 < 8 then(if 0≤(IntKind.u64.wrap (wrap64 (x8+1))) then(if(Go.bits .and .i64 (shr .i64 x0 (IntKind.u64.wrap (wrap64 (x8+1)))) 1)=1 then(if x8 < 4 then(if 0≤(IntKind.u64.wrap (wrap64 (16 * x8))) then(glebelaw2_Addr.l0 k x0 (wrap64 (x8+1)) (Go.bits .andNot .u64 x105000 (shl .u64 65535 (IntKind.u64.wrap (wrap64 (16 * x8))))) x105001) else(none)) else(if 0≤(IntKind.u64.wrap (wrap64 (16 * (wrap64 (x8 - 4))))) then(glebelaw2_Addr.l0 k x0 (wrap64 (x8+1)) x105000 (Go.bits .andNot .u64 x105001 (shl .u64 65535 (IntKind.u64.wrap (wrap64 (16 * (wrap64 (x8 - 4)))))))) else(none))) else(glebelaw2_Addr.l0 k x0 (wrap64 (x8+1)) x105000 x105001)) else(none)) else(some (6,x105000,x105001))
def glebelaw2_Addr.f (k:Nat)(a0:Int)(a1:Int)(a2:Int):Option (Int×Int×Int):=if(Go.bits .and .i64 a0 1)=0 then(if 0≤(IntKind.u64.wrap (wrap64 ((Go.bits .and .i64 (a0 / 2) 3) * 8))) then(some (4,0,shr .u64 (Go.bits .and .u64 a1 4294967295) (IntKind.u64.wrap (wrap64 ((Go.bits .and .i64 (a0 / 2) 3) * 8))))) else(none)) else(glebelaw2_Addr.l0 k a0 0 a1 a2)
set_option maxRecDepth 100000 in
theorem glebelaw2_Addr.calls (k:Nat)(a0:Int)(a1:Int)(a2:Int)(r1:Int)(r2:Int)(r3:Int)(w:World)(hG:GoodW w)(h:glebelaw2_Addr.f k a0 a1 a2=some (r1,r2,r3)):
  Calls Tryz.prog 42 #[.int .i64 a0,.int .u64 a1,.int .u64 a2] w fun e w'=>e=.returned (.agg #[.int .i64 r1,.int .u64 r2,.int .u64 r3])∧Below w.heap.size w w':=by
 have hu28:=Tryz.underlying28
 have hu26:=Tryz.underlying26
 have HB:=Aside0.mk (Below.refl w.heap.size w)
 have H:=h
 unfold glebelaw2_Addr.f at H
 clear h
 by_cases c4:(Go.bits .and .i64 a0 1)=0
 ·rw[if_pos c4] at H
  have c4b0:((Go.bits .and .i64 a0 1)==0)=true:=beq_iff_eq.mpr c4
  have c4b1:((Go.bits .and .i64 a0 1) != 0)=false:=bne_eq_false_iff_eq.mpr c4
  clear c4
  obtain⟨ji5,hji5⟩:∃ j_:Int,(IntKind.u64.wrap (wrap64 ((Go.bits .and .i64 (a0 / 2) 3) * 8)))=j_:=⟨_,rfl⟩
  replace H:(if 0≤(ji5) then(some (4,0,shr .u64 (Go.bits .and .u64 a1 4294967295) (ji5))) else(none))=some (r1,r2,r3):=by first|(rw[hji5] at H;exact H)|(simp only[hji5] at H ⊢;exact H)
  by_cases c6:0≤(ji5)
  ·rw[if_pos c6] at H
   have c6b0:=eq_true c6
   have c6b1:=decide_eq_true c6
   clear c6
   obtain⟨ji7,hji7⟩:∃ j_:Int,(shr .u64 (Go.bits .and .u64 a1 4294967295) (ji5))=j_:=⟨_,rfl⟩
   replace H:(some (4,0,ji7))=some (r1,r2,r3):=by first|(rw[hji7] at H;exact H)|(simp only[hji7] at H ⊢;exact H)
   have hji7_:((Go.bits .and .u64 a1 4294967295) / 2 ^ min (ji5).toNat 64)=ji7:=hji7
   have hji7z:(ji5)≤64→((Go.bits .and .u64 a1 4294967295) / 2 ^ (ji5).toNat)=ji7:=zI0 hji7
   simp only[Option.some.injEq,Prod.mk.injEq] at H
   obtain⟨rfl,rfl,rfl⟩:=H
   go_enter Tryz.func42,Tryz.ntmps42
   go_wp2_with (first|((with_reducible refine zBv (N:=6) rfl ?_);refine zCr ?hg (N:=6) ?hd (cs:=#[.int .i64 0,.int .u64 0,.int .u64 0]) (t:=28) ?hr ?_;(case hd=>rfl);(case hg=>rfl);(case hr=>first|(go_simp;done)|(go_simp;rfl));intro gb103 hg w8 hbox hb;have n0_:=Aside0.mk (zAi (by repeat (first|(with_reducible first|exact HB.out|apply zAb|apply zAa|apply zAc)|exact HB.out)) hb);have n1_:=Aside0.mk (hbox);have n2_:=Aside0.mk ((by rw[hg];exact(zAp (by repeat (first|(with_reducible first|exact HB.out|apply zAb|apply zAa|apply zAc)|exact HB.out))):w.heap.size≤gb103));have n3_:=Aside0.mk ((by rw[hg];exact(zAp (by repeat (first|(with_reducible first|exact HB.out|apply zAb|apply zAa|apply zAc)|exact HB.out))):w.heap.size≤gb103));clear HB;have HB:=n0_;have BK103:=n1_;have GW103:=n2_;have GE103:=n3_;clear n0_ n1_ n2_ n3_;clear hb hbox hg;have hcz9_0:w8.cell? ⟨gb103,0,none⟩=some (.int .i64 0):=(zAq BK103.out 0).trans rfl;have hcz9_1:w8.cell? ⟨gb103,1,none⟩=some (.int .u64 0):=(zAq BK103.out 1).trans rfl;have hcz9_2:w8.cell? ⟨gb103,2,none⟩=some (.int .u64 0):=(zAq BK103.out 2).trans rfl;have hfz9_0:=zAj BK103.out 0;have hfz9_1:=zAj BK103.out 1;have hfz9_2:=zAj BK103.out 2))
   refine bodyPost_ret (results_cell_row rfl _ _ gb103 28 #[.int .i64 4,.int .u64 0,.int .u64 ji7] (0,0) _ rfl (by(with_reducible repeat (first|refine zAf ?_ _|refine zAk ?_|refine zAe ?_ _));refine zCy (cs:=#[.int .i64 4,.int .u64 0,.int .u64 0]) ?_ 2 _ rfl;(with_reducible repeat (first|refine zAf ?_ _|refine zAk ?_|refine zAe ?_ _));refine zCy (cs:=#[.int .i64 4,.int .u64 0,.int .u64 0]) ?_ 1 _ rfl;(with_reducible repeat (first|refine zAf ?_ _|refine zAk ?_|refine zAe ?_ _));refine zCy (cs:=#[.int .i64 0,.int .u64 0,.int .u64 0]) ?_ 0 _ rfl;(with_reducible repeat (first|refine zAf ?_ _|refine zAk ?_|refine zAe ?_ _));exact BK103.out) Tryz.underlying28 rfl (by kernel_rfl)) rfl ?_
   exact⟨by first|rfl|(simp[errW_none,errW_some]<;>rfl)|(simp only[← hji5,← hji7];first|rfl|(simp[errW_none,errW_some]<;>rfl))|(simp[*,errW_none,errW_some]<;>rfl),by repeat (first|(with_reducible first|exact HB.out|apply zAb|apply zAa|apply zAc|refine zAg ?_ GE103.out)|exact HB.out)⟩
  ·rw[if_neg c6] at H
   exact absurd H (by simp)
 ·rw[if_neg c4] at H
  have c4b0:((Go.bits .and .i64 a0 1)==0)=false:=beq_eq_false_iff_ne.mpr c4
  have c4b1:((Go.bits .and .i64 a0 1) != 0)=true:=bne_iff_ne.mpr c4
  have H':=Aside0.mk H
  clear H
  go_enter Tryz.func42,Tryz.ntmps42
  go_wp2_with (first|((with_reducible refine zBv (N:=6) rfl ?_);refine zCr ?hg (N:=6) ?hd (cs:=#[.int .i64 0,.int .u64 0,.int .u64 0]) (t:=28) ?hr ?_;(case hd=>rfl);(case hg=>rfl);(case hr=>first|(go_simp;done)|(go_simp;rfl));intro gb103 hg w10 hbox hb;have n0_:=Aside0.mk (zAi (by repeat (first|(with_reducible first|exact HB.out|apply zAb|apply zAa|apply zAc)|exact HB.out)) hb);have n1_:=Aside0.mk (hbox);have n2_:=Aside0.mk ((by rw[hg];exact(zAp (by repeat (first|(with_reducible first|exact HB.out|apply zAb|apply zAa|apply zAc)|exact HB.out))):w.heap.size≤gb103));have n3_:=Aside0.mk ((by rw[hg];exact(zAp (by repeat (first|(with_reducible first|exact HB.out|apply zAb|apply zAa|apply zAc)|exact HB.out))):w.heap.size≤gb103));clear HB;have HB:=n0_;have BK103:=n1_;have GW103:=n2_;have GE103:=n3_;clear n0_ n1_ n2_ n3_;clear hb hbox hg)|((with_reducible refine zBv (N:=7) rfl ?_);refine zCr ?hg (N:=7) ?hd (cs:=#[.int .u64 0,.int .u64 0]) (t:=26) ?hr ?_;(case hd=>rfl);(case hg=>rfl);(case hr=>first|(go_simp;done)|(go_simp;rfl));intro gb104 hg w11 hbox hb;have n0_:=Aside0.mk (zBr (g:=gb103) (o:=.cells #[.int .i64 0,.int .u64 0,.int .u64 0] 28 (0,0)) (by(with_reducible repeat (first|refine zAf ?_ _|refine zAk ?_|refine zAe ?_ _));exact BK103.out) hb);have n1_:=Aside0.mk (zAi (by repeat (first|(with_reducible first|exact HB.out|apply zAb|apply zAa|apply zAc|refine zAg ?_ GE103.out)|exact HB.out)) hb);have n2_:=Aside0.mk (hbox);have n3_:=Aside0.mk ((by rw[hg];exact(zAp (by repeat (first|(with_reducible first|exact HB.out|apply zAb|apply zAa|apply zAc|refine zAg ?_ GE103.out)|exact HB.out))):w.heap.size≤gb104));have n4_:=Aside0.mk ((by rw[hg];exact(zAp (by repeat (first|(with_reducible first|exact HB.out|apply zAb|apply zAa|apply zAc|refine zAg ?_ GE103.out)|exact HB.out))):w.heap.size≤gb104));have n5_:=Aside0.mk ((by rw[hg];exact Nat.ne_of_lt (zOa (g:=gb103) (o:=.cells #[.int .i64 0,.int .u64 0,.int .u64 0] 28 (0,0)) (by(with_reducible repeat (first|refine zAf ?_ _|refine zAk ?_|refine zAe ?_ _));exact BK103.out)):gb103≠gb104));have n6_:=Aside0.mk ((by rw[hg];exact Nat.ne_of_gt (zOa (g:=gb103) (o:=.cells #[.int .i64 0,.int .u64 0,.int .u64 0] 28 (0,0)) (by(with_reducible repeat (first|refine zAf ?_ _|refine zAk ?_|refine zAe ?_ _));exact BK103.out)):gb104≠gb103));clear BK103;clear HB;have BK103:=n0_;have HB:=n1_;have BK104:=n2_;have GW104:=n3_;have GE104:=n4_;have NB103_104:=n5_;have NB104_103:=n6_;clear n0_ n1_ n2_ n3_ n4_ n5_ n6_;clear hb hbox hg;have hnb12:=NB104_103.out;have hnc12:=NB103_104.out;have hcz13_0:w11.cell? ⟨gb104,0,none⟩=some (.int .u64 0):=(zAq BK104.out 0).trans rfl;have hcz13_1:w11.cell? ⟨gb104,1,none⟩=some (.int .u64 0):=(zAq BK104.out 1).trans rfl;have hfz13_0:=zAj BK104.out 0;have hfz13_1:=zAj BK104.out 1))
  go_loopg [8] k (fun kq v8 w'=>∃ (x8_1:Int) (x105000_1:Int) (x105001_1:Int),v8=.int .i64 x8_1∧Aside0 (glebelaw2_Addr.l0 kq a0 x8_1 x105000_1 x105001_1=some (r1,r2,r3))∧Aside0 (kq≤k)∧Aside0 (w'.heap[gb103]?=some (.cells #[.int .i64 0,.int .u64 0,.int .u64 0] 28 (0,0)))∧Aside0 (w'.heap[gb104]?=some (.cells #[.int .u64 x105000_1,.int .u64 x105001_1] 26 (0,0)))∧Aside0 (Below w.heap.size w w'))
  case atStart=>exact⟨(0),(a1),(a2),(by first|rfl|(simp;done)|(simp[*];done)),H',⟨Nat.le_refl _⟩,⟨by(with_reducible repeat (first|refine zAf ?_ _|refine zAk ?_|refine zAe ?_ _));refine zG0 ?_ NB103_104.out _;(with_reducible repeat (first|refine zAf ?_ _|refine zAk ?_|refine zAe ?_ _));refine zG0 ?_ NB103_104.out _;(with_reducible repeat (first|refine zAf ?_ _|refine zAk ?_|refine zAe ?_ _));exact BK103.out⟩,⟨by(with_reducible repeat (first|refine zAf ?_ _|refine zAk ?_|refine zAe ?_ _));refine zCy (cs:=#[.int .u64 a1,.int .u64 0]) ?_ 1 _ rfl;(with_reducible repeat (first|refine zAf ?_ _|refine zAk ?_|refine zAe ?_ _));refine zCy (cs:=#[.int .u64 0,.int .u64 0]) ?_ 0 _ rfl;(with_reducible repeat (first|refine zAf ?_ _|refine zAk ?_|refine zAe ?_ _));exact BK104.out⟩,⟨by repeat (first|(with_reducible first|exact HB.out|apply zAb|apply zAa|apply zAc|refine zAg ?_ GE103.out|refine zAg ?_ GE104.out)|exact HB.out)⟩⟩
  case round=>
   clear H'
   try clear c1
   try clear p2
   try clear c4
   try clear c4b0
   try clear c4b1
   try clear c6
   try clear c6b0
   try clear c6b1
   try clear p6
   try clear c12
   try clear hcz13_0
   try clear hcz13_1
   try clear hcz9_0
   try clear hcz9_1
   try clear hcz9_2
   try clear hfz13_0
   try clear hfz13_1
   try clear hfz9_0
   try clear hfz9_1
   try clear hfz9_2
   obtain⟨x8_1,x105000_1,x105001_1,rfl,HA,HK1,BK103,BK104,HB⟩:=hrel
   cases gk with
   |zero=>exact absurd HA.out (by simp[glebelaw2_Addr.l0])
   |succ k1=>
    have H:=HA.out
    clear HA
    simp only[glebelaw2_Addr.l0] at H
    by_cases c14:x8_1 < 8
    ·rw[if_pos c14] at H
     have c14b0:=decide_eq_true c14
     clear c14
     obtain⟨ji15,hji15⟩:∃ j_:Int,(IntKind.u64.wrap (wrap64 (x8_1+1)))=j_:=⟨_,rfl⟩
     replace H:(if 0≤(ji15) then(if(Go.bits .and .i64 (shr .i64 a0 (ji15)) 1)=1 then(if x8_1 < 4 then(if 0≤(IntKind.u64.wrap (wrap64 (16 * x8_1))) then(glebelaw2_Addr.l0 k1 a0 (wrap64 (x8_1+1)) (Go.bits .andNot .u64 x105000_1 (shl .u64 65535 (IntKind.u64.wrap (wrap64 (16 * x8_1))))) x105001_1) else(none)) else(if 0≤(IntKind.u64.wrap (wrap64 (16 * (wrap64 (x8_1 - 4))))) then(glebelaw2_Addr.l0 k1 a0 (wrap64 (x8_1+1)) x105000_1 (Go.bits .andNot .u64 x105001_1 (shl .u64 65535 (IntKind.u64.wrap (wrap64 (16 * (wrap64 (x8_1 - 4)))))))) else(none))) else(glebelaw2_Addr.l0 k1 a0 (wrap64 (x8_1+1)) x105000_1 x105001_1)) else(none))=some (r1,r2,r3):=by first|(rw[hji15] at H;exact H)|(simp only[hji15] at H ⊢;exact H)
     by_cases c16:0≤(ji15)
     ·rw[if_pos c16] at H
      have c16b0:=eq_true c16
      have c16b1:=decide_eq_true c16
      clear c16
      obtain⟨ji17,hji17⟩:∃ j_:Int,(shr .i64 a0 (ji15))=j_:=⟨_,rfl⟩
      replace H:(if(Go.bits .and .i64 (ji17) 1)=1 then(if x8_1 < 4 then(if 0≤(IntKind.u64.wrap (wrap64 (16 * x8_1))) then(glebelaw2_Addr.l0 k1 a0 (wrap64 (x8_1+1)) (Go.bits .andNot .u64 x105000_1 (shl .u64 65535 (IntKind.u64.wrap (wrap64 (16 * x8_1))))) x105001_1) else(none)) else(if 0≤(IntKind.u64.wrap (wrap64 (16 * (wrap64 (x8_1 - 4))))) then(glebelaw2_Addr.l0 k1 a0 (wrap64 (x8_1+1)) x105000_1 (Go.bits .andNot .u64 x105001_1 (shl .u64 65535 (IntKind.u64.wrap (wrap64 (16 * (wrap64 (x8_1 - 4)))))))) else(none))) else(glebelaw2_Addr.l0 k1 a0 (wrap64 (x8_1+1)) x105000_1 x105001_1))=some (r1,r2,r3):=by first|(rw[hji17] at H;exact H)|(simp only[hji17] at H ⊢;exact H)
      have hji17_:(a0 / 2 ^ min (ji15).toNat 64)=ji17:=hji17
      have hji17z:(ji15)≤64→(a0 / 2 ^ (ji15).toNat)=ji17:=zI0 hji17
      by_cases c18:(Go.bits .and .i64 (ji17) 1)=1
      ·rw[if_pos c18] at H
       have c18b0:((Go.bits .and .i64 (ji17) 1)==1)=true:=beq_iff_eq.mpr c18
       have c18b1:((Go.bits .and .i64 (ji17) 1) != 1)=false:=bne_eq_false_iff_eq.mpr c18
       clear c18
       by_cases c19:x8_1 < 4
       ·rw[if_pos c19] at H
        have c19b0:=decide_eq_true c19
        clear c19
        obtain⟨ji20,hji20⟩:∃ j_:Int,(IntKind.u64.wrap (wrap64 (16 * x8_1)))=j_:=⟨_,rfl⟩
        replace H:(if 0≤(ji20) then(glebelaw2_Addr.l0 k1 a0 (wrap64 (x8_1+1)) (Go.bits .andNot .u64 x105000_1 (shl .u64 65535 (ji20))) x105001_1) else(none))=some (r1,r2,r3):=by first|(rw[hji20] at H;exact H)|(simp only[hji20] at H ⊢;exact H)
        by_cases c21:0≤(ji20)
        ·rw[if_pos c21] at H
         have c21b0:=eq_true c21
         have c21b1:=decide_eq_true c21
         clear c21
         obtain⟨ji22,hji22⟩:∃ j_:Int,(shl .u64 65535 (ji20))=j_:=⟨_,rfl⟩
         replace H:(glebelaw2_Addr.l0 k1 a0 (wrap64 (x8_1+1)) (Go.bits .andNot .u64 x105000_1 (ji22)) x105001_1)=some (r1,r2,r3):=by first|(rw[hji22] at H;exact H)|(simp only[hji22] at H ⊢;exact H)
         have hji22_:(IntKind.u64.wrap (65535 * 2 ^ min (ji20).toNat 64))=ji22:=hji22
         have hji22z:(ji20)≤64→(IntKind.u64.wrap (65535 * 2 ^ (ji20).toNat))=ji22:=zIz hji22
         have H':=Aside0.mk H
         clear H
         have hnb23:=NB104_103.out
         have hnc23:=NB103_104.out
         have hcz24_0:wr.cell? ⟨gb104,0,none⟩=some (.int .u64 x105000_1):=(zAq BK104.out 0).trans rfl
         have hcz24_1:wr.cell? ⟨gb104,1,none⟩=some (.int .u64 x105001_1):=(zAq BK104.out 1).trans rfl
         have hfz24_0:=zAj BK104.out 0
         have hfz24_1:=zAj BK104.out 1
         go_wp2
         go_roundg k1
         case measure=>have:=HK1.out;omega
         case rel=>exact⟨(wrap64 (x8_1+1)),(Go.bits .andNot .u64 x105000_1 (ji22)),(x105001_1),(by first|rfl|(simp;done)|(simp[*];done)),H',⟨by have:=HK1.out;omega⟩,⟨by(with_reducible repeat (first|refine zAf ?_ _|refine zAk ?_|refine zAe ?_ _));refine zG0 ?_ NB103_104.out _;(with_reducible repeat (first|refine zAf ?_ _|refine zAk ?_|refine zAe ?_ _));exact BK103.out⟩,⟨by(with_reducible repeat (first|refine zAf ?_ _|refine zAk ?_|refine zAe ?_ _));refine zCy (cs:=#[.int .u64 x105000_1,.int .u64 x105001_1]) ?_ 0 _ rfl;(with_reducible repeat (first|refine zAf ?_ _|refine zAk ?_|refine zAe ?_ _));exact BK104.out⟩,⟨by repeat (first|(with_reducible first|exact HB.out|apply zAb|apply zAa|apply zAc|refine zAg ?_ GE103.out|refine zAg ?_ GE104.out)|exact HB.out)⟩⟩
        ·rw[if_neg c21] at H
         exact absurd H (by simp)
       ·rw[if_neg c19] at H
        have c19b0:decide (x8_1 < 4)=false:=decide_eq_false c19
        clear c19
        obtain⟨ji25,hji25⟩:∃ j_:Int,(IntKind.u64.wrap (wrap64 (16 * (wrap64 (x8_1 - 4)))))=j_:=⟨_,rfl⟩
        replace H:(if 0≤(ji25) then(glebelaw2_Addr.l0 k1 a0 (wrap64 (x8_1+1)) x105000_1 (Go.bits .andNot .u64 x105001_1 (shl .u64 65535 (ji25)))) else(none))=some (r1,r2,r3):=by first|(rw[hji25] at H;exact H)|(simp only[hji25] at H ⊢;exact H)
        by_cases c26:0≤(ji25)
        ·rw[if_pos c26] at H
         have c26b0:=eq_true c26
         have c26b1:=decide_eq_true c26
         clear c26
         obtain⟨ji27,hji27⟩:∃ j_:Int,(shl .u64 65535 (ji25))=j_:=⟨_,rfl⟩
         replace H:(glebelaw2_Addr.l0 k1 a0 (wrap64 (x8_1+1)) x105000_1 (Go.bits .andNot .u64 x105001_1 (ji27)))=some (r1,r2,r3):=by first|(rw[hji27] at H;exact H)|(simp only[hji27] at H ⊢;exact H)
         have hji27_:(IntKind.u64.wrap (65535 * 2 ^ min (ji25).toNat 64))=ji27:=hji27
         have hji27z:(ji25)≤64→(IntKind.u64.wrap (65535 * 2 ^ (ji25).toNat))=ji27:=zIz hji27
         have H':=Aside0.mk H
         clear H
         have hnb28:=NB104_103.out
         have hnc28:=NB103_104.out
         have hcz29_0:wr.cell? ⟨gb104,0,none⟩=some (.int .u64 x105000_1):=(zAq BK104.out 0).trans rfl
         have hcz29_1:wr.cell? ⟨gb104,1,none⟩=some (.int .u64 x105001_1):=(zAq BK104.out 1).trans rfl
         have hfz29_0:=zAj BK104.out 0
         have hfz29_1:=zAj BK104.out 1
         go_wp2
         go_roundg k1
         case measure=>have:=HK1.out;omega
         case rel=>exact⟨(wrap64 (x8_1+1)),(x105000_1),(Go.bits .andNot .u64 x105001_1 (ji27)),(by first|rfl|(simp;done)|(simp[*];done)),H',⟨by have:=HK1.out;omega⟩,⟨by(with_reducible repeat (first|refine zAf ?_ _|refine zAk ?_|refine zAe ?_ _));refine zG0 ?_ NB103_104.out _;(with_reducible repeat (first|refine zAf ?_ _|refine zAk ?_|refine zAe ?_ _));exact BK103.out⟩,⟨by(with_reducible repeat (first|refine zAf ?_ _|refine zAk ?_|refine zAe ?_ _));refine zCy (cs:=#[.int .u64 x105000_1,.int .u64 x105001_1]) ?_ 1 _ rfl;(with_reducible repeat (first|refine zAf ?_ _|refine zAk ?_|refine zAe ?_ _));exact BK104.out⟩,⟨by repeat (first|(with_reducible first|exact HB.out|apply zAb|apply zAa|apply zAc|refine zAg ?_ GE103.out|refine zAg ?_ GE104.out)|exact HB.out)⟩⟩
        ·rw[if_neg c26] at H
         exact absurd H (by simp)
      ·rw[if_neg c18] at H
       have c18b0:((Go.bits .and .i64 (ji17) 1)==1)=false:=beq_eq_false_iff_ne.mpr c18
       have c18b1:((Go.bits .and .i64 (ji17) 1) != 1)=true:=bne_iff_ne.mpr c18
       have H':=Aside0.mk H
       clear H
       go_wp2
       go_roundg k1
       case measure=>have:=HK1.out;omega
       case rel=>exact⟨(wrap64 (x8_1+1)),(x105000_1),(x105001_1),(by first|rfl|(simp;done)|(simp[*];done)),H',⟨by have:=HK1.out;omega⟩,⟨by(with_reducible repeat (first|refine zAf ?_ _|refine zAk ?_|refine zAe ?_ _));exact BK103.out⟩,⟨by(with_reducible repeat (first|refine zAf ?_ _|refine zAk ?_|refine zAe ?_ _));exact BK104.out⟩,⟨by repeat (first|(with_reducible first|exact HB.out|apply zAb|apply zAa|apply zAc|refine zAg ?_ GE103.out|refine zAg ?_ GE104.out)|exact HB.out)⟩⟩
     ·rw[if_neg c16] at H
      exact absurd H (by simp)
    ·rw[if_neg c14] at H
     have c14b0:decide (x8_1 < 8)=false:=decide_eq_false c14
     clear c14
     simp only[Option.some.injEq,Prod.mk.injEq] at H
     obtain⟨rfl,rfl,rfl⟩:=H
     have hnb30:=NB104_103.out
     have hnc30:=NB103_104.out
     have hcz31_0:wr.cell? ⟨gb104,0,none⟩=some (.int .u64 x105000_1):=(zAq BK104.out 0).trans rfl
     have hcz31_1:wr.cell? ⟨gb104,1,none⟩=some (.int .u64 x105001_1):=(zAq BK104.out 1).trans rfl
     have hfz31_0:=zAj BK104.out 0
     have hfz31_1:=zAj BK104.out 1
     have hcz32_0:wr.cell? ⟨gb103,0,none⟩=some (.int .i64 0):=(zAq BK103.out 0).trans rfl
     have hcz32_1:wr.cell? ⟨gb103,1,none⟩=some (.int .u64 0):=(zAq BK103.out 1).trans rfl
     have hcz32_2:wr.cell? ⟨gb103,2,none⟩=some (.int .u64 0):=(zAq BK103.out 2).trans rfl
     have hfz32_0:=zAj BK103.out 0
     have hfz32_1:=zAj BK103.out 1
     have hfz32_2:=zAj BK103.out 2
     go_wp2
     refine bodyPost_ret (results_cell_row rfl _ _ gb103 28 #[.int .i64 6,.int .u64 x105000_1,.int .u64 x105001_1] (0,0) _ rfl (by(with_reducible repeat (first|refine zAf ?_ _|refine zAk ?_|refine zAe ?_ _));refine zCy (cs:=#[.int .i64 6,.int .u64 x105000_1,.int .u64 0]) ?_ 2 _ rfl;(with_reducible repeat (first|refine zAf ?_ _|refine zAk ?_|refine zAe ?_ _));refine zCy (cs:=#[.int .i64 6,.int .u64 0,.int .u64 0]) ?_ 1 _ rfl;(with_reducible repeat (first|refine zAf ?_ _|refine zAk ?_|refine zAe ?_ _));refine zCy (cs:=#[.int .i64 0,.int .u64 0,.int .u64 0]) ?_ 0 _ rfl;(with_reducible repeat (first|refine zAf ?_ _|refine zAk ?_|refine zAe ?_ _));exact BK103.out) Tryz.underlying28 rfl (by kernel_rfl)) rfl ?_
     exact⟨by first|rfl|(simp[errW_none,errW_some]<;>rfl)|(simp[*,errW_none,errW_some]<;>rfl),by repeat (first|(with_reducible first|exact HB.out|apply zAb|apply zAa|apply zAc|refine zAg ?_ GE103.out|refine zAg ?_ GE104.out)|exact HB.out)⟩
def quad_high.f (a0:Int):Option (Int):=some (Go.bits .xor .u64 18446744073709551615 (18446744073709551615 / 2 ^ (mn (mx a0 0) 64).toNat))
set_option maxRecDepth 100000 in
theorem quad_high.calls (a0:Int)(r:Int)(w:World)(hG:GoodW w)(h:quad_high.f a0=some r):
  Calls Tryz.prog 95 #[.int .i64 a0] w fun e w'=>e=.returned (.int .u64 r)∧Below w.heap.size w w':=by
 have HB:=Aside0.mk (Below.refl w.heap.size w)
 have H:=h
 unfold quad_high.f at H
 clear h
 obtain⟨ji2,hji2⟩:∃ j_:Int,(mx a0 0)=j_:=⟨_,rfl⟩
 replace H:(some (Go.bits .xor .u64 18446744073709551615 (18446744073709551615 / 2 ^ (mn (ji2) 64).toNat)))=some r:=by first|(rw[hji2] at H;exact H)|(simp only[hji2] at H ⊢;exact H)
 (try(have hji2l:0≤ji2:=by(rw[← hji2];unfold mx;(repeat' split)<;>omega)))
 (try(have hji2m:0≤ji2:=by omega))
 have hji2_:(if a0 < 0 then 0 else a0)=ji2:=hji2
 obtain⟨ji3,hji3⟩:∃ j_:Int,(mn (ji2) 64)=j_:=⟨_,rfl⟩
 replace H:(some (Go.bits .xor .u64 18446744073709551615 (18446744073709551615 / 2 ^ (ji3).toNat)))=some r:=by first|(rw[hji3] at H;exact H)|(simp only[hji3] at H ⊢;exact H)
 have hji3_:(if 64 < (ji2) then 64 else(ji2))=ji3:=hji3
 obtain rfl:=Option.some.inj H
 go_enter Tryz.func95,Tryz.ntmps95
 go_wp2
 go_ret
 exact⟨by first|rfl|(simp[errW_none,errW_some]<;>rfl)|(simp only[← hji2,← hji3];first|rfl|(simp[errW_none,errW_some]<;>rfl))|(simp[*,errW_none,errW_some]<;>rfl),by repeat (first|(with_reducible first|exact HB.out|apply zAb|apply zAa|apply zAc)|exact HB.out)⟩
end Go.Proofs.YtfnacgojmdbjmaaGreatDoor.PRD
namespace Go.Proofs.YtfnacgojmdbjmaaGreatDoor.PRD
open Go.RowKit YtfnacgojmdbjmaaGreatDoorW.PrintWords YtfnacgojmdbjmaaGreatDoorW.PrintLast YtfnacgojmdbjmaaGreatDoorW.PrintMore
open Go.Det (inQ M64 zCh qn zXk zJo zFk)
def gleberef1_Bits.f (a0:Int):Option (Int):=if a0=4 then(some 32) else(if a0=6 then(some 128) else(some 0))
def gleberef1_And.f (a0_0:Int)(a0_1:Int)(a1_0:Int)(a1_1:Int):Option (Int×Int):=some (Go.bits .and .u64 a0_0 a1_0,Go.bits .and .u64 a0_1 a1_1)
def gleberef1_Not.f (a0_0:Int)(a0_1:Int):Option (Int×Int):=some (Go.bits .xor .u64 18446744073709551615 a0_0,Go.bits .xor .u64 18446744073709551615 a0_1)
def gleberef1_all.f (a0:Int)(a1:Int):Option (Int×Int):=(gleberef1_Bits.f a0).bind fun t131=>((gleberef1_Mask.f 300 (wrap64 ((wrap64 (128 - t131))+a1))).bind fun bt132=>((gleberef1_Bits.f a0).bind fun t134=>((gleberef1_Mask.f 300 (wrap64 (128 - t134))).bind fun bt135=>((gleberef1_Not.f bt135.1 bt135.2).bind fun bt137=>((gleberef1_And.f bt132.1 bt132.2 bt137.1 bt137.2).bind fun bt139=>(some (bt139.1,bt139.2)))))))
def gleberef1_Ok.f (a0_0:Int)(a0_1:Int)(a0_2:Int):Option (Bool):=if a0_0=6 then(some true) else(if a0_0=4 then(if a0_1=0 then(some (decide (a0_2 < 4294967296))) else(some false)) else(some false))
def gleberef1_OkPrefix.f (a0_0:Int)(a0_1:Int)(a0_2:Int)(a0_3:Int):Option (Bool):=(gleberef1_Ok.f a0_0 a0_1 a0_2).bind fun t142=>(if t142=true then(if a0_3 ≥ 0 then((gleberef1_Bits.f a0_0).bind fun t143=>(if a0_3≤t143 then((gleberef1_all.f a0_0 a0_3).bind fun bt144=>((gleberef1_And.f a0_1 a0_2 bt144.1 bt144.2).bind fun bt146=>(some (bt146.1==a0_1&&(bt146.2==a0_2))))) else(some false))) else(some false)) else(some false))
def gleberef1_Last.f (a0_0:Int)(a0_1:Int)(a0_2:Int)(a0_3:Int):Option (Int×Int×Int):=(gleberef1_OkPrefix.f a0_0 a0_1 a0_2 a0_3).bind fun t150=>(if t150=true then((gleberef1_all.f a0_0 a0_3).bind fun bt151=>((gleberef1_Not.f bt151.1 bt151.2).bind fun bt153=>((gleberef1_Bits.f a0_0).bind fun t155=>((gleberef1_Mask.f 300 (wrap64 (128 - t155))).bind fun bt156=>((gleberef1_Not.f bt156.1 bt156.2).bind fun bt158=>((gleberef1_And.f bt153.1 bt153.2 bt158.1 bt158.2).bind fun bt160=>(some (a0_0,Go.bits .or .u64 a0_1 bt160.1,Go.bits .or .u64 a0_2 bt160.2)))))))) else(some (0,0,0)))
def glebelaw3_Pre.f (a0:Int)(a1:Int)(a2:Int)(a3:Int):Option (Int×Int×Int×Int):=(glebelaw2_Addr.f 300 a0 a1 a2).bind fun bt111=>((gleberef1_Bits.f bt111.1).bind fun t115=>(if(wrap64 (t115+1))=0 then(none) else((gleberef1_Bits.f bt111.1).bind fun t116=>((gleberef1_Mask.f 300 (wrap64 ((wrap64 (128 - t116))+(Int.tmod (Go.bits .and .i64 a3 255) (wrap64 (t115+1)))))).bind fun bt117=>((gleberef1_Bits.f bt111.1).bind fun t119=>((gleberef1_Mask.f 300 (wrap64 (128 - t119))).bind fun bt120=>((gleberef1_Not.f bt120.1 bt120.2).bind fun bt122=>((gleberef1_And.f bt117.1 bt117.2 bt122.1 bt122.2).bind fun bt124=>((gleberef1_And.f bt111.2.1 bt111.2.2 bt124.1 bt124.2).bind fun bt127=>(some (bt111.1,bt127.1,bt127.2,Int.tmod (Go.bits .and .i64 a3 255) (wrap64 (t115+1)))))))))))))
def quad_And.f (a0_0:Int)(a0_1:Int)(a1_0:Int)(a1_1:Int):Option (Int×Int):=some (Go.bits .and .u64 a0_0 a1_0,Go.bits .and .u64 a0_1 a1_1)
def quad_Or.f (a0_0:Int)(a0_1:Int)(a1_0:Int)(a1_1:Int):Option (Int×Int):=some (Go.bits .or .u64 a0_0 a1_0,Go.bits .or .u64 a0_1 a1_1)
def quad_Not.f (a0_0:Int)(a0_1:Int):Option (Int×Int):=some (Go.bits .xor .u64 18446744073709551615 a0_0,Go.bits .xor .u64 18446744073709551615 a0_1)
def addr_Bits.f (a0:Int):Option (Int):=if a0=4 then(some 32) else(if a0=6 then(some 128) else(some 0))
def quad_Mask.f (a0:Int):Option (Int×Int):=(quad_high.f a0).bind fun t167=>((quad_high.f (wrap64 ((mn a0 128) - 64))).bind fun t168=>(some (t167,t168)))
def pref_mask.f (a0:Int)(a1:Int):Option (Int×Int):=(addr_Bits.f a0).bind fun t170=>((quad_Mask.f (wrap64 ((wrap64 (128 - t170))+a1))).bind fun bt171=>(some (bt171.1,bt171.2)))
def addr_Ok.f (a0_0:Int)(a0_1:Int)(a0_2:Int):Option (Bool):=if a0_0=6 then(some true) else(if a0_0=4 then(if a0_1=0 then(some (decide (a0_2 < 4294967296))) else(some false)) else(some false))
def pref_Ok.f (a0_0:Int)(a0_1:Int)(a0_2:Int)(a0_3:Int):Option (Bool):=(addr_Ok.f a0_0 a0_1 a0_2).bind fun t177=>(if t177=true then(if a0_3 < 0 then(some false) else((addr_Bits.f a0_0).bind fun t178=>(if a0_3 > t178 then(some false) else((pref_mask.f a0_0 a0_3).bind fun bt179=>((quad_Not.f bt179.1 bt179.2).bind fun bt181=>((quad_And.f a0_1 a0_2 bt181.1 bt181.2).bind fun bt183=>(some (bt183.1==0&&(bt183.2==0))))))))) else(some false))
def pref_Last.f (a0_0:Int)(a0_1:Int)(a0_2:Int)(a0_3:Int):Option (Int×Int×Int):=(pref_Ok.f a0_0 a0_1 a0_2 a0_3).bind fun t190=>(if t190=true then((addr_Bits.f a0_0).bind fun t191=>((quad_Mask.f (wrap64 (128 - t191))).bind fun bt192=>((pref_mask.f a0_0 a0_3).bind fun bt195=>((quad_Not.f bt195.1 bt195.2).bind fun bt197=>((quad_Not.f bt192.1 bt192.2).bind fun bt199=>((quad_And.f bt197.1 bt197.2 bt199.1 bt199.2).bind fun bt201=>((quad_Or.f a0_1 a0_2 bt201.1 bt201.2).bind fun bt203=>(some (a0_0,bt203.1,bt203.2))))))))) else(some (0,0,0)))
def quad_Less.f (a0_0:Int)(a0_1:Int)(a1_0:Int)(a1_1:Int):Option (Bool):=if a0_0 < a1_0 then(some true) else(if a0_0=a1_0 then(some (decide (a0_1 < a1_1))) else(some false))
def addr_Less.f (a0_0:Int)(a0_1:Int)(a0_2:Int)(a1_0:Int)(a1_1:Int)(a1_2:Int):Option (Bool):=if a0_0 < a1_0 then(some true) else(if a0_0=a1_0 then((quad_Less.f a0_1 a0_2 a1_1 a1_2).bind fun t209=>(some t209)) else(some false))
def rang_Ok.f (a0_0:Int)(a0_1:Int)(a0_2:Int)(a0_3:Int)(a0_4:Int)(a0_5:Int):Option (Bool):=(addr_Ok.f a0_0 a0_1 a0_2).bind fun t211=>(if t211=true then((addr_Ok.f a0_3 a0_4 a0_5).bind fun t212=>(if t212=true then(if a0_0=a0_3 then((addr_Less.f a0_3 a0_4 a0_5 a0_0 a0_1 a0_2).bind fun t213=>(some (!t213))) else(some false)) else(some false))) else(some false))
end Go.Proofs.YtfnacgojmdbjmaaGreatDoor.PRD
namespace Go.Proofs.YtfnacgojmdbjmaaGreatDoor
open Go.Det Go.RowKit PRD YtfnacgojmdbjmaaGreatDoorW.PrintWords
def ySs:List Value→Option (Int)
 |[.int .u64 a]=>some (a)
 |_=>none
def yTr:List Value→Option (Int×Int×Int×Int)
 |[.agg ⟨[.int .u64 a,.int .u64 b]⟩,.agg ⟨[.int .u64 c,.int .u64 d]⟩]=>some (a,b,c,d)
 |_=>none
def yIa:List Value→Option (Int)
 |[.int .i64 a]=>some (a)
 |_=>none
def yQg (x:Int):List Value:=[.int .i64 x]
theorem zZ2 {args:List Value}{a:Int}(h:yIa args=some a):args=yQg a:=by
 unfold yIa at h
 split at h
 case h_2=>cases h
 cases h;rfl
def yQh (y:Int):Value:=.int .u64 y
def con95:Con:=Con.opt yIa (fun x=>quad_high.f x) yQh
theorem yTs {W:World}(hW:GoodW W):zAr Tryz.prog W 6 95 con95.own:=by
 refine zA5 (fn:=Tryz.f95) (c:=zAd Tryz.f95) hW Tryz.func95 (by kernel_rfl) (by kernel_rfl) fun args v h=>?_
 split at h
 case h_2=>cases h
 rename_i a ha
 split at h
 case h_2=>cases h
 rename_i b hb
 cases h
 obtain rfl:=zZ2 ha
 refine⟨rfl,rfl,fun w hG=>?_⟩
 first|exact quad_high.calls a b w hG hb|exact(quad_high.calls a b w hG hb).mono fun e w' h=>⟨h.1,h.2.below⟩
def yIb:List Value→Option (Int)
 |[.int .i64 a]=>some (a)
 |_=>none
def yQi (x:Int):List Value:=[.int .i64 x]
theorem zZ3 {args:List Value}{a:Int}(h:yIb args=some a):args=yQi a:=by
 unfold yIb at h
 split at h
 case h_2=>cases h
 cases h;rfl
def yQj (y:Int×Int):Value:=.agg #[.int .u64 y.1,.int .u64 y.2]
def con56:Con:=Con.opt yIb (fun x=>gleberef1_Mask.f 300 x) yQj
theorem yQk {W:World}(hW:GoodW W):zAr Tryz.prog W 6 56 con56.own:=by
 refine zA5 (fn:=Tryz.f56) (c:=zAd Tryz.f56) hW Tryz.func56 (by kernel_rfl) (by kernel_rfl) fun args v h=>?_
 split at h
 case h_2=>cases h
 rename_i a ha
 split at h
 case h_2=>cases h
 rename_i b hb
 cases h
 obtain rfl:=zZ3 ha
 refine⟨rfl,rfl,fun w hG=>?_⟩
 first|exact gleberef1_Mask.calls 300 a b.1 b.2 w hG hb|exact(gleberef1_Mask.calls 300 a b.1 b.2 w hG hb).mono fun e w' h=>⟨h.1,h.2.below⟩
def yIc:List Value→Option (Int×Int×Int)
 |[.int .i64 a,.int .u64 b,.int .u64 c]=>some (a,b,c)
 |_=>none
def yQl (x:Int×Int×Int):List Value:=[.int .i64 x.1,.int .u64 x.2.1,.int .u64 x.2.2]
theorem zZ4 {args:List Value}{a:Int×Int×Int}(h:yIc args=some a):args=yQl a:=by
 unfold yIc at h
 split at h
 case h_2=>cases h
 cases h;rfl
def yQm (y:Int×Int×Int):Value:=.agg #[.int .i64 y.1,.int .u64 y.2.1,.int .u64 y.2.2]
def con42:Con:=Con.opt yIc (fun x=>glebelaw2_Addr.f 300 x.1 x.2.1 x.2.2) yQm
theorem yTt {W:World}(hW:GoodW W):zAr Tryz.prog W 6 42 con42.own:=by
 refine zA5 (fn:=Tryz.f42) (c:=zAd Tryz.f42) hW Tryz.func42 (by kernel_rfl) (by kernel_rfl) fun args v h=>?_
 split at h
 case h_2=>cases h
 rename_i a ha
 split at h
 case h_2=>cases h
 rename_i b hb
 cases h
 obtain rfl:=zZ4 ha
 refine⟨rfl,rfl,fun w hG=>?_⟩
 first|exact glebelaw2_Addr.calls 300 a.1 a.2.1 a.2.2 b.1 b.2.1 b.2.2 w hG hb|exact(glebelaw2_Addr.calls 300 a.1 a.2.1 a.2.2 b.1 b.2.1 b.2.2 w hG hb).mono fun e w' h=>⟨h.1,h.2.below⟩
def yId:List Value→Option (Int)
 |[.int .i64 a]=>some (a)
 |_=>none
def yIe (x:Int):List Value:=[.int .i64 x]
theorem zZ5 {args:List Value}{a:Int}(h:yId args=some a):args=yIe a:=by
 unfold yId at h
 split at h
 case h_2=>cases h
 cases h;rfl
def yIf (y:Int):Value:=.int .i64 y
def con45:Con:=Con.opt yId (fun x=>gleberef1_Bits.f x) yIf
def L45:List (Nat×Con):=[]
def yIg:List Value→Option (Int×Int×Int×Int)
 |[.agg ⟨[.int .u64 a,.int .u64 b]⟩,.agg ⟨[.int .u64 c,.int .u64 d]⟩]=>some (a,b,c,d)
 |_=>none
def yIh (x:Int×Int×Int×Int):List Value:=[.agg #[.int .u64 x.1,.int .u64 x.2.1],.agg #[.int .u64 x.2.2.1,.int .u64 x.2.2.2]]
theorem zZ6 {args:List Value}{a:Int×Int×Int×Int}(h:yIg args=some a):args=yIh a:=by
 unfold yIg at h
 split at h
 case h_2=>cases h
 cases h;rfl
def yIi (y:Int×Int):Value:=.agg #[.int .u64 y.1,.int .u64 y.2]
def con55:Con:=Con.opt yIg (fun x=>gleberef1_And.f x.1 x.2.1 x.2.2.1 x.2.2.2) yIi
def L55:List (Nat×Con):=[]
def yIj:List Value→Option (Int×Int)
 |[.agg ⟨[.int .u64 a,.int .u64 b]⟩]=>some (a,b)
 |_=>none
def yIk (x:Int×Int):List Value:=[.agg #[.int .u64 x.1,.int .u64 x.2]]
theorem zZ7 {args:List Value}{a:Int×Int}(h:yIj args=some a):args=yIk a:=by
 unfold yIj at h
 split at h
 case h_2=>cases h
 cases h;rfl
def yIl (y:Int×Int):Value:=.agg #[.int .u64 y.1,.int .u64 y.2]
def con57:Con:=Con.opt yIj (fun x=>gleberef1_Not.f x.1 x.2) yIl
def L57:List (Nat×Con):=[]
def yIm:List Value→Option (Int×Int)
 |[.int .i64 a,.int .i64 b]=>some (a,b)
 |_=>none
def yIn (x:Int×Int):List Value:=[.int .i64 x.1,.int .i64 x.2]
theorem zZ8 {args:List Value}{a:Int×Int}(h:yIm args=some a):args=yIn a:=by
 unfold yIm at h
 split at h
 case h_2=>cases h
 cases h;rfl
def yIo (y:Int×Int):Value:=.agg #[.int .u64 y.1,.int .u64 y.2]
def con65:Con:=Con.opt yIm (fun x=>gleberef1_all.f x.1 x.2) yIo
def L65:List (Nat×Con):=[(45,con45),(56,con56),(57,con57),(55,con55)]
def yEh:List Value→Option (Int×Int×Int)
 |[.agg ⟨[.int .i64 a,.int .u64 b,.int .u64 c]⟩]=>some (a,b,c)
 |_=>none
def yEi (x:Int×Int×Int):List Value:=[.agg #[.int .i64 x.1,.int .u64 x.2.1,.int .u64 x.2.2]]
theorem zZ9 {args:List Value}{a:Int×Int×Int}(h:yEh args=some a):args=yEi a:=by
 unfold yEh at h
 split at h
 case h_2=>cases h
 cases h;rfl
def yEj (y:Bool):Value:=.bool y
def con44:Con:=Con.opt yEh (fun x=>gleberef1_Ok.f x.1 x.2.1 x.2.2) yEj
def L44:List (Nat×Con):=[]
def yIp:List Value→Option (Int×Int×Int×Int)
 |[.agg ⟨[.int .i64 a,.int .u64 b,.int .u64 c,.int .i64 d]⟩]=>some (a,b,c,d)
 |_=>none
def yIq (x:Int×Int×Int×Int):List Value:=[.agg #[.int .i64 x.1,.int .u64 x.2.1,.int .u64 x.2.2.1,.int .i64 x.2.2.2]]
theorem yAa {args:List Value}{a:Int×Int×Int×Int}(h:yIp args=some a):args=yIq a:=by
 unfold yIp at h
 split at h
 case h_2=>cases h
 cases h;rfl
def yIr (y:Bool):Value:=.bool y
def con16:Con:=Con.opt yIp (fun x=>gleberef1_OkPrefix.f x.1 x.2.1 x.2.2.1 x.2.2.2) yIr
def L16:List (Nat×Con):=[(44,con44),(45,con45),(65,con65),(55,con55)]
def yIs:List Value→Option (Int×Int×Int×Int)
 |[.agg ⟨[.int .i64 a,.int .u64 b,.int .u64 c,.int .i64 d]⟩]=>some (a,b,c,d)
 |_=>none
def yIt (x:Int×Int×Int×Int):List Value:=[.agg #[.int .i64 x.1,.int .u64 x.2.1,.int .u64 x.2.2.1,.int .i64 x.2.2.2]]
theorem yAb {args:List Value}{a:Int×Int×Int×Int}(h:yIs args=some a):args=yIt a:=by
 unfold yIs at h
 split at h
 case h_2=>cases h
 cases h;rfl
def yIu (y:Int×Int×Int):Value:=.agg #[.int .i64 y.1,.int .u64 y.2.1,.int .u64 y.2.2]
def con25:Con:=Con.opt yIs (fun x=>gleberef1_Last.f x.1 x.2.1 x.2.2.1 x.2.2.2) yIu
def L25:List (Nat×Con):=[(16,con16),(65,con65),(57,con57),(45,con45),(56,con56),(55,con55)]
def yIv:List Value→Option (Int×Int×Int×Int)
 |[.int .i64 a,.int .u64 b,.int .u64 c,.int .i64 d]=>some (a,b,c,d)
 |_=>none
def yIw (x:Int×Int×Int×Int):List Value:=[.int .i64 x.1,.int .u64 x.2.1,.int .u64 x.2.2.1,.int .i64 x.2.2.2]
theorem yAc {args:List Value}{a:Int×Int×Int×Int}(h:yIv args=some a):args=yIw a:=by
 unfold yIv at h
 split at h
 case h_2=>cases h
 cases h;rfl
def yIx (y:Int×Int×Int×Int):Value:=.agg #[.int .i64 y.1,.int .u64 y.2.1,.int .u64 y.2.2.1,.int .i64 y.2.2.2]
def con10:Con:=Con.opt yIv (fun x=>glebelaw3_Pre.f x.1 x.2.1 x.2.2.1 x.2.2.2) yIx
def L10:List (Nat×Con):=[(42,con42),(45,con45),(56,con56),(57,con57),(55,con55)]
def yIy:List Value→Option (Int×Int×Int×Int)
 |[.agg ⟨[.int .u64 a,.int .u64 b]⟩,.agg ⟨[.int .u64 c,.int .u64 d]⟩]=>some (a,b,c,d)
 |_=>none
def yIz (x:Int×Int×Int×Int):List Value:=[.agg #[.int .u64 x.1,.int .u64 x.2.1],.agg #[.int .u64 x.2.2.1,.int .u64 x.2.2.2]]
theorem yAd {args:List Value}{a:Int×Int×Int×Int}(h:yIy args=some a):args=yIz a:=by
 unfold yIy at h
 split at h
 case h_2=>cases h
 cases h;rfl
def yI0 (y:Int×Int):Value:=.agg #[.int .u64 y.1,.int .u64 y.2]
def con66:Con:=Con.opt yIy (fun x=>quad_And.f x.1 x.2.1 x.2.2.1 x.2.2.2) yI0
def L66:List (Nat×Con):=[]
def yI1:List Value→Option (Int×Int×Int×Int)
 |[.agg ⟨[.int .u64 a,.int .u64 b]⟩,.agg ⟨[.int .u64 c,.int .u64 d]⟩]=>some (a,b,c,d)
 |_=>none
def yI2 (x:Int×Int×Int×Int):List Value:=[.agg #[.int .u64 x.1,.int .u64 x.2.1],.agg #[.int .u64 x.2.2.1,.int .u64 x.2.2.2]]
theorem yAe {args:List Value}{a:Int×Int×Int×Int}(h:yI1 args=some a):args=yI2 a:=by
 unfold yI1 at h
 split at h
 case h_2=>cases h
 cases h;rfl
def yI3 (y:Int×Int):Value:=.agg #[.int .u64 y.1,.int .u64 y.2]
def con74:Con:=Con.opt yI1 (fun x=>quad_Or.f x.1 x.2.1 x.2.2.1 x.2.2.2) yI3
def L74:List (Nat×Con):=[]
def yI4:List Value→Option (Int×Int)
 |[.agg ⟨[.int .u64 a,.int .u64 b]⟩]=>some (a,b)
 |_=>none
def yI5 (x:Int×Int):List Value:=[.agg #[.int .u64 x.1,.int .u64 x.2]]
theorem yAf {args:List Value}{a:Int×Int}(h:yI4 args=some a):args=yI5 a:=by
 unfold yI4 at h
 split at h
 case h_2=>cases h
 cases h;rfl
def yI6 (y:Int×Int):Value:=.agg #[.int .u64 y.1,.int .u64 y.2]
def con72:Con:=Con.opt yI4 (fun x=>quad_Not.f x.1 x.2) yI6
def L72:List (Nat×Con):=[]
def yI7:List Value→Option (Int)
 |[.int .i64 a]=>some (a)
 |_=>none
def yI8 (x:Int):List Value:=[.int .i64 x]
theorem yAg {args:List Value}{a:Int}(h:yI7 args=some a):args=yI8 a:=by
 unfold yI7 at h
 split at h
 case h_2=>cases h
 cases h;rfl
def yI9 (y:Int):Value:=.int .i64 y
def con69:Con:=Con.opt yI7 (fun x=>addr_Bits.f x) yI9
def L69:List (Nat×Con):=[]
def yJa:List Value→Option (Int)
 |[.int .i64 a]=>some (a)
 |_=>none
def yJb (x:Int):List Value:=[.int .i64 x]
theorem yAh {args:List Value}{a:Int}(h:yJa args=some a):args=yJb a:=by
 unfold yJa at h
 split at h
 case h_2=>cases h
 cases h;rfl
def yJc (y:Int×Int):Value:=.agg #[.int .u64 y.1,.int .u64 y.2]
def con73:Con:=Con.opt yJa (fun x=>quad_Mask.f x) yJc
def L73:List (Nat×Con):=[(95,con95)]
def yJd:List Value→Option (Int×Int)
 |[.int .i64 a,.int .i64 b]=>some (a,b)
 |_=>none
def yJe (x:Int×Int):List Value:=[.int .i64 x.1,.int .i64 x.2]
theorem yAi {args:List Value}{a:Int×Int}(h:yJd args=some a):args=yJe a:=by
 unfold yJd at h
 split at h
 case h_2=>cases h
 cases h;rfl
def yJf (y:Int×Int):Value:=.agg #[.int .u64 y.1,.int .u64 y.2]
def con67:Con:=Con.opt yJd (fun x=>pref_mask.f x.1 x.2) yJf
def L67:List (Nat×Con):=[(69,con69),(73,con73)]
def yJg:List Value→Option (Int×Int×Int)
 |[.agg ⟨[.int .i64 a,.int .u64 b,.int .u64 c]⟩]=>some (a,b,c)
 |_=>none
def yJh (x:Int×Int×Int):List Value:=[.agg #[.int .i64 x.1,.int .u64 x.2.1,.int .u64 x.2.2]]
theorem yAj {args:List Value}{a:Int×Int×Int}(h:yJg args=some a):args=yJh a:=by
 unfold yJg at h
 split at h
 case h_2=>cases h
 cases h;rfl
def yJi (y:Bool):Value:=.bool y
def con68:Con:=Con.opt yJg (fun x=>addr_Ok.f x.1 x.2.1 x.2.2) yJi
def L68:List (Nat×Con):=[]
def yJj:List Value→Option (Int×Int×Int×Int)
 |[.agg ⟨[.int .i64 a,.int .u64 b,.int .u64 c,.int .i64 d]⟩]=>some (a,b,c,d)
 |_=>none
def yJk (x:Int×Int×Int×Int):List Value:=[.agg #[.int .i64 x.1,.int .u64 x.2.1,.int .u64 x.2.2.1,.int .i64 x.2.2.2]]
theorem yAk {args:List Value}{a:Int×Int×Int×Int}(h:yJj args=some a):args=yJk a:=by
 unfold yJj at h
 split at h
 case h_2=>cases h
 cases h;rfl
def yJl (y:Bool):Value:=.bool y
def con22:Con:=Con.opt yJj (fun x=>pref_Ok.f x.1 x.2.1 x.2.2.1 x.2.2.2) yJl
def L22:List (Nat×Con):=[(68,con68),(69,con69),(67,con67),(72,con72),(66,con66)]
def yJm:List Value→Option (Int×Int×Int×Int)
 |[.agg ⟨[.int .i64 a,.int .u64 b,.int .u64 c,.int .i64 d]⟩]=>some (a,b,c,d)
 |_=>none
def yJn (x:Int×Int×Int×Int):List Value:=[.agg #[.int .i64 x.1,.int .u64 x.2.1,.int .u64 x.2.2.1,.int .i64 x.2.2.2]]
theorem yAl {args:List Value}{a:Int×Int×Int×Int}(h:yJm args=some a):args=yJn a:=by
 unfold yJm at h
 split at h
 case h_2=>cases h
 cases h;rfl
def yJo (y:Int×Int×Int):Value:=.agg #[.int .i64 y.1,.int .u64 y.2.1,.int .u64 y.2.2]
def con24:Con:=Con.opt yJm (fun x=>pref_Last.f x.1 x.2.1 x.2.2.1 x.2.2.2) yJo
def L24:List (Nat×Con):=[(22,con22),(69,con69),(73,con73),(67,con67),(72,con72),(66,con66),(74,con74)]
def yJp:List Value→Option (Int×Int×Int×Int)
 |[.agg ⟨[.int .u64 a,.int .u64 b]⟩,.agg ⟨[.int .u64 c,.int .u64 d]⟩]=>some (a,b,c,d)
 |_=>none
def yJq (x:Int×Int×Int×Int):List Value:=[.agg #[.int .u64 x.1,.int .u64 x.2.1],.agg #[.int .u64 x.2.2.1,.int .u64 x.2.2.2]]
theorem yAm {args:List Value}{a:Int×Int×Int×Int}(h:yJp args=some a):args=yJq a:=by
 unfold yJp at h
 split at h
 case h_2=>cases h
 cases h;rfl
def yJr (y:Bool):Value:=.bool y
def con96:Con:=Con.opt yJp (fun x=>quad_Less.f x.1 x.2.1 x.2.2.1 x.2.2.2) yJr
def L96:List (Nat×Con):=[]
def yJs:List Value→Option (Int×Int×Int×Int×Int×Int)
 |[.agg ⟨[.int .i64 a,.int .u64 b,.int .u64 c]⟩,.agg ⟨[.int .i64 d,.int .u64 e,.int .u64 f]⟩]=>some (a,b,c,d,e,f)
 |_=>none
def yJt (x:Int×Int×Int×Int×Int×Int):List Value:=[.agg #[.int .i64 x.1,.int .u64 x.2.1,.int .u64 x.2.2.1],.agg #[.int .i64 x.2.2.2.1,.int .u64 x.2.2.2.2.1,.int .u64 x.2.2.2.2.2]]
theorem yAn {args:List Value}{a:Int×Int×Int×Int×Int×Int}(h:yJs args=some a):args=yJt a:=by
 unfold yJs at h
 split at h
 case h_2=>cases h
 cases h;rfl
def yJu (y:Bool):Value:=.bool y
def con75:Con:=Con.opt yJs (fun x=>addr_Less.f x.1 x.2.1 x.2.2.1 x.2.2.2.1 x.2.2.2.2.1 x.2.2.2.2.2) yJu
def L75:List (Nat×Con):=[(96,con96)]
def yQn (x:Int×Int×Int×Int×Int×Int):List Value:=[.agg #[.int .i64 x.1,.int .u64 x.2.1,.int .u64 x.2.2.1,.int .i64 x.2.2.2.1,.int .u64 x.2.2.2.2.1,.int .u64 x.2.2.2.2.2]]
def yNr (y:Bool):Value:=.bool y
def L48:List (Nat×Con):=[(68,con68),(75,con75)]
theorem yTu (a:Int)(Q:Value→Prop):zAx Tryz.prog (cwC L45) (zAd Tryz.f45) (zAn [.int .i64 a] 8) (zAo [] 64) (zA7 Tryz.prog Tryz.f45 fun v _=>Q v)=(zAm (zAl (a=4)) (Q (Value.int IntKind.i64 32)) (zAm (zAl (a=6)) (Q (Value.int IntKind.i64 128)) (Q (Value.int IntKind.i64 0)))):=by kernel_rfl
theorem yTv (a b c d:Int)(Q:Value→Prop):zAx Tryz.prog (cwC L55) (zAd Tryz.f55) (zAn [.agg #[.int .u64 a,.int .u64 b],.agg #[.int .u64 c,.int .u64 d]] 8) (zAo [] 64) (zA7 Tryz.prog Tryz.f55 fun v _=>Q v)=(Q (Value.agg #[Value.int IntKind.u64 (zB2 IntKind.u64 a c),Value.int IntKind.u64 (zB2 IntKind.u64 b d)])):=by kernel_rfl
theorem yTw (a b:Int)(Q:Value→Prop):zAx Tryz.prog (cwC L57) (zAd Tryz.f57) (zAn [.agg #[.int .u64 a,.int .u64 b]] 8) (zAo [] 64) (zA7 Tryz.prog Tryz.f57 fun v _=>Q v)=(Q (Value.agg #[Value.int IntKind.u64 (IntKind.wrap IntKind.u64 (↑(BitVec.toNat (BitVec.ofInt 64 (if Bool.false=Bool.true then -1 else if Bool.false=Bool.true then 2 ^ (64 - 1) - 1 else 2 ^ 64 - 1) ^^^ BitVec.ofInt 64 a)):Int)),Value.int IntKind.u64 (IntKind.wrap IntKind.u64 (↑(BitVec.toNat (BitVec.ofInt 64 (if Bool.false=Bool.true then -1 else if Bool.false=Bool.true then 2 ^ (64 - 1) - 1 else 2 ^ 64 - 1) ^^^ BitVec.ofInt 64 b)):Int))])):=by kernel_rfl
theorem yTx (a b:Int)(Q:Value→Prop):zAx Tryz.prog (cwC L65) (zAd Tryz.f65) (zAn [.int .i64 a,.int .i64 b] 8) (zAo [] 64) (zA7 Tryz.prog Tryz.f65 fun v _=>Q v)=((∃ x0:Int,((gleberef1_Bits.f a=Option.some x0)∧(∃ x1:Int×Int,((gleberef1_Mask.f 300 (IntKind.wrap IntKind.i64 (IntKind.wrap IntKind.i64 (128 - x0)+b))=Option.some x1)∧(∃ x2:Int,((gleberef1_Bits.f a=Option.some x2)∧(∃ x3:Int×Int,((gleberef1_Mask.f 300 (IntKind.wrap IntKind.i64 (128 - x2))=Option.some x3)∧(∃ x4:Int×Int,((gleberef1_Not.f (Prod.fst x3) (Prod.snd x3)=Option.some x4)∧(∃ x5:Int×Int,((gleberef1_And.f (Prod.fst x1) (Prod.snd x1) (Prod.fst x4) (Prod.snd x4)=Option.some x5)∧Q (Value.agg #[Value.int IntKind.u64 (Prod.fst x5),Value.int IntKind.u64 (Prod.snd x5)])))))))))))))):=by kernel_rfl
theorem yTy (a b c:Int)(Q:Value→Prop):zAx Tryz.prog (cwC L44) (zAd Tryz.f44) (zAn [.agg #[.int .i64 a,.int .u64 b,.int .u64 c]] 8) (zAo [] 64) (zA7 Tryz.prog Tryz.f44 fun v _=>Q v)=(zAm (zAl (a=6)) (Q (Value.bool Bool.true)) (zAm (zAl (a=4)) (zAm (zAl (b=0)) (Q (Value.bool (zAl (c < 4294967296)))) (Q (Value.bool Bool.false))) (Q (Value.bool Bool.false)))):=by kernel_rfl
theorem yTz (a b c d:Int)(Q:Value→Prop):zAx Tryz.prog (cwC L16) (zAd Tryz.f16) (zAn [.agg #[.int .i64 a,.int .u64 b,.int .u64 c,.int .i64 d]] 8) (zAo [] 64) (zA7 Tryz.prog Tryz.f16 fun v _=>Q v)=((∃ x0:Bool,((gleberef1_Ok.f a b c=Option.some x0)∧zAm (x0) (zAm (zAl (0≤d)) ((∃ x1:Int,((gleberef1_Bits.f a=Option.some x1)∧zAm (zAl (d≤x1)) ((∃ x2:Int×Int,((gleberef1_all.f a d=Option.some x2)∧(∃ x3:Int×Int,((gleberef1_And.f b c (Prod.fst x2) (Prod.snd x2)=Option.some x3)∧Q (Value.bool (zAl (Prod.fst x3=b)&&(zAl (Prod.snd x3=c)&&Bool.true)))))))) (Q (Value.bool Bool.false))))) (Q (Value.bool Bool.false))) (Q (Value.bool Bool.false))))):=by kernel_rfl
theorem yT0 (a b c d:Int)(Q:Value→Prop):zAx Tryz.prog (cwC L25) (zAd Tryz.f25) (zAn [.agg #[.int .i64 a,.int .u64 b,.int .u64 c,.int .i64 d]] 8) (zAo [] 64) (zA7 Tryz.prog Tryz.f25 fun v _=>Q v)=((∃ x0:Bool,((gleberef1_OkPrefix.f a b c d=Option.some x0)∧zAm (!x0) (Q (Value.agg #[Value.int IntKind.i64 0,Value.int IntKind.u64 0,Value.int IntKind.u64 0])) ((∃ x1:Int×Int,((gleberef1_all.f a d=Option.some x1)∧(∃ x2:Int×Int,((gleberef1_Not.f (Prod.fst x1) (Prod.snd x1)=Option.some x2)∧(∃ x3:Int,((gleberef1_Bits.f a=Option.some x3)∧(∃ x4:Int×Int,((gleberef1_Mask.f 300 (IntKind.wrap IntKind.i64 (128 - x3))=Option.some x4)∧(∃ x5:Int×Int,((gleberef1_Not.f (Prod.fst x4) (Prod.snd x4)=Option.some x5)∧(∃ x6:Int×Int,((gleberef1_And.f (Prod.fst x2) (Prod.snd x2) (Prod.fst x5) (Prod.snd x5)=Option.some x6)∧Q (Value.agg #[Value.int IntKind.i64 a,Value.int IntKind.u64 (orI IntKind.u64 b (Prod.fst x6)),Value.int IntKind.u64 (orI IntKind.u64 c (Prod.snd x6))]))))))))))))))))):=by kernel_rfl
theorem yT1 (a b c d:Int)(Q:Value→Prop):zAx Tryz.prog (cwC L10) (zAd Tryz.f10) (zAn [.int .i64 a,.int .u64 b,.int .u64 c,.int .i64 d] 8) (zAo [] 64) (zA7 Tryz.prog Tryz.f10 fun v _=>Q v)=((∃ x0:Int×Int×Int,((glebelaw2_Addr.f 300 a b c=Option.some x0)∧(∃ x1:Int,((gleberef1_Bits.f (Prod.fst x0)=Option.some x1)∧((IntKind.wrap IntKind.i64 (x1+1)≠0)∧(∃ x2:Int,((gleberef1_Bits.f (Prod.fst x0)=Option.some x2)∧(∃ x3:Int×Int,((gleberef1_Mask.f 300 (IntKind.wrap IntKind.i64 (IntKind.wrap IntKind.i64 (128 - x2)+Int.tmod (zB2 IntKind.i64 d 255) (IntKind.wrap IntKind.i64 (x1+1))))=Option.some x3)∧(∃ x4:Int,((gleberef1_Bits.f (Prod.fst x0)=Option.some x4)∧(∃ x5:Int×Int,((gleberef1_Mask.f 300 (IntKind.wrap IntKind.i64 (128 - x4))=Option.some x5)∧(∃ x6:Int×Int,((gleberef1_Not.f (Prod.fst x5) (Prod.snd x5)=Option.some x6)∧(∃ x7:Int×Int,((gleberef1_And.f (Prod.fst x3) (Prod.snd x3) (Prod.fst x6) (Prod.snd x6)=Option.some x7)∧(∃ x8:Int×Int,((gleberef1_And.f (Prod.fst (Prod.snd x0)) (Prod.snd (Prod.snd x0)) (Prod.fst x7) (Prod.snd x7)=Option.some x8)∧Q (Value.agg #[Value.int IntKind.i64 (Prod.fst x0),Value.int IntKind.u64 (Prod.fst x8),Value.int IntKind.u64 (Prod.snd x8),Value.int IntKind.i64 (Int.tmod (zB2 IntKind.i64 d 255) (IntKind.wrap IntKind.i64 (x1+1)))]))))))))))))))))))))):=by kernel_rfl
theorem yT2 (a b c d:Int)(Q:Value→Prop):zAx Tryz.prog (cwC L66) (zAd Tryz.f66) (zAn [.agg #[.int .u64 a,.int .u64 b],.agg #[.int .u64 c,.int .u64 d]] 8) (zAo [] 64) (zA7 Tryz.prog Tryz.f66 fun v _=>Q v)=(Q (Value.agg #[Value.int IntKind.u64 (zB2 IntKind.u64 a c),Value.int IntKind.u64 (zB2 IntKind.u64 b d)])):=by kernel_rfl
theorem yT3 (a b c d:Int)(Q:Value→Prop):zAx Tryz.prog (cwC L74) (zAd Tryz.f74) (zAn [.agg #[.int .u64 a,.int .u64 b],.agg #[.int .u64 c,.int .u64 d]] 8) (zAo [] 64) (zA7 Tryz.prog Tryz.f74 fun v _=>Q v)=(Q (Value.agg #[Value.int IntKind.u64 (orI IntKind.u64 a c),Value.int IntKind.u64 (orI IntKind.u64 b d)])):=by kernel_rfl
theorem yT4 (a b:Int)(Q:Value→Prop):zAx Tryz.prog (cwC L72) (zAd Tryz.f72) (zAn [.agg #[.int .u64 a,.int .u64 b]] 8) (zAo [] 64) (zA7 Tryz.prog Tryz.f72 fun v _=>Q v)=(Q (Value.agg #[Value.int IntKind.u64 (IntKind.wrap IntKind.u64 (↑(BitVec.toNat (BitVec.ofInt 64 (if Bool.false=Bool.true then -1 else if Bool.false=Bool.true then 2 ^ (64 - 1) - 1 else 2 ^ 64 - 1) ^^^ BitVec.ofInt 64 a)):Int)),Value.int IntKind.u64 (IntKind.wrap IntKind.u64 (↑(BitVec.toNat (BitVec.ofInt 64 (if Bool.false=Bool.true then -1 else if Bool.false=Bool.true then 2 ^ (64 - 1) - 1 else 2 ^ 64 - 1) ^^^ BitVec.ofInt 64 b)):Int))])):=by kernel_rfl
theorem yT5 (a:Int)(Q:Value→Prop):zAx Tryz.prog (cwC L69) (zAd Tryz.f69) (zAn [.int .i64 a] 8) (zAo [] 64) (zA7 Tryz.prog Tryz.f69 fun v _=>Q v)=(zAm (zAl (a=4)) (Q (Value.int IntKind.i64 32)) (zAm (zAl (a=6)) (Q (Value.int IntKind.i64 128)) (Q (Value.int IntKind.i64 0)))):=by kernel_rfl
theorem yT6 (a:Int)(Q:Value→Prop):zAx Tryz.prog (cwC L73) (zAd Tryz.f73) (zAn [.int .i64 a] 8) (zAo [] 64) (zA7 Tryz.prog Tryz.f73 fun v _=>Q v)=((∃ x0:Int,((quad_high.f a=Option.some x0)∧(∃ x1:Int,((quad_high.f (IntKind.wrap IntKind.i64 ((if 128 < a then 128 else a) - 64))=Option.some x1)∧Q (Value.agg #[Value.int IntKind.u64 x0,Value.int IntKind.u64 x1])))))):=by kernel_rfl
theorem yT7 (a b:Int)(Q:Value→Prop):zAx Tryz.prog (cwC L67) (zAd Tryz.f67) (zAn [.int .i64 a,.int .i64 b] 8) (zAo [] 64) (zA7 Tryz.prog Tryz.f67 fun v _=>Q v)=((∃ x0:Int,((addr_Bits.f a=Option.some x0)∧(∃ x1:Int×Int,((quad_Mask.f (IntKind.wrap IntKind.i64 (IntKind.wrap IntKind.i64 (128 - x0)+b))=Option.some x1)∧Q (Value.agg #[Value.int IntKind.u64 (Prod.fst x1),Value.int IntKind.u64 (Prod.snd x1)])))))):=by kernel_rfl
theorem yT8 (a b c:Int)(Q:Value→Prop):zAx Tryz.prog (cwC L68) (zAd Tryz.f68) (zAn [.agg #[.int .i64 a,.int .u64 b,.int .u64 c]] 8) (zAo [] 64) (zA7 Tryz.prog Tryz.f68 fun v _=>Q v)=(zAm (zAl (a=6)) (Q (Value.bool Bool.true)) (zAm (zAl (a=4)) (zAm (zAl (b=0)) (Q (Value.bool (zAl (c < 4294967296)))) (Q (Value.bool Bool.false))) (Q (Value.bool Bool.false)))):=by kernel_rfl
theorem yT9 (a b c d:Int)(Q:Value→Prop):zAx Tryz.prog (cwC L22) (zAd Tryz.f22) (zAn [.agg #[.int .i64 a,.int .u64 b,.int .u64 c,.int .i64 d]] 8) (zAo [] 64) (zA7 Tryz.prog Tryz.f22 fun v _=>Q v)=((∃ x0:Bool,((addr_Ok.f a b c=Option.some x0)∧zAm (!x0) (Q (Value.bool Bool.false)) (zAm (zAl (d < 0)) (Q (Value.bool Bool.false)) ((∃ x1:Int,((addr_Bits.f a=Option.some x1)∧zAm (zAl (x1 < d)) (Q (Value.bool Bool.false)) ((∃ x2:Int×Int,((pref_mask.f a d=Option.some x2)∧(∃ x3:Int×Int,((quad_Not.f (Prod.fst x2) (Prod.snd x2)=Option.some x3)∧(∃ x4:Int×Int,((quad_And.f b c (Prod.fst x3) (Prod.snd x3)=Option.some x4)∧Q (Value.bool (zAl (Prod.fst x4=0)&&(zAl (Prod.snd x4=0)&&Bool.true))))))))))))))))):=by kernel_rfl
theorem yUa (a b c d:Int)(Q:Value→Prop):zAx Tryz.prog (cwC L24) (zAd Tryz.f24) (zAn [.agg #[.int .i64 a,.int .u64 b,.int .u64 c,.int .i64 d]] 8) (zAo [] 64) (zA7 Tryz.prog Tryz.f24 fun v _=>Q v)=((∃ x0:Bool,((pref_Ok.f a b c d=Option.some x0)∧zAm (!x0) (Q (Value.agg #[Value.int IntKind.i64 0,Value.int IntKind.u64 0,Value.int IntKind.u64 0])) ((∃ x1:Int,((addr_Bits.f a=Option.some x1)∧(∃ x2:Int×Int,((quad_Mask.f (IntKind.wrap IntKind.i64 (128 - x1))=Option.some x2)∧(∃ x3:Int×Int,((pref_mask.f a d=Option.some x3)∧(∃ x4:Int×Int,((quad_Not.f (Prod.fst x3) (Prod.snd x3)=Option.some x4)∧(∃ x5:Int×Int,((quad_Not.f (Prod.fst x2) (Prod.snd x2)=Option.some x5)∧(∃ x6:Int×Int,((quad_And.f (Prod.fst x4) (Prod.snd x4) (Prod.fst x5) (Prod.snd x5)=Option.some x6)∧(∃ x7:Int×Int,((quad_Or.f b c (Prod.fst x6) (Prod.snd x6)=Option.some x7)∧Q (Value.agg #[Value.int IntKind.i64 a,Value.int IntKind.u64 (Prod.fst x7),Value.int IntKind.u64 (Prod.snd x7)]))))))))))))))))))):=by kernel_rfl
theorem yUb (a b c d:Int)(Q:Value→Prop):zAx Tryz.prog (cwC L96) (zAd Tryz.f96) (zAn [.agg #[.int .u64 a,.int .u64 b],.agg #[.int .u64 c,.int .u64 d]] 8) (zAo [] 64) (zA7 Tryz.prog Tryz.f96 fun v _=>Q v)=(zAm (zAl (a < c)) (Q (Value.bool Bool.true)) (zAm (zAl (a=c)) (Q (Value.bool (zAl (b < d)))) (Q (Value.bool Bool.false)))):=by kernel_rfl
theorem yUc (a b c d e f:Int)(Q:Value→Prop):zAx Tryz.prog (cwC L75) (zAd Tryz.f75) (zAn [.agg #[.int .i64 a,.int .u64 b,.int .u64 c],.agg #[.int .i64 d,.int .u64 e,.int .u64 f]] 8) (zAo [] 64) (zA7 Tryz.prog Tryz.f75 fun v _=>Q v)=(zAm (zAl (a < d)) (Q (Value.bool Bool.true)) (zAm (zAl (a=d)) ((∃ x0:Bool,((quad_Less.f b c e f=Option.some x0)∧Q (Value.bool x0)))) (Q (Value.bool Bool.false)))):=by kernel_rfl
theorem yUd (a b c d e f:Int)(Q:Value→Prop):zAx Tryz.prog (cwC L48) (zAd Tryz.f48) (zAn [.agg #[.int .i64 a,.int .u64 b,.int .u64 c,.int .i64 d,.int .u64 e,.int .u64 f]] 8) (zAo [] 64) (zA7 Tryz.prog Tryz.f48 fun v _=>Q v)=((∃ x0:Bool,((addr_Ok.f a b c=Option.some x0)∧zAm (x0) ((∃ x1:Bool,((addr_Ok.f d e f=Option.some x1)∧zAm (x1) (zAm (zAl (a=d)) ((∃ x2:Bool,((addr_Less.f d e f a b c=Option.some x2)∧Q (Value.bool !x2)))) (Q (Value.bool Bool.false))) (Q (Value.bool Bool.false))))) (Q (Value.bool Bool.false))))):=by kernel_rfl
theorem bifW_c {p:Prop}{A B:Prop}(h1:p→A)(h2:¬ p→B):zAm (zAl p) A B:=zHi (fun h=>h1 (zCg.1 h)) (fun h=>h2 (zDq.1 h))
theorem bifW_b {b:Bool}{A B:Prop}(h1:b=true→A)(h2:¬ b=true→B):zAm b A B:=zHi h1 (fun h=>h2 (by rw[h];decide))
theorem bifW_n {b:Bool}{A B:Prop}(h1:b=true→B)(h2:¬ b=true→A):zAm (!b) A B:=by cases b;exact h2 (by decide);exact h1 rfl
theorem w45 (x:Int)(y:Int)(hx:gleberef1_Bits.f x=some y):zAx Tryz.prog (cwC L45) (zAd Tryz.f45) (zAn (yIe x) 8) (zAo [] 64) (zA7 Tryz.prog Tryz.f45 fun v' _=>v'=yIf y):=by
 refine(yTu x _).mpr ?_
 unfold gleberef1_Bits.f at hx
 try simp only[zCc,zBb,zBs]
 repeat' first
  |(obtain⟨y,hy,hx⟩:=Option.bind_eq_some_iff.1 hx;refine⟨y,hy,?_⟩)
  |((first|refine bifW_c (fun hc=>?_) fun hc=>?_|refine bifW_n (fun hc=>?_) fun hc=>?_|refine bifW_b (fun hc=>?_) fun hc=>?_)<;>first|rw[if_pos hc] at hx|rw[if_neg hc] at hx|rw[if_pos (Decidable.not_not.1 hc)] at hx)
  |(split at hx<;>first|(cases hx;done)|(refine And.intro (by assumption) ?_))
  |(cases hx;rfl)
  |(cases hx;simp only[yIf,zA2,zA1,Bool.and_true])
theorem yPl {W:World}(hW:GoodW W):zAr Tryz.prog W 6 45 con45.own:=
 zA3 yIe (Laying.empty hW.size) hW.size (by decide) zAs (zAh W 6) Tryz.func45 (fn:=Tryz.f45) (c:=zAd Tryz.f45) (by kernel_rfl) (by kernel_rfl) (fun _ _ h=>zZ5 h) (fun a=>⟨rfl,(by kernel_rfl)⟩) (fun b=>rfl) w45
theorem w55 (x:Int×Int×Int×Int)(y:Int×Int)(hx:gleberef1_And.f x.1 x.2.1 x.2.2.1 x.2.2.2=some y):zAx Tryz.prog (cwC L55) (zAd Tryz.f55) (zAn (yIh x) 8) (zAo [] 64) (zA7 Tryz.prog Tryz.f55 fun v' _=>v'=yIi y):=by
 obtain⟨a,b,c,d⟩:=x
 refine(yTv a b c d _).mpr ?_
 unfold gleberef1_And.f at hx
 try simp only[zCc,zBb,zBs]
 repeat' first
  |(obtain⟨y,hy,hx⟩:=Option.bind_eq_some_iff.1 hx;refine⟨y,hy,?_⟩)
  |((first|refine bifW_c (fun hc=>?_) fun hc=>?_|refine bifW_n (fun hc=>?_) fun hc=>?_|refine bifW_b (fun hc=>?_) fun hc=>?_)<;>first|rw[if_pos hc] at hx|rw[if_neg hc] at hx|rw[if_pos (Decidable.not_not.1 hc)] at hx)
  |(split at hx<;>first|(cases hx;done)|(refine And.intro (by assumption) ?_))
  |(cases hx;rfl)
  |(cases hx;simp only[yIi,zA2,zA1,Bool.and_true])
theorem yM1 {W:World}(hW:GoodW W):zAr Tryz.prog W 6 55 con55.own:=
 zA3 yIh (Laying.empty hW.size) hW.size (by decide) zAs (zAh W 6) Tryz.func55 (fn:=Tryz.f55) (c:=zAd Tryz.f55) (by kernel_rfl) (by kernel_rfl) (fun _ _ h=>zZ6 h) (fun a=>⟨rfl,(by kernel_rfl)⟩) (fun b=>rfl) w55
theorem w57 (x:Int×Int)(y:Int×Int)(hx:gleberef1_Not.f x.1 x.2=some y):zAx Tryz.prog (cwC L57) (zAd Tryz.f57) (zAn (yIk x) 8) (zAo [] 64) (zA7 Tryz.prog Tryz.f57 fun v' _=>v'=yIl y):=by
 obtain⟨a,b⟩:=x
 refine(yTw a b _).mpr ?_
 unfold gleberef1_Not.f at hx
 try simp only[zCc,zBb,zBs]
 repeat' first
  |(obtain⟨y,hy,hx⟩:=Option.bind_eq_some_iff.1 hx;refine⟨y,hy,?_⟩)
  |((first|refine bifW_c (fun hc=>?_) fun hc=>?_|refine bifW_n (fun hc=>?_) fun hc=>?_|refine bifW_b (fun hc=>?_) fun hc=>?_)<;>first|rw[if_pos hc] at hx|rw[if_neg hc] at hx|rw[if_pos (Decidable.not_not.1 hc)] at hx)
  |(split at hx<;>first|(cases hx;done)|(refine And.intro (by assumption) ?_))
  |(cases hx;rfl)
  |(cases hx;simp only[yIl,zA2,zA1,Bool.and_true])
theorem yQo {W:World}(hW:GoodW W):zAr Tryz.prog W 6 57 con57.own:=
 zA3 yIk (Laying.empty hW.size) hW.size (by decide) zAs (zAh W 6) Tryz.func57 (fn:=Tryz.f57) (c:=zAd Tryz.f57) (by kernel_rfl) (by kernel_rfl) (fun _ _ h=>zZ7 h) (fun a=>⟨rfl,(by kernel_rfl)⟩) (fun b=>rfl) w57
theorem w65 (x:Int×Int)(y:Int×Int)(hx:gleberef1_all.f x.1 x.2=some y):zAx Tryz.prog (cwC L65) (zAd Tryz.f65) (zAn (yIn x) 8) (zAo [] 64) (zA7 Tryz.prog Tryz.f65 fun v' _=>v'=yIo y):=by
 obtain⟨a,b⟩:=x
 refine(yTx a b _).mpr ?_
 unfold gleberef1_all.f at hx
 try simp only[zCc,zBb,zBs]
 repeat' first
  |(obtain⟨y,hy,hx⟩:=Option.bind_eq_some_iff.1 hx;refine⟨y,hy,?_⟩)
  |((first|refine bifW_c (fun hc=>?_) fun hc=>?_|refine bifW_n (fun hc=>?_) fun hc=>?_|refine bifW_b (fun hc=>?_) fun hc=>?_)<;>first|rw[if_pos hc] at hx|rw[if_neg hc] at hx|rw[if_pos (Decidable.not_not.1 hc)] at hx)
  |(split at hx<;>first|(cases hx;done)|(refine And.intro (by assumption) ?_))
  |(cases hx;rfl)
  |(cases hx;simp only[yIo,zA2,zA1,Bool.and_true])
theorem yNs {W:World}(hW:GoodW W):zAr Tryz.prog W 6 65 con65.own:=
 zA3 yIn (Laying.empty hW.size) hW.size (by decide) zAs (OwnsAll.con (yPl hW) (OwnsAll.con (yQk hW) (OwnsAll.con (yQo hW) (OwnsAll.con (yM1 hW) (zAh W 6))))) Tryz.func65 (fn:=Tryz.f65) (c:=zAd Tryz.f65) (by kernel_rfl) (by kernel_rfl) (fun _ _ h=>zZ8 h) (fun a=>⟨rfl,(by kernel_rfl)⟩) (fun b=>rfl) w65
theorem w44 (x:Int×Int×Int)(y:Bool)(hx:gleberef1_Ok.f x.1 x.2.1 x.2.2=some y):zAx Tryz.prog (cwC L44) (zAd Tryz.f44) (zAn (yEi x) 8) (zAo [] 64) (zA7 Tryz.prog Tryz.f44 fun v' _=>v'=yEj y):=by
 obtain⟨a,b,c⟩:=x
 refine(yTy a b c _).mpr ?_
 unfold gleberef1_Ok.f at hx
 try simp only[zCc,zBb,zBs]
 repeat' first
  |(obtain⟨y,hy,hx⟩:=Option.bind_eq_some_iff.1 hx;refine⟨y,hy,?_⟩)
  |((first|refine bifW_c (fun hc=>?_) fun hc=>?_|refine bifW_n (fun hc=>?_) fun hc=>?_|refine bifW_b (fun hc=>?_) fun hc=>?_)<;>first|rw[if_pos hc] at hx|rw[if_neg hc] at hx|rw[if_pos (Decidable.not_not.1 hc)] at hx)
  |(split at hx<;>first|(cases hx;done)|(refine And.intro (by assumption) ?_))
  |(cases hx;rfl)
  |(cases hx;simp only[yEj,zA2,zA1,Bool.and_true])
theorem yPm {W:World}(hW:GoodW W):zAr Tryz.prog W 6 44 con44.own:=
 zA3 yEi (Laying.empty hW.size) hW.size (by decide) zAs (zAh W 6) Tryz.func44 (fn:=Tryz.f44) (c:=zAd Tryz.f44) (by kernel_rfl) (by kernel_rfl) (fun _ _ h=>zZ9 h) (fun a=>⟨rfl,(by kernel_rfl)⟩) (fun b=>rfl) w44
theorem w16 (x:Int×Int×Int×Int)(y:Bool)(hx:gleberef1_OkPrefix.f x.1 x.2.1 x.2.2.1 x.2.2.2=some y):zAx Tryz.prog (cwC L16) (zAd Tryz.f16) (zAn (yIq x) 8) (zAo [] 64) (zA7 Tryz.prog Tryz.f16 fun v' _=>v'=yIr y):=by
 obtain⟨a,b,c,d⟩:=x
 refine(yTz a b c d _).mpr ?_
 unfold gleberef1_OkPrefix.f at hx
 try simp only[zCc,zBb,zBs]
 repeat' first
  |(obtain⟨y,hy,hx⟩:=Option.bind_eq_some_iff.1 hx;refine⟨y,hy,?_⟩)
  |((first|refine bifW_c (fun hc=>?_) fun hc=>?_|refine bifW_n (fun hc=>?_) fun hc=>?_|refine bifW_b (fun hc=>?_) fun hc=>?_)<;>first|rw[if_pos hc] at hx|rw[if_neg hc] at hx|rw[if_pos (Decidable.not_not.1 hc)] at hx)
  |(split at hx<;>first|(cases hx;done)|(refine And.intro (by assumption) ?_))
  |(cases hx;rfl)
  |(cases hx;simp only[yIr,zA2,zA1,Bool.and_true])
theorem yGk {W:World}(hW:GoodW W):zAr Tryz.prog W 6 16 con16.own:=
 zA3 yIq (Laying.empty hW.size) hW.size (by decide) zAs (OwnsAll.con (yPm hW) (OwnsAll.con (yPl hW) (OwnsAll.con (yNs hW) (OwnsAll.con (yM1 hW) (zAh W 6))))) Tryz.func16 (fn:=Tryz.f16) (c:=zAd Tryz.f16) (by kernel_rfl) (by kernel_rfl) (fun _ _ h=>yAa h) (fun a=>⟨rfl,(by kernel_rfl)⟩) (fun b=>rfl) w16
theorem w25 (x:Int×Int×Int×Int)(y:Int×Int×Int)(hx:gleberef1_Last.f x.1 x.2.1 x.2.2.1 x.2.2.2=some y):zAx Tryz.prog (cwC L25) (zAd Tryz.f25) (zAn (yIt x) 8) (zAo [] 64) (zA7 Tryz.prog Tryz.f25 fun v' _=>v'=yIu y):=by
 obtain⟨a,b,c,d⟩:=x
 refine(yT0 a b c d _).mpr ?_
 unfold gleberef1_Last.f at hx
 try simp only[zCc,zBb,zBs]
 repeat' first
  |(obtain⟨y,hy,hx⟩:=Option.bind_eq_some_iff.1 hx;refine⟨y,hy,?_⟩)
  |((first|refine bifW_c (fun hc=>?_) fun hc=>?_|refine bifW_n (fun hc=>?_) fun hc=>?_|refine bifW_b (fun hc=>?_) fun hc=>?_)<;>first|rw[if_pos hc] at hx|rw[if_neg hc] at hx|rw[if_pos (Decidable.not_not.1 hc)] at hx)
  |(split at hx<;>first|(cases hx;done)|(refine And.intro (by assumption) ?_))
  |(cases hx;rfl)
  |(cases hx;simp only[yIu,zA2,zA1,Bool.and_true])
theorem yUe {W:World}(hW:GoodW W):zAr Tryz.prog W 6 25 con25.own:=
 zA3 yIt (Laying.empty hW.size) hW.size (by decide) zAs (OwnsAll.con (yGk hW) (OwnsAll.con (yNs hW) (OwnsAll.con (yQo hW) (OwnsAll.con (yPl hW) (OwnsAll.con (yQk hW) (OwnsAll.con (yM1 hW) (zAh W 6))))))) Tryz.func25 (fn:=Tryz.f25) (c:=zAd Tryz.f25) (by kernel_rfl) (by kernel_rfl) (fun _ _ h=>yAb h) (fun a=>⟨rfl,(by kernel_rfl)⟩) (fun b=>rfl) w25
theorem w10 (x:Int×Int×Int×Int)(y:Int×Int×Int×Int)(hx:glebelaw3_Pre.f x.1 x.2.1 x.2.2.1 x.2.2.2=some y):zAx Tryz.prog (cwC L10) (zAd Tryz.f10) (zAn (yIw x) 8) (zAo [] 64) (zA7 Tryz.prog Tryz.f10 fun v' _=>v'=yIx y):=by
 obtain⟨a,b,c,d⟩:=x
 refine(yT1 a b c d _).mpr ?_
 unfold glebelaw3_Pre.f at hx
 try simp only[zCc,zBb,zBs]
 repeat' first
  |(obtain⟨y,hy,hx⟩:=Option.bind_eq_some_iff.1 hx;refine⟨y,hy,?_⟩)
  |((first|refine bifW_c (fun hc=>?_) fun hc=>?_|refine bifW_n (fun hc=>?_) fun hc=>?_|refine bifW_b (fun hc=>?_) fun hc=>?_)<;>first|rw[if_pos hc] at hx|rw[if_neg hc] at hx|rw[if_pos (Decidable.not_not.1 hc)] at hx)
  |(split at hx<;>first|(cases hx;done)|(refine And.intro (by assumption) ?_))
  |(cases hx;rfl)
  |(cases hx;simp only[yIx,zA2,zA1,Bool.and_true])
theorem yUf {W:World}(hW:GoodW W):zAr Tryz.prog W 6 10 con10.own:=
 zA3 yIw (Laying.empty hW.size) hW.size (by decide) zAs (OwnsAll.con (yTt hW) (OwnsAll.con (yPl hW) (OwnsAll.con (yQk hW) (OwnsAll.con (yQo hW) (OwnsAll.con (yM1 hW) (zAh W 6)))))) Tryz.func10 (fn:=Tryz.f10) (c:=zAd Tryz.f10) (by kernel_rfl) (by kernel_rfl) (fun _ _ h=>yAc h) (fun a=>⟨rfl,(by kernel_rfl)⟩) (fun b=>rfl) w10
theorem w66 (x:Int×Int×Int×Int)(y:Int×Int)(hx:quad_And.f x.1 x.2.1 x.2.2.1 x.2.2.2=some y):zAx Tryz.prog (cwC L66) (zAd Tryz.f66) (zAn (yIz x) 8) (zAo [] 64) (zA7 Tryz.prog Tryz.f66 fun v' _=>v'=yI0 y):=by
 obtain⟨a,b,c,d⟩:=x
 refine(yT2 a b c d _).mpr ?_
 unfold quad_And.f at hx
 try simp only[zCc,zBb,zBs]
 repeat' first
  |(obtain⟨y,hy,hx⟩:=Option.bind_eq_some_iff.1 hx;refine⟨y,hy,?_⟩)
  |((first|refine bifW_c (fun hc=>?_) fun hc=>?_|refine bifW_n (fun hc=>?_) fun hc=>?_|refine bifW_b (fun hc=>?_) fun hc=>?_)<;>first|rw[if_pos hc] at hx|rw[if_neg hc] at hx|rw[if_pos (Decidable.not_not.1 hc)] at hx)
  |(split at hx<;>first|(cases hx;done)|(refine And.intro (by assumption) ?_))
  |(cases hx;rfl)
  |(cases hx;simp only[yI0,zA2,zA1,Bool.and_true])
theorem yNt {W:World}(hW:GoodW W):zAr Tryz.prog W 6 66 con66.own:=
 zA3 yIz (Laying.empty hW.size) hW.size (by decide) zAs (zAh W 6) Tryz.func66 (fn:=Tryz.f66) (c:=zAd Tryz.f66) (by kernel_rfl) (by kernel_rfl) (fun _ _ h=>yAd h) (fun a=>⟨rfl,(by kernel_rfl)⟩) (fun b=>rfl) w66
theorem w74 (x:Int×Int×Int×Int)(y:Int×Int)(hx:quad_Or.f x.1 x.2.1 x.2.2.1 x.2.2.2=some y):zAx Tryz.prog (cwC L74) (zAd Tryz.f74) (zAn (yI2 x) 8) (zAo [] 64) (zA7 Tryz.prog Tryz.f74 fun v' _=>v'=yI3 y):=by
 obtain⟨a,b,c,d⟩:=x
 refine(yT3 a b c d _).mpr ?_
 unfold quad_Or.f at hx
 try simp only[zCc,zBb,zBs]
 repeat' first
  |(obtain⟨y,hy,hx⟩:=Option.bind_eq_some_iff.1 hx;refine⟨y,hy,?_⟩)
  |((first|refine bifW_c (fun hc=>?_) fun hc=>?_|refine bifW_n (fun hc=>?_) fun hc=>?_|refine bifW_b (fun hc=>?_) fun hc=>?_)<;>first|rw[if_pos hc] at hx|rw[if_neg hc] at hx|rw[if_pos (Decidable.not_not.1 hc)] at hx)
  |(split at hx<;>first|(cases hx;done)|(refine And.intro (by assumption) ?_))
  |(cases hx;rfl)
  |(cases hx;simp only[yI3,zA2,zA1,Bool.and_true])
theorem yUg {W:World}(hW:GoodW W):zAr Tryz.prog W 6 74 con74.own:=
 zA3 yI2 (Laying.empty hW.size) hW.size (by decide) zAs (zAh W 6) Tryz.func74 (fn:=Tryz.f74) (c:=zAd Tryz.f74) (by kernel_rfl) (by kernel_rfl) (fun _ _ h=>yAe h) (fun a=>⟨rfl,(by kernel_rfl)⟩) (fun b=>rfl) w74
theorem w72 (x:Int×Int)(y:Int×Int)(hx:quad_Not.f x.1 x.2=some y):zAx Tryz.prog (cwC L72) (zAd Tryz.f72) (zAn (yI5 x) 8) (zAo [] 64) (zA7 Tryz.prog Tryz.f72 fun v' _=>v'=yI6 y):=by
 obtain⟨a,b⟩:=x
 refine(yT4 a b _).mpr ?_
 unfold quad_Not.f at hx
 try simp only[zCc,zBb,zBs]
 repeat' first
  |(obtain⟨y,hy,hx⟩:=Option.bind_eq_some_iff.1 hx;refine⟨y,hy,?_⟩)
  |((first|refine bifW_c (fun hc=>?_) fun hc=>?_|refine bifW_n (fun hc=>?_) fun hc=>?_|refine bifW_b (fun hc=>?_) fun hc=>?_)<;>first|rw[if_pos hc] at hx|rw[if_neg hc] at hx|rw[if_pos (Decidable.not_not.1 hc)] at hx)
  |(split at hx<;>first|(cases hx;done)|(refine And.intro (by assumption) ?_))
  |(cases hx;rfl)
  |(cases hx;simp only[yI6,zA2,zA1,Bool.and_true])
theorem ySt {W:World}(hW:GoodW W):zAr Tryz.prog W 6 72 con72.own:=
 zA3 yI5 (Laying.empty hW.size) hW.size (by decide) zAs (zAh W 6) Tryz.func72 (fn:=Tryz.f72) (c:=zAd Tryz.f72) (by kernel_rfl) (by kernel_rfl) (fun _ _ h=>yAf h) (fun a=>⟨rfl,(by kernel_rfl)⟩) (fun b=>rfl) w72
theorem w69 (x:Int)(y:Int)(hx:addr_Bits.f x=some y):zAx Tryz.prog (cwC L69) (zAd Tryz.f69) (zAn (yI8 x) 8) (zAo [] 64) (zA7 Tryz.prog Tryz.f69 fun v' _=>v'=yI9 y):=by
 refine(yT5 x _).mpr ?_
 unfold addr_Bits.f at hx
 try simp only[zCc,zBb,zBs]
 repeat' first
  |(obtain⟨y,hy,hx⟩:=Option.bind_eq_some_iff.1 hx;refine⟨y,hy,?_⟩)
  |((first|refine bifW_c (fun hc=>?_) fun hc=>?_|refine bifW_n (fun hc=>?_) fun hc=>?_|refine bifW_b (fun hc=>?_) fun hc=>?_)<;>first|rw[if_pos hc] at hx|rw[if_neg hc] at hx|rw[if_pos (Decidable.not_not.1 hc)] at hx)
  |(split at hx<;>first|(cases hx;done)|(refine And.intro (by assumption) ?_))
  |(cases hx;rfl)
  |(cases hx;simp only[yI9,zA2,zA1,Bool.and_true])
theorem yPn {W:World}(hW:GoodW W):zAr Tryz.prog W 6 69 con69.own:=
 zA3 yI8 (Laying.empty hW.size) hW.size (by decide) zAs (zAh W 6) Tryz.func69 (fn:=Tryz.f69) (c:=zAd Tryz.f69) (by kernel_rfl) (by kernel_rfl) (fun _ _ h=>yAg h) (fun a=>⟨rfl,(by kernel_rfl)⟩) (fun b=>rfl) w69
theorem w73 (x:Int)(y:Int×Int)(hx:quad_Mask.f x=some y):zAx Tryz.prog (cwC L73) (zAd Tryz.f73) (zAn (yJb x) 8) (zAo [] 64) (zA7 Tryz.prog Tryz.f73 fun v' _=>v'=yJc y):=by
 refine(yT6 x _).mpr ?_
 unfold quad_Mask.f at hx
 try simp only[zCc,zBb,zBs]
 repeat' first
  |(obtain⟨y,hy,hx⟩:=Option.bind_eq_some_iff.1 hx;refine⟨y,hy,?_⟩)
  |((first|refine bifW_c (fun hc=>?_) fun hc=>?_|refine bifW_n (fun hc=>?_) fun hc=>?_|refine bifW_b (fun hc=>?_) fun hc=>?_)<;>first|rw[if_pos hc] at hx|rw[if_neg hc] at hx|rw[if_pos (Decidable.not_not.1 hc)] at hx)
  |(split at hx<;>first|(cases hx;done)|(refine And.intro (by assumption) ?_))
  |(cases hx;rfl)
  |(cases hx;simp only[yJc,zA2,zA1,Bool.and_true])
theorem ySu {W:World}(hW:GoodW W):zAr Tryz.prog W 6 73 con73.own:=
 zA3 yJb (Laying.empty hW.size) hW.size (by decide) zAs (OwnsAll.con (yTs hW) (zAh W 6)) Tryz.func73 (fn:=Tryz.f73) (c:=zAd Tryz.f73) (by kernel_rfl) (by kernel_rfl) (fun _ _ h=>yAh h) (fun a=>⟨rfl,(by kernel_rfl)⟩) (fun b=>rfl) w73
theorem w67 (x:Int×Int)(y:Int×Int)(hx:pref_mask.f x.1 x.2=some y):zAx Tryz.prog (cwC L67) (zAd Tryz.f67) (zAn (yJe x) 8) (zAo [] 64) (zA7 Tryz.prog Tryz.f67 fun v' _=>v'=yJf y):=by
 obtain⟨a,b⟩:=x
 refine(yT7 a b _).mpr ?_
 unfold pref_mask.f at hx
 try simp only[zCc,zBb,zBs]
 repeat' first
  |(obtain⟨y,hy,hx⟩:=Option.bind_eq_some_iff.1 hx;refine⟨y,hy,?_⟩)
  |((first|refine bifW_c (fun hc=>?_) fun hc=>?_|refine bifW_n (fun hc=>?_) fun hc=>?_|refine bifW_b (fun hc=>?_) fun hc=>?_)<;>first|rw[if_pos hc] at hx|rw[if_neg hc] at hx|rw[if_pos (Decidable.not_not.1 hc)] at hx)
  |(split at hx<;>first|(cases hx;done)|(refine And.intro (by assumption) ?_))
  |(cases hx;rfl)
  |(cases hx;simp only[yJf,zA2,zA1,Bool.and_true])
theorem yNu {W:World}(hW:GoodW W):zAr Tryz.prog W 6 67 con67.own:=
 zA3 yJe (Laying.empty hW.size) hW.size (by decide) zAs (OwnsAll.con (yPn hW) (OwnsAll.con (ySu hW) (zAh W 6))) Tryz.func67 (fn:=Tryz.f67) (c:=zAd Tryz.f67) (by kernel_rfl) (by kernel_rfl) (fun _ _ h=>yAi h) (fun a=>⟨rfl,(by kernel_rfl)⟩) (fun b=>rfl) w67
theorem w68 (x:Int×Int×Int)(y:Bool)(hx:addr_Ok.f x.1 x.2.1 x.2.2=some y):zAx Tryz.prog (cwC L68) (zAd Tryz.f68) (zAn (yJh x) 8) (zAo [] 64) (zA7 Tryz.prog Tryz.f68 fun v' _=>v'=yJi y):=by
 obtain⟨a,b,c⟩:=x
 refine(yT8 a b c _).mpr ?_
 unfold addr_Ok.f at hx
 try simp only[zCc,zBb,zBs]
 repeat' first
  |(obtain⟨y,hy,hx⟩:=Option.bind_eq_some_iff.1 hx;refine⟨y,hy,?_⟩)
  |((first|refine bifW_c (fun hc=>?_) fun hc=>?_|refine bifW_n (fun hc=>?_) fun hc=>?_|refine bifW_b (fun hc=>?_) fun hc=>?_)<;>first|rw[if_pos hc] at hx|rw[if_neg hc] at hx|rw[if_pos (Decidable.not_not.1 hc)] at hx)
  |(split at hx<;>first|(cases hx;done)|(refine And.intro (by assumption) ?_))
  |(cases hx;rfl)
  |(cases hx;simp only[yJi,zA2,zA1,Bool.and_true])
theorem yQp {W:World}(hW:GoodW W):zAr Tryz.prog W 6 68 con68.own:=
 zA3 yJh (Laying.empty hW.size) hW.size (by decide) zAs (zAh W 6) Tryz.func68 (fn:=Tryz.f68) (c:=zAd Tryz.f68) (by kernel_rfl) (by kernel_rfl) (fun _ _ h=>yAj h) (fun a=>⟨rfl,(by kernel_rfl)⟩) (fun b=>rfl) w68
theorem w22 (x:Int×Int×Int×Int)(y:Bool)(hx:pref_Ok.f x.1 x.2.1 x.2.2.1 x.2.2.2=some y):zAx Tryz.prog (cwC L22) (zAd Tryz.f22) (zAn (yJk x) 8) (zAo [] 64) (zA7 Tryz.prog Tryz.f22 fun v' _=>v'=yJl y):=by
 obtain⟨a,b,c,d⟩:=x
 refine(yT9 a b c d _).mpr ?_
 unfold pref_Ok.f at hx
 try simp only[zCc,zBb,zBs]
 repeat' first
  |(obtain⟨y,hy,hx⟩:=Option.bind_eq_some_iff.1 hx;refine⟨y,hy,?_⟩)
  |((first|refine bifW_c (fun hc=>?_) fun hc=>?_|refine bifW_n (fun hc=>?_) fun hc=>?_|refine bifW_b (fun hc=>?_) fun hc=>?_)<;>first|rw[if_pos hc] at hx|rw[if_neg hc] at hx|rw[if_pos (Decidable.not_not.1 hc)] at hx)
  |(split at hx<;>first|(cases hx;done)|(refine And.intro (by assumption) ?_))
  |(cases hx;rfl)
  |(cases hx;simp only[yJl,zA2,zA1,Bool.and_true])
theorem yGl {W:World}(hW:GoodW W):zAr Tryz.prog W 6 22 con22.own:=
 zA3 yJk (Laying.empty hW.size) hW.size (by decide) zAs (OwnsAll.con (yQp hW) (OwnsAll.con (yPn hW) (OwnsAll.con (yNu hW) (OwnsAll.con (ySt hW) (OwnsAll.con (yNt hW) (zAh W 6)))))) Tryz.func22 (fn:=Tryz.f22) (c:=zAd Tryz.f22) (by kernel_rfl) (by kernel_rfl) (fun _ _ h=>yAk h) (fun a=>⟨rfl,(by kernel_rfl)⟩) (fun b=>rfl) w22
theorem w24 (x:Int×Int×Int×Int)(y:Int×Int×Int)(hx:pref_Last.f x.1 x.2.1 x.2.2.1 x.2.2.2=some y):zAx Tryz.prog (cwC L24) (zAd Tryz.f24) (zAn (yJn x) 8) (zAo [] 64) (zA7 Tryz.prog Tryz.f24 fun v' _=>v'=yJo y):=by
 obtain⟨a,b,c,d⟩:=x
 refine(yUa a b c d _).mpr ?_
 unfold pref_Last.f at hx
 try simp only[zCc,zBb,zBs]
 repeat' first
  |(obtain⟨y,hy,hx⟩:=Option.bind_eq_some_iff.1 hx;refine⟨y,hy,?_⟩)
  |((first|refine bifW_c (fun hc=>?_) fun hc=>?_|refine bifW_n (fun hc=>?_) fun hc=>?_|refine bifW_b (fun hc=>?_) fun hc=>?_)<;>first|rw[if_pos hc] at hx|rw[if_neg hc] at hx|rw[if_pos (Decidable.not_not.1 hc)] at hx)
  |(split at hx<;>first|(cases hx;done)|(refine And.intro (by assumption) ?_))
  |(cases hx;rfl)
  |(cases hx;simp only[yJo,zA2,zA1,Bool.and_true])
theorem yUh {W:World}(hW:GoodW W):zAr Tryz.prog W 6 24 con24.own:=
 zA3 yJn (Laying.empty hW.size) hW.size (by decide) zAs (OwnsAll.con (yGl hW) (OwnsAll.con (yPn hW) (OwnsAll.con (ySu hW) (OwnsAll.con (yNu hW) (OwnsAll.con (ySt hW) (OwnsAll.con (yNt hW) (OwnsAll.con (yUg hW) (zAh W 6)))))))) Tryz.func24 (fn:=Tryz.f24) (c:=zAd Tryz.f24) (by kernel_rfl) (by kernel_rfl) (fun _ _ h=>yAl h) (fun a=>⟨rfl,(by kernel_rfl)⟩) (fun b=>rfl) w24
theorem w96 (x:Int×Int×Int×Int)(y:Bool)(hx:quad_Less.f x.1 x.2.1 x.2.2.1 x.2.2.2=some y):zAx Tryz.prog (cwC L96) (zAd Tryz.f96) (zAn (yJq x) 8) (zAo [] 64) (zA7 Tryz.prog Tryz.f96 fun v' _=>v'=yJr y):=by
 obtain⟨a,b,c,d⟩:=x
 refine(yUb a b c d _).mpr ?_
 unfold quad_Less.f at hx
 try simp only[zCc,zBb,zBs]
 repeat' first
  |(obtain⟨y,hy,hx⟩:=Option.bind_eq_some_iff.1 hx;refine⟨y,hy,?_⟩)
  |((first|refine bifW_c (fun hc=>?_) fun hc=>?_|refine bifW_n (fun hc=>?_) fun hc=>?_|refine bifW_b (fun hc=>?_) fun hc=>?_)<;>first|rw[if_pos hc] at hx|rw[if_neg hc] at hx|rw[if_pos (Decidable.not_not.1 hc)] at hx)
  |(split at hx<;>first|(cases hx;done)|(refine And.intro (by assumption) ?_))
  |(cases hx;rfl)
  |(cases hx;simp only[yJr,zA2,zA1,Bool.and_true])
theorem yUi {W:World}(hW:GoodW W):zAr Tryz.prog W 6 96 con96.own:=
 zA3 yJq (Laying.empty hW.size) hW.size (by decide) zAs (zAh W 6) Tryz.func96 (fn:=Tryz.f96) (c:=zAd Tryz.f96) (by kernel_rfl) (by kernel_rfl) (fun _ _ h=>yAm h) (fun a=>⟨rfl,(by kernel_rfl)⟩) (fun b=>rfl) w96
theorem w75 (x:Int×Int×Int×Int×Int×Int)(y:Bool)(hx:addr_Less.f x.1 x.2.1 x.2.2.1 x.2.2.2.1 x.2.2.2.2.1 x.2.2.2.2.2=some y):zAx Tryz.prog (cwC L75) (zAd Tryz.f75) (zAn (yJt x) 8) (zAo [] 64) (zA7 Tryz.prog Tryz.f75 fun v' _=>v'=yJu y):=by
 obtain⟨a,b,c,d,e,f⟩:=x
 refine(yUc a b c d e f _).mpr ?_
 unfold addr_Less.f at hx
 try simp only[zCc,zBb,zBs]
 repeat' first
  |(obtain⟨y,hy,hx⟩:=Option.bind_eq_some_iff.1 hx;refine⟨y,hy,?_⟩)
  |((first|refine bifW_c (fun hc=>?_) fun hc=>?_|refine bifW_n (fun hc=>?_) fun hc=>?_|refine bifW_b (fun hc=>?_) fun hc=>?_)<;>first|rw[if_pos hc] at hx|rw[if_neg hc] at hx|rw[if_pos (Decidable.not_not.1 hc)] at hx)
  |(split at hx<;>first|(cases hx;done)|(refine And.intro (by assumption) ?_))
  |(cases hx;rfl)
  |(cases hx;simp only[yJu,zA2,zA1,Bool.and_true])
theorem yUj {W:World}(hW:GoodW W):zAr Tryz.prog W 6 75 con75.own:=
 zA3 yJt (Laying.empty hW.size) hW.size (by decide) zAs (OwnsAll.con (yUi hW) (zAh W 6)) Tryz.func75 (fn:=Tryz.f75) (c:=zAd Tryz.f75) (by kernel_rfl) (by kernel_rfl) (fun _ _ h=>yAn h) (fun a=>⟨rfl,(by kernel_rfl)⟩) (fun b=>rfl) w75
theorem w48 (x:Int×Int×Int×Int×Int×Int)(y:Bool)(hx:rang_Ok.f x.1 x.2.1 x.2.2.1 x.2.2.2.1 x.2.2.2.2.1 x.2.2.2.2.2=some y):zAx Tryz.prog (cwC L48) (zAd Tryz.f48) (zAn (yQn x) 8) (zAo [] 64) (zA7 Tryz.prog Tryz.f48 fun v' _=>v'=yNr y):=by
 obtain⟨a,b,c,d,e,f⟩:=x
 refine(yUd a b c d e f _).mpr ?_
 unfold rang_Ok.f at hx
 try simp only[zCc,zBb,zBs]
 repeat' first
  |(obtain⟨y,hy,hx⟩:=Option.bind_eq_some_iff.1 hx;refine⟨y,hy,?_⟩)
  |((first|refine bifW_c (fun hc=>?_) fun hc=>?_|refine bifW_n (fun hc=>?_) fun hc=>?_|refine bifW_b (fun hc=>?_) fun hc=>?_)<;>first|rw[if_pos hc] at hx|rw[if_neg hc] at hx|rw[if_pos (Decidable.not_not.1 hc)] at hx)
  |(split at hx<;>first|(cases hx;done)|(refine And.intro (by assumption) ?_))
  |(cases hx;rfl)
  |(cases hx;simp only[yNr,zA2,zA1,Bool.and_true])
end Go.Proofs.YtfnacgojmdbjmaaGreatDoor
namespace Go.Proofs.YtfnacgojmdbjmaaGreatDoor.PRD
open Go.Det Go.RowKit Go.Proofs.YtfnacgojmdbjmaaGreatDoor YtfnacgojmdbjmaaGreatDoorW.PrintWords
theorem gleberef1_Ok.calls (a0_0:Int)(a0_1:Int)(a0_2:Int)(r:Bool)(w:World)(hG:GoodW w)(h:gleberef1_Ok.f a0_0 a0_1 a0_2=some r):
  Calls Tryz.prog 44 #[.agg #[.int .i64 a0_0,.int .u64 a0_1,.int .u64 a0_2]] w fun e w'=>e=.returned (.bool r)∧Below w.heap.size w w':=
 zE3 (fn:=Tryz.f44) (c:=zAd Tryz.f44) (yPm hG) hG Tryz.func44 (by kernel_rfl) (by kernel_rfl) (args:=yEi (a0_0,a0_1,a0_2)) (v:=.bool r) (zPp (dec:=yEh) (enc:=yEj) (a:=(a0_0,a0_1,a0_2)) (b:=r) rfl h _) rfl rfl (by intro h;cases h)
end Go.Proofs.YtfnacgojmdbjmaaGreatDoor.PRD
section
end
namespace Go.Proofs
open Go.Shelf
def Tryz.lays156_ren:Go.Shelf.Ren:=⟨fun|156=>90|165=>105|166=>106|169=>107|240=>117|241=>118|276=>128|277=>129|n=>n,fun|31=>36|9=>9|3=>3|4=>4|0=>0|20=>20|72=>110|76=>114|70=>108|37=>22|75=>113|127=>121|164=>132|5=>5|80=>116|n=>n,fun|n=>n⟩
theorem Tryz.lays156:Go.Proofs.Lays.n156 Tryz.prog Tryz.lays156_ren:={
 mixed:=by kernel_rfl
 f156:=Tryz.func90.trans (congrArg some (by kernel_rfl))
 f165:=Tryz.func105.trans (congrArg some (by kernel_rfl))
 f166:=Tryz.func106.trans (congrArg some (by kernel_rfl))
 f169:=Tryz.func107.trans (congrArg some (by kernel_rfl))
 f240:=Tryz.func117.trans (congrArg some (by kernel_rfl))
 f241:=Tryz.func118.trans (congrArg some (by kernel_rfl))
 f276:=Tryz.func128.trans (congrArg some (by kernel_rfl))
 f277:=Tryz.func129.trans (congrArg some (by kernel_rfl))
 t0:=Tryz.underlying0
 a0:=Tryz.isAgg0
 z0:=Tryz.sizeOf0
 v0:=Tryz.zeroValue0
 t3:=Tryz.underlying3
 a3:=Tryz.isAgg3
 z3:=Tryz.sizeOf3
 v3:=Tryz.zeroValue3
 t4:=Tryz.underlying4
 a4:=Tryz.isAgg4
 z4:=Tryz.sizeOf4
 v4:=Tryz.zeroValue4
 t9:=Tryz.underlying9
 a9:=Tryz.isAgg9
 z9:=Tryz.sizeOf9
 v9:=Tryz.zeroValue9
 t20:=Tryz.underlying20
 a20:=Tryz.isAgg20
 z20:=Tryz.sizeOf20
 v20:=Tryz.zeroValue20
 t31:=Tryz.underlying36
 a31:=Tryz.isAgg36
 z31:=Tryz.sizeOf36
 v31:=Tryz.zeroValue36
 t37:=Tryz.underlying22
 a37:=Tryz.isAgg22
 z37:=Tryz.sizeOf22
 v37:=Tryz.zeroValue22
 t70:=Tryz.underlying108
 a70:=Tryz.isAgg108
 z70:=Tryz.sizeOf108
 v70:=Tryz.zeroValue108
 t72:=Tryz.underlying110
 a72:=Tryz.isAgg110
 z72:=Tryz.sizeOf110
 v72:=Tryz.zeroValue110
 t75:=Tryz.underlying113
 a75:=Tryz.isAgg113
 z75:=Tryz.sizeOf113
 v75:=Tryz.zeroValue113
 t76:=Tryz.underlying114
 a76:=Tryz.isAgg114
 z76:=Tryz.sizeOf114
 v76:=Tryz.zeroValue114
 t127:=Tryz.underlying121
 a127:=Tryz.isAgg121
 z127:=Tryz.sizeOf121
 v127:=Tryz.zeroValue121
 t164:=Tryz.underlying132
 a164:=Tryz.isAgg132
 z164:=Tryz.sizeOf132
 v164:=Tryz.zeroValue132 }
theorem Tryz.Builder_Extra_156:Builder.Extra Tryz.prog Tryz.lays156_ren:={
 sizeBuilder:=by kernel_rfl
 liesBuilder:=by kernel_rfl
 t5:=Tryz.underlying5
 a5:=Tryz.isAgg5
 z5:=Tryz.sizeOf5
 v5:=Tryz.zeroValue5
 infoByte:=by kernel_rfl
 cellsByte:=by kernel_rfl
 sizeByte:=by kernel_rfl
 neB5:=by decide }
open Go.RowKit in
theorem Tryz.strings_Join_none (a:Option Addr)(c:Nat)(sep:ByteArray)(w:World):
  Calls Tryz.prog 90 #[.slice a 0 c,.string sep] w fun e w'=>e=.returned (.string ⟨#[]⟩)∧w'=w:=Any.strings_Join_none Tryz.lays156 Tryz.Builder_Extra_156 a c sep w
open Go.RowKit in
theorem Tryz.strings_Join (bk o c:Nat)(xs:List ByteArray)(sep:ByteArray)(w:World)(hcells:∀ (j:Nat) x,xs[j]?=some x→w.cell? ⟨bk,o+j,none⟩=some (.string x))(hbk:bk < w.heap.size)(hN:xs.length≤140737488355328)(hcap:xs.length≤c)(hlen:(Lib.join (xs.map (·.data.toList)) sep.data.toList).length≤140737488355328):
  Calls Tryz.prog 90 #[.slice (some ⟨bk,o,none⟩) xs.length c,.string sep] w fun e w'=>e=.returned (.string ⟨(Lib.join (xs.map (·.data.toList)) sep.data.toList).toArray⟩)∧Below w.heap.size w w':=Any.strings_Join Tryz.lays156 Tryz.Builder_Extra_156 bk o c xs sep w hcells hbk hN hcap hlen
def Tryz.lays137_ren:Go.Shelf.Ren:=⟨fun|137=>125|217=>111|266=>123|n=>n,fun|9=>9|5=>5|3=>3|n=>n,fun|n=>n⟩
theorem Tryz.lays137:Go.Proofs.Lays.n137 Tryz.prog Tryz.lays137_ren:={
 mixed:=by kernel_rfl
 f137:=Tryz.func125.trans (congrArg some (by kernel_rfl))
 f217:=Tryz.func111.trans (congrArg some (by kernel_rfl))
 f266:=Tryz.func123.trans (congrArg some (by kernel_rfl))
 t3:=Tryz.underlying3
 a3:=Tryz.isAgg3
 z3:=Tryz.sizeOf3
 v3:=Tryz.zeroValue3
 t5:=Tryz.underlying5
 a5:=Tryz.isAgg5
 z5:=Tryz.sizeOf5
 v5:=Tryz.zeroValue5
 t9:=Tryz.underlying9
 a9:=Tryz.isAgg9
 z9:=Tryz.sizeOf9
 v9:=Tryz.zeroValue9 }
open Go.RowKit in
theorem Tryz.strings_IndexByte (s:ByteArray)(c:Int)(w:World):
  Calls Tryz.prog 125 #[.string s,.int .u8 c] w fun e w'=>e=.returned (.int .i64 (Lib.indexByte s.data.toList c.toNat.toUInt8))∧w'=w:=Any.strings_IndexByte Tryz.lays137 s c w
def Tryz.lays144_ren:Go.Shelf.Ren:=⟨fun|144=>84|143=>101|219=>100|217=>111|225=>112|224=>113|267=>114|266=>123|314=>124|n=>n,fun|9=>9|4=>4|3=>3|5=>5|46=>39|146=>129|51=>128|n=>n,fun|1=>0|n=>n⟩
theorem Tryz.lays144:Go.Proofs.Lays.n144 Tryz.prog Tryz.lays144_ren:={
 mixed:=by kernel_rfl
 f143:=Tryz.func101.trans (congrArg some (by kernel_rfl))
 f144:=Tryz.func84.trans (congrArg some (by kernel_rfl))
 f217:=Tryz.func111.trans (congrArg some (by kernel_rfl))
 f219:=Tryz.func100.trans (congrArg some (by kernel_rfl))
 f224:=Tryz.func113.trans (congrArg some (by kernel_rfl))
 f225:=Tryz.func112.trans (congrArg some (by kernel_rfl))
 f266:=Tryz.func123.trans (congrArg some (by kernel_rfl))
 f267:=Tryz.func114.trans (congrArg some (by kernel_rfl))
 f314:=Tryz.func124.trans (congrArg some (by kernel_rfl))
 t3:=Tryz.underlying3
 a3:=Tryz.isAgg3
 z3:=Tryz.sizeOf3
 v3:=Tryz.zeroValue3
 t4:=Tryz.underlying4
 a4:=Tryz.isAgg4
 z4:=Tryz.sizeOf4
 v4:=Tryz.zeroValue4
 t5:=Tryz.underlying5
 a5:=Tryz.isAgg5
 z5:=Tryz.sizeOf5
 v5:=Tryz.zeroValue5
 t9:=Tryz.underlying9
 a9:=Tryz.isAgg9
 z9:=Tryz.sizeOf9
 v9:=Tryz.zeroValue9
 t46:=Tryz.underlying39
 a46:=Tryz.isAgg39
 z46:=Tryz.sizeOf39
 v46:=Tryz.zeroValue39
 t51:=Tryz.underlying128
 a51:=Tryz.isAgg128
 z51:=Tryz.sizeOf128
 v51:=Tryz.zeroValue128
 t146:=Tryz.underlying129
 a146:=Tryz.isAgg129
 z146:=Tryz.sizeOf129
 v146:=Tryz.zeroValue129
 g1:=by kernel_rfl }
open Go.RowKit Go.Lib in
open Go.RowKit Go.Lib in
theorem Tryz.strings_Contains (s sub:ByteArray)(m:Int)(w:World)(hs:s.size < 4294967281)(hm:w.cell? ⟨0,0,none⟩=some (.int .i64 m)):
  Calls Tryz.prog 84 #[.string s,.string sub] w fun e w'=>e=.returned (.bool (Lib.contains s.data.toList sub.data.toList))∧w'=w:=Any.strings_Contains Tryz.lays144 s sub m w hs hm
def Tryz.lays145_ren:Go.Shelf.Ren:=⟨fun|145=>59|220=>83|219=>100|217=>111|225=>112|224=>113|267=>114|266=>123|314=>124|n=>n,fun|9=>9|4=>4|59=>79|3=>3|5=>5|46=>39|146=>129|51=>128|n=>n,fun|1=>0|n=>n⟩
theorem Tryz.lays145:Go.Proofs.Lays.n145 Tryz.prog Tryz.lays145_ren:={
 mixed:=by kernel_rfl
 f145:=Tryz.func59.trans (congrArg some (by kernel_rfl))
 f217:=Tryz.func111.trans (congrArg some (by kernel_rfl))
 f219:=Tryz.func100.trans (congrArg some (by kernel_rfl))
 f220:=Tryz.func83.trans (congrArg some (by kernel_rfl))
 f224:=Tryz.func113.trans (congrArg some (by kernel_rfl))
 f225:=Tryz.func112.trans (congrArg some (by kernel_rfl))
 f266:=Tryz.func123.trans (congrArg some (by kernel_rfl))
 f267:=Tryz.func114.trans (congrArg some (by kernel_rfl))
 f314:=Tryz.func124.trans (congrArg some (by kernel_rfl))
 t3:=Tryz.underlying3
 a3:=Tryz.isAgg3
 z3:=Tryz.sizeOf3
 v3:=Tryz.zeroValue3
 t4:=Tryz.underlying4
 a4:=Tryz.isAgg4
 z4:=Tryz.sizeOf4
 v4:=Tryz.zeroValue4
 t5:=Tryz.underlying5
 a5:=Tryz.isAgg5
 z5:=Tryz.sizeOf5
 v5:=Tryz.zeroValue5
 t9:=Tryz.underlying9
 a9:=Tryz.isAgg9
 z9:=Tryz.sizeOf9
 v9:=Tryz.zeroValue9
 t46:=Tryz.underlying39
 a46:=Tryz.isAgg39
 z46:=Tryz.sizeOf39
 v46:=Tryz.zeroValue39
 t51:=Tryz.underlying128
 a51:=Tryz.isAgg128
 z51:=Tryz.sizeOf128
 v51:=Tryz.zeroValue128
 t59:=Tryz.underlying79
 a59:=Tryz.isAgg79
 z59:=Tryz.sizeOf79
 v59:=Tryz.zeroValue79
 t146:=Tryz.underlying129
 a146:=Tryz.isAgg129
 z146:=Tryz.sizeOf129
 v146:=Tryz.zeroValue129
 g1:=by kernel_rfl }
open Go.RowKit Go.Lib in
theorem Tryz.strings_Cut (s sep:ByteArray)(m:Int)(w:World)(hs:s.size < 4294967281)(hm:w.cell? ⟨0,0,none⟩=some (.int .i64 m)):
  Calls Tryz.prog 59 #[.string s,.string sep] w fun e w'=>e=.returned (.tuple #[.string ⟨(Lib.cut s.data.toList sep.data.toList).1.toArray⟩,.string ⟨(Lib.cut s.data.toList sep.data.toList).2.1.toArray⟩,.bool (Lib.cut s.data.toList sep.data.toList).2.2])∧∃ n,w'=w.drewN n:=Any.strings_Cut Tryz.lays145 s sep m w hs hm
def Tryz.lays146_ren:Go.Shelf.Ren:=⟨fun|146=>103|221=>116|268=>126|138=>127|143=>101|195=>135|197=>136|218=>137|219=>100|260=>139|217=>111|225=>112|224=>113|267=>114|266=>123|314=>124|n=>n,fun|9=>9|31=>36|3=>3|4=>4|0=>0|105=>139|21=>21|5=>5|46=>39|119=>143|139=>146|138=>145|146=>129|51=>128|n=>n,fun|1=>0|3=>4|4=>5|n=>n⟩
theorem Tryz.lays146:Go.Proofs.Lays.n146 Tryz.prog Tryz.lays146_ren:={
 mixed:=by kernel_rfl
 f138:=Tryz.func127.trans (congrArg some (by kernel_rfl))
 f143:=Tryz.func101.trans (congrArg some (by kernel_rfl))
 f146:=Tryz.func103.trans (congrArg some (by kernel_rfl))
 f195:=Tryz.func135.trans (congrArg some (by kernel_rfl))
 f197:=Tryz.func136.trans (congrArg some (by kernel_rfl))
 f217:=Tryz.func111.trans (congrArg some (by kernel_rfl))
 f218:=Tryz.func137.trans (congrArg some (by kernel_rfl))
 f219:=Tryz.func100.trans (congrArg some (by kernel_rfl))
 f221:=Tryz.func116.trans (congrArg some (by kernel_rfl))
 f224:=Tryz.func113.trans (congrArg some (by kernel_rfl))
 f225:=Tryz.func112.trans (congrArg some (by kernel_rfl))
 f260:=Tryz.func139.trans (congrArg some (by kernel_rfl))
 f266:=Tryz.func123.trans (congrArg some (by kernel_rfl))
 f267:=Tryz.func114.trans (congrArg some (by kernel_rfl))
 f268:=Tryz.func126.trans (congrArg some (by kernel_rfl))
 f314:=Tryz.func124.trans (congrArg some (by kernel_rfl))
 t0:=Tryz.underlying0
 a0:=Tryz.isAgg0
 z0:=Tryz.sizeOf0
 v0:=Tryz.zeroValue0
 t3:=Tryz.underlying3
 a3:=Tryz.isAgg3
 z3:=Tryz.sizeOf3
 v3:=Tryz.zeroValue3
 t4:=Tryz.underlying4
 a4:=Tryz.isAgg4
 z4:=Tryz.sizeOf4
 v4:=Tryz.zeroValue4
 t5:=Tryz.underlying5
 a5:=Tryz.isAgg5
 z5:=Tryz.sizeOf5
 v5:=Tryz.zeroValue5
 t9:=Tryz.underlying9
 a9:=Tryz.isAgg9
 z9:=Tryz.sizeOf9
 v9:=Tryz.zeroValue9
 t21:=Tryz.underlying21
 a21:=Tryz.isAgg21
 z21:=Tryz.sizeOf21
 v21:=Tryz.zeroValue21
 t31:=Tryz.underlying36
 a31:=Tryz.isAgg36
 z31:=Tryz.sizeOf36
 v31:=Tryz.zeroValue36
 t46:=Tryz.underlying39
 a46:=Tryz.isAgg39
 z46:=Tryz.sizeOf39
 v46:=Tryz.zeroValue39
 t51:=Tryz.underlying128
 a51:=Tryz.isAgg128
 z51:=Tryz.sizeOf128
 v51:=Tryz.zeroValue128
 t105:=Tryz.underlying139
 a105:=Tryz.isAgg139
 z105:=Tryz.sizeOf139
 v105:=Tryz.zeroValue139
 t119:=Tryz.underlying143
 a119:=Tryz.isAgg143
 z119:=Tryz.sizeOf143
 t138:=Tryz.underlying145
 a138:=Tryz.isAgg145
 z138:=Tryz.sizeOf145
 v138:=Tryz.zeroValue145
 t139:=Tryz.underlying146
 a139:=Tryz.isAgg146
 z139:=Tryz.sizeOf146
 v139:=Tryz.zeroValue146
 t146:=Tryz.underlying129
 a146:=Tryz.isAgg129
 z146:=Tryz.sizeOf129
 v146:=Tryz.zeroValue129
 g1:=by kernel_rfl
 g3:=by kernel_rfl
 g4:=by kernel_rfl }
open Go.RowKit Go.Lib in
theorem Tryz.strings_Split (s sep:ByteArray)(m:Int)(w:World)(hs:s.size < 4294967281)(hm:w.cell? ⟨0,0,none⟩=some (.int .i64 m))(h1:1≤sep.size):
  Calls Tryz.prog 103 #[.string s,.string sep] w fun e w'=>
   e=.returned (.slice (some ⟨w.heap.size,0,none⟩) (Lib.countB s sep+1) (Lib.countB s sep+1))∧w'=w.alloc (.cells ((Lib.splitB sep 0 (Lib.countB s sep) s).map Value.string).toArray 9):=Any.strings_Split Tryz.lays146 (by kernel_rfl) s sep m w hs hm h1
end Go.Proofs
section
section
namespace Go.Proofs.YtfnacgojmdbjmaaGreatDoorW.PrintWords
open Go.RowKit
def bt (s:ByteArray)(i:Int):Int:=if h:i.toNat < s.size then((s[i.toNat]'h).toNat:Int) else 0
theorem zD2 (s:ByteArray)(i:Int):∀ h:i.toNat < s.size,((s[i.toNat]'h).toNat:Int)=bt s i:=fun h=>by simp[bt,h]
def yM2 (k:IntKind)(xs:List Int):List Value:=xs.map fun x=>.int k x
theorem own_reads {w:World}{base n:Nat}{e:TypeId}{k:IntKind}{v:Value}{xs:List Int}(h:w.ownsRow base e 1 v n (yM2 k xs)):∃ A c,v=.slice A n c∧ReadsInt w k A n xs:=by
 have hl:xs.length=n:=by have:=h.1;simp[yM2] at this;exact this
 rcases Nat.eq_zero_or_pos n with h0|h0
 ·rcases h.2 with⟨rfl,rfl⟩|⟨g,cap,cur,rfl,_⟩
  ·exact⟨none,0,rfl,hl,by omega,fun hp=>absurd hp (by omega)⟩
  ·exact⟨_,cap,rfl,hl,by omega,fun hp=>absurd hp (by omega)⟩
 ·obtain⟨g,cap,rfl,_,_⟩:=h.form h0
  have hm:n≤9223372036854775807:=by
   rcases h.2 with⟨_,h1⟩|⟨g',cap',cur,he,_,_,h1,h2,_⟩
   ·omega
   ·simp only[maxLen] at h2
    omega
  refine⟨_,cap,rfl,hl,hm,fun _=>⟨_,rfl,fun j hj=>h.cells (g:=g) rfl j _ ?_⟩⟩
  simp[yM2,List.getElem?_eq_getElem (show j < xs.length by omega),List.getD_eq_getElem?_getD]
theorem zHp {P:Program}{w:World}{base n:Nat}{e' src dst e:TypeId}{v:Value}{xs:List Int}(hs:P.underlying src=some (.slice e))(he:P.underlying e=some (.int .u8))(hd:P.underlying dst=some .string)
  (h:w.ownsRow base e' 1 v n (yM2 .u8 xs)):(convert src dst v).run P w=.ok (.string (strOfNums xs)) w:=by
 have hl:xs.length=n:=by have:=h.1;simp[yM2] at this;exact this
 rcases h.2 with⟨rfl,rfl⟩|⟨g,cap,cur,rfl,_⟩
 ·obtain rfl:xs=[]:=List.eq_nil_of_length_eq_zero hl
  exact run_convert_bytes_nil w src e hs he 0 0 dst hd
 ·refine run_convert_bytes_arg w src e hs he g 0 n cap xs hl (fun i hi=>?_) dst hd
  have hc:=h.cells (g:=g) rfl i (.int .u8 (xs.getD i 0)) (by simp[yM2,List.getElem?_eq_getElem (show i < xs.length by omega),List.getD_eq_getElem?_getD])
  have ha:(⟨g,0,none⟩:Addr).add i=⟨g,0+i,none⟩:=by unfold Addr.add;split<;>simp_all
  rwa [ha] at hc
section
variable {P:Program} {ops:Array Oper} {rest:List Oper} {o:Oper} {a:Act} {Q:Exit→Act→World→Prop}
end
section
variable {P:Program}
end
section
variable {P:Program} {ops:Array Oper} {rest:List Oper} {o:Oper} {a:Act} {Q:Exit→Act→World→Prop}
end
section
variable {P:Program} {ops:Array Oper} {rest:List Oper} {o:Oper} {a:Act} {Q:Exit→Act→World→Prop}
end
section
variable {P:Program} {ops:Array Oper} {o:Oper} {a:Act} {Q:Exit→Act→World→Prop} {K:Act→World→Prop}
end
section
variable {α:Type} {enc:α→Value} {d:α}
def yEk (enc:α→Value)(xs:List α):List Value:=xs.map enc
theorem zMh (xs:List α):(yEk enc xs).length=xs.length:=by simp[yEk]
end
section
variable {α:Type} {P:Program} {ops:Array Oper} {rest:List Oper} {o:Oper} {a:Act} {Q:Exit→Act→World→Prop}
end
section
variable {P:Program}
end
section
variable {α:Type} {R R':α→List Value→Prop} {e:TypeId} {size:Nat} {w w1:World} {base:Nat} {v:Value} {ps:List α}
end
section
variable {P:Program} {ops:Array Oper} {rest:List Oper} {o:Oper} {a:Act} {Q:Exit→Act→World→Prop} {α:Type} {R:α→List Value→Prop}
end
section
variable {P:Program} {ops:Array Oper} {o:Oper} {a:Act} {Q:Exit→Act→World→Prop} {K:Act→World→Prop} {α:Type} {R:α→List Value→Prop}
end
theorem ReadsRow.inner_ {α:Type}{R:α→List Value→Prop}{size:Nat}{w:World}{ad:Addr}{n:Nat}{ps:List α}(h:ReadsRow R size w (some ad) n ps):
  ∃ inner,Reps R size ps inner∧∀ j u,inner[j]?=some u→w.cell? (ad.add j)=some u:=by
 have key:∀ m,m≤ps.length→∃ inner,Reps R size (ps.take m) inner∧∀ j u,inner[j]?=some u→w.cell? (ad.add j)=some u:=by
  intro m
  induction m with
  |zero=>exact fun _=>⟨[],Reps.none _ _,fun j u hu=>by simp at hu⟩
  |succ m ih=>
   intro hm
   obtain⟨inner,hr,hc⟩:=ih (by omega)
   obtain⟨ad',he,hcell⟩:=h.2.2 (by have:=h.1;omega)
   injection he with he
   subst he
   obtain⟨c,hcl,hp,hcc⟩:=hcell m _ (List.getElem?_eq_getElem (show m < ps.length by omega))
   refine⟨inner++c,?_,fun j u hu=>?_⟩
   ·rw[List.take_succ_eq_append_getElem (show m < ps.length by omega)]
    exact hr.snoc hp hcl
   ·have hil:inner.length=m * size:=by rw[hr.1,List.length_take,Nat.min_eq_left (by omega)]
    rcases Nat.lt_or_ge j inner.length with hj|hj
    ·rw[List.getElem?_append_left hj] at hu
     exact hc j u hu
    ·rw[List.getElem?_append_right hj] at hu
     have:=hcc (j - inner.length) u hu
     rwa [hil,Nat.add_sub_cancel' (by omega)] at this
 obtain⟨inner,hr,hc⟩:=key ps.length (Nat.le_refl _)
 rw[List.take_length] at hr
 exact⟨inner,hr,hc⟩
section
variable {α:Type} {P:Program}
end
section
variable {P:Program} {ops:Array Oper} {rest:List Oper} {o:Oper} {a:Act} {Q:Exit→Act→World→Prop}
end
namespace Kd
section
variable {α:Type} {d:Kd α} {e:Nat} {w w1:World} {base:Nat} {ok ok':Nat→Prop} {v:Value} {xs:List α}
theorem yJv {x:α}{cs:List Value}(h:d.M w base ok x cs)(hb:Below w.heap.size w w1):d.M w1 base ok x cs:=yGi h (fun k _ hk=>hb.block k hk)
end
section
variable {P:Program} {ops:Array Oper} {rest:List Oper} {o:Oper} {a:Act} {Q:Exit→Act→World→Prop} {α:Type}
end
section
variable {P:Program} {ops:Array Oper} {o:Oper} {a:Act} {Q:Exit→Act→World→Prop} {Kc:Act→World→Prop} {α:Type}
end
theorem reps_scalar {α:Type}{enc:α→Value}(xs:List α):Reps (fun(x:α) (cs:List Value)=>cs=[enc x]) 1 xs (yEk enc xs):=by
 refine⟨by simp[yEk],fun j p hj=>?_⟩
 obtain⟨hl,hp⟩:=List.getElem?_eq_some_iff.1 hj
 have hl':j < (yEk enc xs).length:=by rw[zMh];exact hl
 rw[Nat.mul_one,List.drop_eq_getElem_cons hl']
 simp[yEk,hp]
theorem own_of_R {α:Type}{enc:α→Value}{h1:∀ x,(enc x).oneCell'=true}{e:Nat}{w:World}{base:Nat}{ok:Nat→Prop}{v:Value}{xs:List α}(h:(scalar enc h1).R e w base ok v xs):w.ownsRow base e 1 v xs.length (yEk enc xs):=by
 obtain⟨_,inner,ho,hr⟩:=h
 have:inner=yEk enc xs:=by
  apply List.ext_getElem?
  intro j
  rcases Nat.lt_or_ge j xs.length with hj|hj
  ·have h2:=hr.2 j _ (List.getElem?_eq_getElem hj)
   have hl:j < inner.length:=by have:=hr.1;simp[scalar] at this;omega
   have h3:(inner.drop (j * 1)).take 1=[enc xs[j]]:=h2
   rw[Nat.mul_one,List.drop_eq_getElem_cons hl] at h3
   have h4:inner[j]=enc xs[j]:=by
    have h5:=congrArg List.head? h3
    rw[List.take_succ_cons] at h5
    exact Option.some.inj h5
   rw[List.getElem?_eq_getElem hl,h4]
   simp[yEk,List.getElem?_eq_getElem hj]
  ·have h3:inner.length=xs.length:=by have:=hr.1;simp[scalar] at this;omega
   rw[List.getElem?_eq_none (by omega),List.getElem?_eq_none (by rw[zMh];omega)]
 rw[← this]
 exact ho
theorem zOc {α:Type}{enc:α→Value}{d:α}{h1:∀ x,(enc x).oneCell'=true}{w:World}{A:Option Addr}{n:Nat}{xs:List α}(h:(scalar enc h1).C w A n xs):ReadsOf enc d w A n xs:=by
 refine⟨h.1,h.2.1,fun hn=>?_⟩
 obtain⟨ad,e,hc⟩:=h.2.2 hn
 refine⟨ad,e,fun j hj=>?_⟩
 have hl:j < xs.length:=by have:=h.1;omega
 obtain⟨c,_,hK,hcell⟩:=hc j _ (List.getElem?_eq_getElem hl)
 have hK':c=[enc xs[j]]:=hK
 subst hK'
 have:=hcell 0 _ rfl
 simpa [scalar,List.getD_eq_getElem?_getD,List.getElem?_eq_getElem hl] using this
end Kd
namespace Kd
section
variable {α:Type} {F:Kd α→Kd α} {sz:Nat} {E:List Nat} {hs:∀ n,(yEe F sz E n).sz=sz} {hE:∀ n q,q∈(yEe F sz E n).E→q∈E}
end
end Kd
namespace Kd
theorem R_after {α:Type}{d:Kd α}{e base:Nat}{ok:Nat→Prop}{W w1:World}{u v v1:Value}{xs:List α}(h:d.R e W base (fun k=>ok k∧some k≠v.ownBlock) u xs)(hg:W.grownBy w1 v.ownBlock)(hat:v1.ownBlock=v.ownBlock∨∃ b,v1.ownBlock=some b∧W.heap.size≤b):d.R e w1 base (fun k=>ok k∧some k≠v1.ownBlock) u xs:=by
 refine R_mono (zR4 (zJp h) (fun k hk=>hg.block k hk.2.2.1 hk.1.2)) (fun k hk=>⟨hk.1.1,?_⟩)
 rcases hat with hat|⟨b,hb,hle⟩
 ·rw[hat];exact hk.1.2
 ·rw[hb]
  intro he
  injection he with he
  have:=hk.2.2.1
  omega
section
variable {α β:Type} {d:Kd α} {d':Kd β} {e e':Nat} {w w1 W:World} {base b b':Nat} {ok ok' okv oku:Nat→Prop} {v u:Value} {xs:List α} {ys:List β}
theorem C_alloc {A:Option Addr}{n:Nat}(h:d.C w A n xs)(o:Obj):d.C (w.alloc o) A n xs:=zPv h (zAb (Below.refl _ _) o)
theorem C_drew {A:Option Addr}{n:Nat}(h:d.C w A n xs):d.C w.drew A n xs:=zPv h (zN9 (Below.refl _ _))
theorem C_drewN {A:Option Addr}{n:Nat}(h:d.C w A n xs)(m:Nat):d.C (w.drewN m) A n xs:=zPv h (zAa (Below.refl _ _) m)
end
section
variable {w W:World} {A:Option Addr} {n:Nat}
theorem at_int {k:IntKind}{xs:List Int}(h:(Kd.int k).C w A n xs)(i:Int)(h0:0≤i)(h1:i < n):∃ ad,A=some ad∧w.cell? (ad.add i.toNat)=some (.int k (rd xs i)):=
 ReadsOf.at_ (zOc (enc:=Value.int k) (d:=(0:Int)) (h1:=fun _=>rfl) h) i h0 h1
theorem at_string {xs:List ByteArray}(h:Kd.string.C w A n xs)(i:Int)(h0:0≤i)(h1:i < n):∃ ad,A=some ad∧w.cell? (ad.add i.toNat)=some (.string (zB5 ByteArray.empty xs i)):=
 ReadsOf.at_ (zOc (enc:=Value.string) (d:=ByteArray.empty) (h1:=fun _=>rfl) h) i h0 h1
variable {α:Type} {enc:α→Value} {h1:∀ x,(enc x).oneCell'=true} {e base g cap:Nat} {ok:Nat→Prop} {xs:List α}
end
section
variable {P:Program} {ops:Array Oper} {rest:List Oper} {o:Oper} {a:Act} {Q:Exit→Act→World→Prop}
variable {α:Type}
theorem R_lit (d:Kd α){w0 W:World}(base e:Nat)(hgd:o.guard=none){N:Tmp}(_hd:o.dst=some N){xs:List α}{inner:List Value}{ok okp:Nat→Prop}
  (hrun:(execOp a.eval o).run P W=.ok (.value (.slice (some ⟨W.heap.size,0,none⟩) xs.length xs.length)) (W.alloc (.cells inner.toArray e)))
  (hrep:Reps (d.M W base okp) d.sz xs inner) (hok:∀ k,okp k→ok k) (hfresh:ok W.heap.size) (HB:Below base w0 W) (hbase:base≤W.heap.size) (hm:xs.length≤9223372036854775807)
  (h:∀ v1 w1,d.R e w1 base ok v1 xs→Below base w0 w1→W.grownBy w1 none→(∃ b,v1.ownBlock=some b∧W.heap.size≤b)→wpList P ops Q rest (a.put o.dst v1) w1):wpList P ops Q (o::rest) a W:=by
 refine event_run hgd hrun (h _ _ ⟨fun k hk=>?_,inner,?_,?_⟩ (HB.alloc hbase _) (World.grownBy_alloc W _ none) ⟨W.heap.size,by simp[Value.ownBlock],Nat.le_refl _⟩)
 ·have:W.heap.size=k:=by simpa [Value.ownBlock] using hk
  subst this
  exact hfresh
 ·have h2:=World.ownsRow_lit (base:=base) (e:=e) (size:=d.sz) W inner.toArray xs.length hbase (by simpa [maxLen] using hm) (by simpa using hrep.1)
  simpa using h2
 ·refine hrep.imp_ (fun p c hp=>d.M_mono (fun k hk=>⟨hok k hk.1,fun he=>?_⟩) (yJv (d.M_bound hp) (zAb (Below.refl _ _) _)))
  have h3:k=W.heap.size:=by simpa [Value.ownBlock] using he
  have:=hk.2.2.1
  omega
end
end Kd
section
variable {P:Program}
end
section
variable {w w1:World} {base n size:Nat} {e:TypeId} {v:Value} {xs:List Value}
end
section
variable {P:Program}
end
namespace Kd
section
variable {α:Type} {d:Kd α} {e:Nat} {w w1 W:World} {base:Nat} {ok ok':Nat→Prop} {v:Value} {xs:List α}
end
section
variable {P:Program} {ops:Array Oper} {rest:List Oper} {o:Oper} {a:Act} {Q':Exit→Act→World→Prop} {Kc:Act→World→Prop} {α:Type}
end
end Kd
namespace Kd
section
variable {α:Type} {d:Kd α} {e e':Nat} {w w1 W:World} {base:Nat} {ok:Nat→Prop} {u v:Value} {xs:List α}
theorem R_typed (h:d.R e w base ok v xs):∀ k,v.ownBlock=some k→∃ cells,w.heap[k]?=some (.cells cells e (0,0)):=by
 obtain⟨inner,ho⟩:=yH3 h
 exact fun k hk=>zR3 ho k hk
theorem R_over' (h:d.R e W base ok u xs)(hty:∀ k,v.ownBlock=some k→∃ cells,W.heap[k]?=some (.cells cells e' (0,0)))(ht:∀ q,q∈e::d.E→q≠e')(hg:W.grownBy w1 v.ownBlock):d.R e w1 base ok u xs:=by
 refine R_mono (zR4 (zJp h) (fun k hk=>hg.block k hk.2.2.1 (fun he=>?_))) (fun _ hk=>hk.1)
 obtain⟨_,_,_,q,hq,cells,hc⟩:=hk
 obtain⟨cells',hc'⟩:=hty k he.symm
 rw[hc] at hc'
 injection hc' with hc'
 injection hc' with _ hc'
 exact ht q hq hc'
theorem fresh' (hlt:∀ k,u.ownBlock=some k→k < W.heap.size):∀ k,W.heap.size≤k→some k≠u.ownBlock:=fun k hk he=>by have:=hlt k he.symm;omega
end
end Kd
namespace Kd
section
variable {α:Type} {d:Kd α} {e base g n cap:Nat} {ok okp:Nat→Prop} {W:World} {xs:List α}
end
end Kd
namespace Kd
section
variable {α:Type} {F:Kd α→Kd α} {sz:Nat} {E:List Nat} {hs:∀ n,(yEe F sz E n).sz=sz} {hE:∀ n q,q∈(yEe F sz E n).E→q∈E}
end
end Kd
namespace Kd
theorem zTy {α:Type}{R:α→List Value→Prop}{size:Nat}{ps qs:List α}{cs ds:List Value}(h:Reps R size ps cs)(h':Reps R size qs ds):Reps R size (ps++qs) (cs++ds):=by
 refine⟨by rw[List.length_append,List.length_append,h.1,h'.1,Nat.add_mul],fun j p hj=>?_⟩
 rcases Nat.lt_or_ge j ps.length with hlt|hge
 ·rw[List.getElem?_append_left hlt] at hj
  have hle:j * size+size≤cs.length:=by rw[h.1,← Nat.succ_mul];exact Nat.mul_le_mul_right _ hlt
  rw[List.drop_append_of_le_length (by omega),List.take_append_of_le_length (by rw[List.length_drop];omega)]
  exact h.2 j p hj
 ·rw[List.getElem?_append_right hge] at hj
  have h2:=h'.2 (j - ps.length) p hj
  have hle:ps.length * size≤j * size:=Nat.mul_le_mul_right _ hge
  rw[List.drop_append,List.drop_eq_nil_of_le (by rw[h.1];exact hle),List.nil_append,h.1,← Nat.sub_mul]
  exact h2
section
variable {P:Program} {ops:Array Oper} {rest:List Oper} {o:Oper} {a:Act} {Q:Exit→Act→World→Prop} {α:Type}
theorem R_append_rows (d:Kd α){Rr:α→List Value→Prop}{w0 W:World}(base:Nat)(hgd:o.guard=none)(s x:Operand)(t e:TypeId)(z:Value)(bytes:Nat)
  (ho:o.op=.call { callee:=.builtin .append,args:=#[s,x],argTypes:=#[t,t] })
  (ht:P.underlying t=some (.slice e)) (hinfo:(P.info? e).map (fun i=>(i.zero,i.size,i.bytes))=some (some z,d.sz,bytes)) (hz:z.cells.size=d.sz) (hs0:0 < d.sz) (hb0:0 < bytes)
  (v:Value) (xs ys:List α) (A:Option Addr) (m c:Nat) (ok okp:Nat→Prop) (hs:a.eval s=v) (hx:a.eval x=.slice A m c)
  (HO:d.R e W base ok v xs) (HR:ReadsRow Rr d.sz W A m ys) (hKM:∀ x cs,Rr x cs→d.M W base okp x cs) (hokp:∀ k,okp k→ok k∧some k≠v.ownBlock) (hfresh:∀ k,W.heap.size≤k→ok k)
  (HB:Below base w0 W) (hbase:base≤W.heap.size) (hl:(xs.length+m) * bytes≤140737488355328)
  (h:∀ v1 w1,d.R e w1 base ok v1 (xs++ys)→Below base w0 w1→W.grownBy w1 v.ownBlock→(v1.ownBlock=v.ownBlock∨∃ b,v1.ownBlock=some b∧W.heap.size≤b)→wpList P ops Q rest (a.put o.dst v1) w1):
  wpList P ops Q (o::rest) a W:=by
 obtain⟨i0,hi,hzz⟩:=Option.map_eq_some_iff.1 hinfo
 simp only[Prod.mk.injEq] at hzz
 obtain⟨hz0,hz1,hz2⟩:=hzz
 have hm:ys.length=m:=HR.1
 have hlen:xs.length+m≤140737488355328:=Nat.le_trans (Nat.le_mul_of_pos_right _ hb0) hl
 obtain⟨hok,inner,hown,hr⟩:=HO
 have hrun:∃ v1 w1,(Builtin.append_ #[t,t] o.type #[v,.slice A m c]).run P W=.ok v1 w1∧d.R e w1 base ok v1 (xs++ys)∧W.grownBy w1 v.ownBlock∧(v1.ownBlock=v.ownBlock∨∃ b,v1.ownBlock=some b∧W.heap.size≤b):=by
  rcases A with _|ad
  ·have h0:m=0:=by
    rcases Nat.eq_zero_or_pos m with h0|h0
    ·exact h0
    ·obtain⟨ad,h,_⟩:=HR.2.2 h0
     cases h
   subst h0
   obtain rfl:ys=[]:=List.eq_nil_of_length_eq_zero hm
   refine⟨v,W,?_,by rw[List.append_nil];exact⟨hok,inner,hown,hr⟩,World.grownBy.refl W _,.inl rfl⟩
   rcases hown.2 with⟨rfl,hn⟩|⟨g,cap,cur,rfl,_,_,hnc,_⟩
   ·simp[Builtin.append_,run_underlying ht,sizeOf,typeInfo,hi,Builtin.lenOf,Builtin.firstCells]
   ·simp[Builtin.append_,run_underlying ht,sizeOf,typeInfo,hi,Builtin.lenOf,Builtin.firstCells,hnc,storeCells]
  ·obtain⟨news,hnr,hnc⟩:=ReadsRow.inner_ HR
   have hnM:Reps (d.M W base okp) d.sz ys news:=hnr.imp_ (fun p c hp=>hKM p c hp)
   have hone:∀ u∈news,u.oneCell'=true:=by
    intro u hu
    obtain⟨q,hq,rfl⟩:=List.mem_iff_getElem.1 hu
    have hql:q / d.sz < ys.length:=by
     rw[Nat.div_lt_iff_lt_mul hs0]
     rw[← hnM.1]
     exact hq
    have hc:=hnM.2 (q / d.sz) _ (List.getElem?_eq_getElem hql)
    refine d.K_one (d.K_of_M hc) _ ?_
    rw[List.mem_iff_getElem?]
    refine⟨q % d.sz,?_⟩
    rw[List.getElem?_take,if_pos (Nat.mod_lt _ hs0),List.getElem?_drop,Nat.mul_comm,Nat.div_add_mod,List.getElem?_eq_getElem hq]
   obtain⟨v1,w1,hrun,h2,hg,_,hat⟩:=run_append_own_at (P:=P) W base t o.type e i0 z d.sz bytes ht hi hz0 hz1 hz2 hz hs0 v xs.length inner hown ad m c news (by rw[hnM.1,hm]) hnc hone (by simp only[maxLen];omega) hl hbase
   have hat':v1.ownBlock=v.ownBlock∨∃ b,v1.ownBlock=some b∧W.heap.size≤b:=by
    rcases hat with hat|hat
    ·exact .inl hat
    ·exact .inr ⟨_,hat,Nat.le_refl _⟩
   have hne:∀ k,some k≠v.ownBlock→k < W.heap.size→some k≠v1.ownBlock:=by
    intro k hk hlt
    rcases hat' with hat|⟨b,hb,hle⟩
    ·rw[hat];exact hk
    ·rw[hb]
     intro he
     injection he with he
     omega
   have step:∀ {q:α} {c:List Value} {o:Nat→Prop},d.M W base o q c→(∀ k,o k→ok k∧some k≠v.ownBlock)→d.M w1 base (fun k=>ok k∧some k≠v1.ownBlock) q c:=by
    intro q c o hq ho
    have h1:=d.M_move (w1:=w1) (fun k hk=>hg.block k hk.2.2.1 (ho k hk.1).2) (d.M_bound hq)
    exact d.M_mono (fun k hk=>⟨(ho k hk.1).1,hne k (ho k hk.1).2 hk.2.2.1⟩) h1
   refine⟨v1,w1,hrun,⟨fun k hk=>?_,inner++news,by rw[List.length_append,hm];exact h2,zTy (hr.imp_ (fun _ _ hq=>step hq (fun _ hk=>hk))) (hnM.imp_ (fun _ _ hq=>step hq hokp))⟩,hg,hat'⟩
   rcases hat' with hat|⟨b,hb,hle⟩
   ·exact hok k (hat ▸ hk)
   ·rw[hb] at hk
    injection hk with hk
    exact hfresh k (by omega)
 obtain⟨v1,w1,hr1,h1,hg,hat⟩:=hrun
 refine wpList_plain hgd fun K hK=>?_
 unfold Oper.wp execOp
 simp only[ho,resolve,invoke,builtin,Sem.run_bind,Sem.run_pure,Result.andThen_ok,List.map_toArray,List.map_cons,List.map_nil,hs,hx,hr1]
 exact hK _ _ (h v1 w1 h1 (HB.grown hg hbase (zKs hown)) hg hat)
end
end Kd
namespace Kd
section
variable {P:Program} {ops:Array Oper} {rest:List Oper} {o:Oper} {a:Act} {Q:Exit→Act→World→Prop} {α:Type}
end
end Kd
namespace Kd
section
variable {α:Type} {k:Kd α} {w:World} {A:Option Addr} {xs:List α} {m c:Nat}
end
end Kd
section
variable {P:Program}
end
namespace Kd
section
variable {α β:Type} {d:Kd α} {d':Kd β} {e e' base base' n:Nat} {ok ok':Nat→Prop} {w W w1 W1:World} {v u:Value} {xs:List α} {ys:List β} {A:Option Addr} {c:Nat}
end
section
variable {α:Type} {enc:α→Value} {h1:∀ x,(enc x).oneCell'=true} {w W:World} {A:Option Addr} {n g:Nat} {xs:List α}
end
end Kd
namespace Kd
section
variable {α:Type} {d:Kd α} {e base g:Nat} {ok:Nat→Prop} {w w1:World} {v:Value} {xs:List α} {o:Obj}
end
end Kd
section
variable {P:Program} {ops:Array Oper} {rest:List Oper} {o:Oper} {a:Act} {Q:Exit→Act→World→Prop}
end
namespace Kd
section
variable {α:Type} {enc:α→Value} {h1:∀ x,(enc x).oneCell'=true} {e base g n cap:Nat} {ok:Nat→Prop} {W:World} {xs:List α}
end
end Kd
section
variable {P:Program} {ops:Array Oper} {rest:List Oper} {o:Oper} {a:Act} {Q:Exit→Act→World→Prop}
end
namespace Kd
section
variable {α:Type} {enc:α→Value} {h1:∀ x,(enc x).oneCell'=true} {e base g n cap:Nat} {ok:Nat→Prop} {W:World} {xs:List α}
end
end Kd
section
variable {P:Program} {ops:Array Oper} {rest:List Oper} {o:Oper} {a:Act} {Q:Exit→Act→World→Prop} {W:World}
end
section
variable {P:Program} {ops:Array Oper} {o:Oper} {a:Act} {Q:Exit→Act→World→Prop} {Kc:Act→World→Prop}
namespace Kd
variable {α:Type}
end Kd
end
section
variable {P:Program} {tmps:Array Value} {w:World}
end
namespace Kd
section
variable {P:Program} {α:Type}
end
section
variable {P:Program} {ops:Array Oper} {rest:List Oper} {o:Oper} {a:Act} {Q:Exit→Act→World→Prop} {Kc:Act→World→Prop} {α:Type}
end
end Kd
end Go.Proofs.YtfnacgojmdbjmaaGreatDoorW.PrintWords
end
end
namespace Go.Proofs.YtfnacgojmdbjmaaGreatDoor
open Go.Det Go.RowKit YtfnacgojmdbjmaaGreatDoorW.PrintWords
def zSw (s sep:ByteArray):ByteArray×ByteArray×Bool:=(⟨(Lib.cut s.data.toList sep.data.toList).1.toArray⟩,⟨(Lib.cut s.data.toList sep.data.toList).2.1.toArray⟩,(Lib.cut s.data.toList sep.data.toList).2.2)
theorem yNv {s sep r1 r2:ByteArray}{r3:Bool}{w:World}(hG:GoodW w)(h:(if s.size < 4294967281 then some (zSw s sep) else none)=some (r1,r2,r3)):
  Calls Tryz.prog 59 #[.string s,.string sep] w fun e w'=>e=.returned (.tuple #[.string r1,.string r2,.bool r3])∧Drawn0 w w':=by
 split at h
 case isFalse=>cases h
 rename_i hs
 cases h
 obtain⟨_,m,hm⟩:=hG.len
 refine(Tryz.strings_Cut s sep m w hs hm).mono ?_
 rintro e w' ⟨rfl,n,rfl⟩
 exact⟨rfl,⟨n,rfl⟩⟩
theorem zMi {s sep:ByteArray}{r:Bool}{w:World}(hG:GoodW w)(h:(if s.size < 4294967281 then some (Lib.contains s.data.toList sep.data.toList) else none)=some r):
  Calls Tryz.prog 84 #[.string s,.string sep] w fun e w'=>e=.returned (.bool r)∧Drawn0 w w':=by
 split at h
 case isFalse=>cases h
 rename_i hs
 cases h
 obtain⟨_,m,hm⟩:=hG.len
 refine(Tryz.strings_Contains s sep m w hs hm).mono ?_
 rintro e w' ⟨rfl,rfl⟩
 exact⟨rfl,Drawn0.refl _⟩
theorem yEl {s sep:ByteArray}{r:List ByteArray}{w:World}(hG:GoodW w)(h:(if s.size < 4294967281∧1≤sep.size then some (Lib.splitB sep 0 (Lib.countB s sep) s) else none)=some r):
  Calls Tryz.prog 103 #[.string s,.string sep] w fun e w'=>∃ v0_:Value,e=.returned (v0_)∧Kd.R Kd.string 9 w' w.heap.size (fun _=>True) v0_ r∧Below w.heap.size w w':=by
 split at h
 case isFalse=>cases h
 rename_i hs
 cases h
 obtain⟨_,m,hm⟩:=hG.len
 refine(Tryz.strings_Split s sep m w hs.1 hm hs.2).mono ?_
 rintro e w' ⟨rfl,rfl⟩
 have hl:=Lib.splitB_all sep hs.2 0 (Lib.countB s sep) s rfl
 have hcb:=Lib.countB_le sep hs.2 s.size s (Nat.le_refl _)
 refine⟨_,rfl,?_,zAb (Below.refl _ _) _⟩
 have hrep:=Kd.reps_scalar (enc:=Value.string) (Lib.splitB sep 0 (Lib.countB s sep) s)
 rw[← hl]
 exact⟨fun _ _=>trivial,OwnRow.lit w w.heap.size hrep (Nat.le_refl _) (by rw[hl];omega)⟩
theorem zR5 {s:ByteArray}{c r:Int}{w:World}(h:some (Lib.indexByte s.data.toList c.toNat.toUInt8)=some r):
  Calls Tryz.prog 125 #[.string s,.int .u8 c] w fun e w'=>e=.returned (.int .i64 r)∧Drawn0 w w':=by
 cases h
 refine(Tryz.strings_IndexByte s c w).mono ?_
 rintro e w' ⟨rfl,rfl⟩
 exact⟨rfl,Drawn0.refl _⟩
def zMj (l:List ByteArray)(sep:ByteArray):ByteArray:=⟨(Lib.join (l.map (·.data.toList)) sep.data.toList).toArray⟩
theorem yJw {A0:Option Addr}{c0:Nat}{l0:List ByteArray}{sep r:ByteArray}{w:World}(hr:Kd.C Kd.string w A0 l0.length l0)(hc:l0.length≤c0)
  (h:(if(zMj l0 sep).size≤140737488355328∧l0.length≤140737488355328 then some (zMj l0 sep) else none)=some r):
  Calls Tryz.prog 90 #[.slice A0 l0.length c0,.string sep] w fun e w'=>e=.returned (.string r)∧Below w.heap.size w w':=by
 split at h
 case isFalse=>cases h
 rename_i hs
 cases h
 obtain⟨hl,hm,hcell⟩:=hr
 cases l0 with
 |nil=>
  refine(Tryz.strings_Join_none A0 c0 sep w).mono ?_
  rintro e w' ⟨rfl,rfl⟩
  exact⟨rfl,Below.refl _ _⟩
 |cons x t=>
  obtain⟨ad,rfl,hc1⟩:=hcell (by simp)
  have at_:∀ (j:Nat) p,(x::t)[j]?=some p→w.cell? (ad.add j)=some (.string p):=by
   intro j p hj
   obtain⟨c,h1,h2,h3⟩:=hc1 j p hj
   have h2:c=[Value.string p]:=h2
   have:=h3 0 (.string p) (by rw[h2];rfl)
   simpa [Kd.string,Kd.scalar] using this
  have h0:=at_ 0 x rfl
  have hsp:=World.cell?_spot h0
  obtain⟨bk,o,sp⟩:=ad
  have hsp:sp=none:=by simpa [Addr.add] using hsp
  subst hsp
  have hadd:∀ j,(⟨bk,o,none⟩:Addr).add j=⟨bk,o+j,none⟩:=by
   intro j
   unfold Addr.add
   split
   ·rename_i q;subst q;rfl
   ·rfl
  refine(Tryz.strings_Join bk o c0 (x::t) sep w (fun j p hj=>by rw[← hadd];exact at_ j p hj) ?_ hs.2 hc ?_).mono ?_
  ·rw[hadd] at h0;exact World.block_lt_of_cell? w _ h0
  ·have:=hs.1
   unfold zMj at this
   simpa [ByteArray.size] using this
  ·rintro e w' ⟨rfl,hB⟩
   exact⟨rfl,hB⟩
end Go.Proofs.YtfnacgojmdbjmaaGreatDoor
section
namespace Go.Det
variable {P:Program}
abbrev OpX:=Oper→zAz→St→KV→Prop
abbrev LpX:=zAz→St→KC→Prop
def yUk (o:Oper):Nat:=match o.dst with|some d=>d|none=>1000000
def opX (P:Program)(cw:Cw)(ox:Nat→Option OpX)(o:Oper)(l:zAz)(s:St)(K:KV):Prop:=
 match ox (yUk o) with
 |some X=>X o l s K
 |none=>opW P cw o l s K
def yPo (P:Program)(cw:Cw)(ox:Nat→Option OpX)(all:List Oper):List Oper→zAz→St→KT→Prop
 |[],l,s,K=>K l s
 |o::rest,l,s,K=>zPn all l o (fun l=>opX P cw ox o l s fun v s=>yPo P cw ox all rest (zJd l o.dst v) s K) (fun l=>yPo P cw ox all rest (zJd l o.dst skp) s K)
def yAo (P:Program)(cw:Cw)(ox:Nat→Option OpX)(all:List Oper):List Oper→List zDv→zAz→St→KT→Prop
 |[],_,l,s,K=>K l s
 |o::rest,done,l,s,K=>match zFt done.length o.after.toList with
  |true=>zPn all l o
   (fun l=>opX P cw ox o l (solo s) fun v x=>match zFu (zDf all o done x.rd x.wr) 0 done with
    |true=>yAo P cw ox all rest (done++[zDf all o done x.rd x.wr]) (zJd l o.dst v) (zRk s x) K
    |false=>False)
   (fun l=>match zFu (zDf all o done 0 0) 0 done with
    |true=>yAo P cw ox all rest (done++[zDf all o done 0 0]) (zJd l o.dst skp) (zRk s (solo s)) K
    |false=>False)
  |false=>False
def zMk:Code→Nat
 |.region id _ _=>id
 |.seq a _=>zMk a
 |.cond _ a _=>zMk a
 |.block _ a=>zMk a
 |.loop a=>zMk a
 |_=>1000000
def zEl (P:Program)(cw:Cw)(ox:Nat→Option OpX)(lx:Nat→Option LpX):Code→zAz→St→KC→Prop
 |.skip,l,s,K=>K .normal l s
 |.region _ ops draw,l,s,K=>(match draw with
  |true=>yAo P cw ox ops.toList ops.toList [] l s (K .normal)
  |false=>yPo P cw ox ops.toList ops.toList l s (K .normal))
 |.seq a b,l,s,K=>zEl P cw ox lx a l s fun e l s=>match e with|.normal=>zEl P cw ox lx b l s K|.exit i=>K (.exit i) l s|.ret=>K .ret l s
 |.cond c a b,l,s,K=>(match evalO l c with
  |.bool t=>zAm t (zEl P cw ox lx a (zZj l c true) s K) (zEl P cw ox lx b (zZj l c false) s K)
  |_=>False)
 |.block id a,l,s,K=>zEl P cw ox lx a l s fun e l s=>match e with
  |.exit i=>(match Nat.beq i id with|true=>K .normal l s|false=>K (.exit i) l s)
  |.normal=>K .normal l s
  |.ret=>K .ret l s
 |.loop a,l,s,K=>(match lx (zMk a) with|some X=>X l s K|none=>False)
 |.exit i,l,s,K=>K (.exit i) l s
 |.ret,l,s,K=>K .ret l s
 |_,_,_,_=>False
def zCd:Code→List Code
 |.seq a b=>zCd a++zCd b
 |.cond _ a b=>zCd a++zCd b
 |.block _ a=>zCd a
 |.loop a=>[a]
 |_=>[]
def zXo (P:Program)(cw:Cw)(ox:Nat→Option OpX):Prop:=∀ n X,ox n=some X→∀ o l s K,X o l s K→opW P cw o l s K
def yGm (P:Program)(cw:Cw)(lx:Nat→Option LpX)(l:List Code):Prop:=∀ a∈l,∀ X,lx (zMk a)=some X→∀ l s K,X l s K→zAx P cw (.loop a) l s K
section
variable {cw:Cw} {ox:Nat→Option OpX} {lx:Nat→Option LpX}
theorem yAp (ho:zXo P cw ox){o:Oper}{l:zAz}{s:St}{K:KV}(h:opX P cw ox o l s K):opW P cw o l s K:=by
 unfold opX at h
 split at h
 ·rename_i X e;exact ho _ _ e _ _ _ _ h
 ·exact h
theorem zMl (hm:zFh cw)(ho:zXo P cw ox){all:List Oper}:∀ {ops:List Oper} {l:zAz} {s:St} {K:KT},yPo P cw ox all ops l s K→yHu P cw all ops l s K
 |[],_,_,_,h=>h
 |_::_,_,_,_,h=>zHk (fun _ h=>zKr hm (fun _ _ h=>zMl hm ho h) (yAp ho h)) (fun _ h=>zMl hm ho h) h
theorem zH8 (hm:zFh cw)(ho:zXo P cw ox){all:List Oper}:∀ {ops:List Oper} {done:List zDv} {l:zAz} {s:St} {K:KT},yAo P cw ox all ops done l s K→zNe P cw all ops done l s K
 |[],_,_,_,_,h=>h
 |o::rest,done,l,s,K,h=>by
  unfold yAo at h
  unfold zNe
  split at h
  ·rename_i he
   simp only[he]
   refine zHk (fun l h=>?_) (fun l h=>?_) h
   ·refine zKr hm (fun v x h=>?_) (yAp ho h)
    split at h
    ·rename_i hc;simp only[hc];exact zH8 hm ho h
    ·exact h.elim
   ·split at h
    ·rename_i hc;simp only[hc];exact zH8 hm ho h
    ·exact h.elim
  ·exact h.elim
theorem zBc (hm:zFh cw)(ho:zXo P cw ox):∀ (c:Code) {l:zAz} {s:St} {K:KC},yGm P cw lx (zCd c)→zEl P cw ox lx c l s K→zAx P cw c l s K
 |.skip,_,_,_,_,h=>h
 |.region _ ops draw,_,_,_,_,h=>by
  cases draw with
  |true=>exact zH8 hm ho h
  |false=>exact zMl hm ho h
 |.seq a b,_,_,_,hl,h=>by
  have h1:=zBc hm ho a (fun x hx=>hl x (List.mem_append_left _ hx)) h
  refine zBl hm a (fun e l s q=>?_) h1
  cases e with
  |normal=>exact zBc hm ho b (fun x hx=>hl x (List.mem_append_right _ hx)) q
  |exit i=>exact q
  |ret=>exact q
 |.cond c a b,l,s,K,hl,h=>by
  unfold zEl at h
  unfold zAx
  split at h
  ·rename_i hc
   simp only[hc]
   exact zGy (zBc hm ho a (fun x hx=>hl x (List.mem_append_left _ hx))) (zBc hm ho b (fun x hx=>hl x (List.mem_append_right _ hx))) h
  ·exact h.elim
 |.block id a,_,_,_,hl,h=>zBc hm ho a hl h
 |.loop a,l,s,K,hl,h=>by
  unfold zEl at h
  split at h
  ·rename_i X e;exact hl a (List.mem_singleton.2 rfl) X e l s K h
  ·exact h.elim
 |.exit i,_,_,_,_,h=>h
 |.ret,_,_,_,_,h=>h
end
inductive Star {V:Type} (R:V→V→Prop):V→V→Prop
 |refl (v:V):Star R v v
 |step {a b c:V}:R a b→Star R b c→Star R a c
theorem zMm {cw:Cw}(hm:zFh cw){a:Code}{V:Type}(L:V→zAz)(S:V→St){Step:V→V→Prop}
  (hstep:∀ v v1,Step v v1→zAx P cw a (L v) (S v) (zHs (fun l s=>zJ4 l s (L v1) (S v1)) (fun _ _ _=>False)))
  {v v':V} (hs:Star Step v v') {K:KC}:∀ {l:zAz} {s:St},zJ4 l s (L v) (S v)→zAx P cw a (L v') (S v') (zHs (fun _ _=>False) K)→zAx P cw (.loop a) l s K:=by
 induction hs with
 |refl v=>
  intro l s hw hend
  exact zN8 hw (zGz hm (zBl hm a (zC9 (fun _ _ h=>h.elim) (fun _ _ _ h=>h)) hend))
 |@step x y z h1 h2 ih=>
  intro l s hw hend
  exact zN8 hw (zGz hm (zBl hm a (zC9 (fun _ _ q=>ih q hend) (fun _ _ _ h=>h.elim)) (hstep x y h1)))
abbrev zTz:=List (Nat×Value)
abbrev yGn:=List (Nat×List Value×TypeId×Bool)
def zF5:zTz→zAz
 |[]=>[]
 |x::t=>zX1 (zF5 t) x.1 x.2
def zOd:yGn→Heap
 |[]=>[]
 |x::t=>(zOd t).set x.1 (.cells x.2.1 x.2.2.1 x.2.2.2)
def zQg (b:yGn)(N:Nat):St:={ h:=zOd b,next:=N,hi:=N,rd:=0,wr:=0 }
def eqL:List Value→List Value→Prop
 |[],[]=>True
 |x::s,y::t=>x=y∧eqL s t
 |_,_=>False
theorem yGo:∀ {a b:List Value},eqL a b→a=b
 |[],[],_=>rfl
 |x::s,y::t,h=>by rw[h.1,yGo h.2]
 |[],_::_,h=>h.elim
 |_::_,[],h=>h.elim
def zR6 (l:zAz):zTz→Prop
 |[]=>True
 |x::t=>zEp l x.1=x.2∧zR6 l t
def yGp (s:St)(id:Nat)(cs:List Value)(e:TypeId)(ro:Bool):Prop:=match s.h.get id with
 |some (.cells cs' e' ro')=>eqL cs' cs∧(e'=e∧ro'=ro)
 |_=>False
def yQq (s:St)(id:Nat)(cs:List Value)(e:TypeId)(ro:Bool):Prop:=match s.h.get id with
 |some (.cells cs' e' ro')=>cs'=cs∧(e'=e∧ro'=ro)
 |_=>False
theorem zHq {s:St}{id:Nat}{cs:List Value}{e:TypeId}{ro:Bool}(h:yGp s id cs e ro):s.h.get id=some (.cells cs e ro):=by
 unfold yGp at h
 split at h
 ·rename_i cs' e' ro' hg;obtain⟨h1,rfl,rfl⟩:=h;rw[hg,yGo h1]
 ·exact h.elim
theorem yEm {s:St}{id:Nat}{cs:List Value}{e:TypeId}{ro:Bool}(h:yQq s id cs e ro):s.h.get id=some (.cells cs e ro):=by
 unfold yQq at h
 split at h
 ·rename_i cs' e' ro' hg;obtain⟨rfl,rfl,rfl⟩:=h;exact hg
 ·exact h.elim
def yJx (s:St):yGn→Prop
 |[]=>True
 |x::t=>s.h.get x.1=some (.cells x.2.1 x.2.2.1 x.2.2.2)∧yJx s t
def yEn (N:Nat)(v:Value):Bool:=match v with
 |.pointer (some ⟨i,_,none⟩)=>decide (64≤i∧i < N)
 |.slice (some ⟨i,_,none⟩) _ _=>decide (64≤i∧i < N)
 |v=>flat v
def yNw (N:Nat)(l:List Value):Bool:=l.all (yEn N)
def zR7 (N:Nat):Nat→Option Nat:=fun id=>if 64≤id∧id < N then some id else none
theorem Wk.good {N:Nat}{v:Value}(h:yEn N v=true):Wk (zR7 N) v v:=by
 unfold yEn at h
 split at h
 ·rename_i i off
  have h:=of_decide_eq_true h
  exact Wk.ptr h.1 (by unfold zR7;rw[if_pos h])
 ·rename_i i off n c
  have h:=of_decide_eq_true h
  exact Wk.slice h.1 (by unfold zR7;rw[if_pos h])
 ·exact Wk.flat h
theorem zR8:∀ (sl:zTz) (t:Nat),zEp (zF5 sl) t=und∨∃ x∈sl,x.1=t∧zEp (zF5 sl) t=x.2
 |[],t=>.inl (zKq t)
 |x::r,t=>by
  unfold zF5
  rw[zFv]
  by_cases e:t=x.1
  ·rw[if_pos e];exact .inr ⟨x,List.mem_cons_self,e.symm,rfl⟩
  ·rw[if_neg e]
   rcases zR8 r t with h|⟨y,h1,h2,h3⟩
   ·exact .inl h
   ·exact .inr ⟨y,List.mem_cons_of_mem _ h1,h2,h3⟩
theorem zDs:∀ (b:yGn) (id:Nat) (B:Blk),(zOd b).get id=some B→∃ x∈b,x.1=id∧B=.cells x.2.1 x.2.2.1 x.2.2.2
 |[],id,B,h=>by
  exfalso
  have:Heap.get ([]:Heap) id=none:=by
   unfold Heap.get Tab.get
   cases hd:Nat.div id 8<;>cases hm:Nat.mod id 8<;>rfl
  unfold zOd at h
  rw[this] at h;cases h
 |x::r,id,B,h=>by
  unfold zOd at h
  rw[Heap.get_set] at h
  by_cases e:id=x.1
  ·rw[if_pos e] at h;cases h;exact⟨x,List.mem_cons_self,e.symm,rfl⟩
  ·rw[if_neg e] at h
   obtain⟨y,h1,h2,h3⟩:=zDs r id B h
   exact⟨y,List.mem_cons_of_mem _ h1,h2,h3⟩
theorem zOe {l:zAz}:∀ {sl:zTz},zR6 l sl→∀ x∈sl,zEp l x.1=x.2
 |[],_,x,hx=>by cases hx
 |y::r,h,x,hx=>by
  rcases List.mem_cons.1 hx with rfl|hx
  ·exact h.1
  ·exact zOe h.2 x hx
theorem zR9 {s:St}:∀ {b:yGn},yJx s b→∀ x∈b,s.h.get x.1=some (.cells x.2.1 x.2.2.1 x.2.2.2)
 |[],_,x,hx=>by cases hx
 |y::r,h,x,hx=>by
  rcases List.mem_cons.1 hx with rfl|hx
  ·exact h.1
  ·exact zR9 h.2 x hx
theorem zSa {sl:zTz}{b:yGn}{N:Nat}{l:zAz}{s:St}(h64:64≤N)(hg:∀ x∈sl,yEn N x.2=true)(hb:∀ x∈b,(64≤x.1∧x.1 < N)∧yNw N x.2.1=true)
  (h1:zR6 l sl) (h2:yJx s b):zJ4 l s (zF5 sl) (zQg b N):=by
 refine zZn (zR7 N) (fun t=>?_) (fun id cs e ro q g=>?_) (fun id cs e ro q g=>?_) (fun i j o hi hj=>?_) (fun i o hi=>?_) (fun id es g=>?_) (fun id q=>⟨?_,?_⟩) h64 (Nat.le_refl _)
 ·rcases zR8 sl t with e|⟨x,hx,rfl,e⟩
  ·rw[e];exact Wk.und _ _
  ·rw[e,zOe h1 x hx];exact Wk.good (hg x hx)
 ·obtain⟨x,hx,rfl,e⟩:=zDs b id _ g
  have:=(hb x hx).1.1;omega
 ·obtain⟨x,hx,rfl,e⟩:=zDs b id _ g
  cases e
  refine⟨x.1,x.2.1,by unfold zR7;rw[if_pos (hb x hx).1],zR9 h2 x hx,rfl,fun i=>?_⟩
  rcases Nat.lt_or_ge i x.2.1.length with c|c
  ·have:=List.all_eq_true.1 (hb x hx).2 (x.2.1.getD i und) (by rw[List.getD_eq_getElem?_getD,List.getElem?_eq_getElem c];exact List.getElem_mem c)
   exact Wk.good this
  ·rw[List.getD_eq_getElem?_getD,List.getElem?_eq_none c];exact Wk.und _ _
 ·unfold zR7 at hi hj
  split at hi
  ·split at hj
   ·cases hi;cases hj;rfl
   ·cases hj
  ·cases hi
 ·unfold zR7 at hi
  split at hi
  ·rename_i c;cases hi;exact c.1
  ·cases hi
 ·obtain⟨x,hx,rfl,e⟩:=zDs b id _ g
  cases e
 ·unfold zR7;rw[if_neg (by simp only[zQg] at q;omega)]
 ·cases hc:(zQg b N).h.get id with
  |none=>rfl
  |some B=>
   obtain⟨x,hx,rfl,e⟩:=zDs b id _ hc
   have:=(hb x hx).1.2
   simp only[zQg] at q
   omega
def yQr {α:Type}(enc:α→List Value)(ty:TypeId)(n:Nat):OpX:=fun o l s K=>match o.op with
 |.load t a=>(match evalO l a with
  |.pointer (some ⟨id,off,none⟩)=>(match s.h.get id with
   |some (.cells cs _ _)=>t=ty∧∃ r:List α,cs=r.flatMap enc∧∃ i:Nat,off=i * n∧∃ x:α,r[i]?=some x∧K (.agg (enc x).toArray) (s.read id)
   |_=>False)
  |_=>False)
 |_=>False
theorem zJ5 {α:Type}{enc:α→List Value}{n:Nat}(hn:∀ x,(enc x).length=n):∀ (r:List α) (i:Nat) (x:α),r[i]?=some x→(r.flatMap enc).drop (i * n)=enc x++(r.drop (i+1)).flatMap enc∧i * n+n≤(r.flatMap enc).length
 |[],i,x,h=>by simp at h
 |y::t,0,x,h=>by
  simp at h;subst h
  simp[hn]
 |y::t,i+1,x,h=>by
  have h':t[i]?=some x:=by simpa using h
  obtain⟨a,b⟩:=zJ5 hn t i x h'
  refine⟨?_,?_⟩
  ·rw[List.flatMap_cons,Nat.succ_mul,Nat.add_comm,List.drop_append,List.drop_eq_nil_of_le (by rw[hn];omega),hn,List.nil_append,show n+i * n - n=i * n by omega]
   exact a
  ·rw[List.flatMap_cons,List.length_append,hn,Nat.succ_mul];omega
theorem yJy {cw:Cw}{α:Type}{enc:α→List Value}{ty:TypeId}{n:Nat}(hn:∀ x,(enc x).length=n+1)(h1:zGl P ty=some true)(h2:zGi P ty=some (n+1)){o:Oper}{l:zAz}{s:St}{K:KV}
  (h:yQr enc ty (n+1) o l s K):opW P cw o l s K:=by
 unfold yQr at h
 split at h
 case h_2=>exact h.elim
 rename_i t a ho
 split at h
 case h_2=>exact h.elim
 rename_i id off hp
 split at h
 case h_2=>exact h.elim
 rename_i cs e ro hg
 obtain⟨rfl,r,rfl,i,rfl,x,hx,hK⟩:=h
 unfold opW
 rw[ho]
 simp only[hp]
 unfold zRw
 simp only[hg,h1,h2]
 obtain⟨d1,d2⟩:=zJ5 hn r i x hx
 refine zH7 (by omega) ?_
 rw[d1]
 refine zF3 (by rw[List.length_append,hn];omega) ?_
 rw[List.take_append_of_le_length (by rw[hn];exact Nat.le_refl _),List.take_of_length_le (by rw[hn];exact Nat.le_refl _)]
 exact hK
end Go.Det
end
section
end
namespace Go.Det
variable {P:Program}
theorem bifW_c {p:Prop}{A B:Prop}(h1:p→A)(h2:¬ p→B):zAm (zAl p) A B:=zHi (fun h=>h1 (zCg.1 h)) (fun h=>h2 (zDq.1 h))
theorem bifW_b {b:Bool}{A B:Prop}(h1:b=true→A)(h2:¬ b=true→B):zAm b A B:=zHi h1 (fun h=>h2 (by rw[h];decide))
theorem bifW_n {b:Bool}{A B:Prop}(h1:b=true→B)(h2:¬ b=true→A):zAm (!b) A B:=by cases b;exact h2 (by decide);exact h1 rfl
theorem zVe {p:Prop}{A B:Prop}(h:p)(k:A):zAm (zAl p) A B:=bifW_c (fun _=>k) (fun q=>absurd h q)
theorem zBf {p:Prop}{A B:Prop}(h:¬ p)(k:B):zAm (zAl p) A B:=bifW_c (fun q=>absurd q h) (fun _=>k)
def yPp (P:Program)(cw:Cw)(ox:Nat→Option OpX)(lx:Nat→Option LpX)(a:Code):Nat→LpX
 |0=>fun _ _ _=>False
 |n+1=>fun l s K=>zEl P cw ox lx a l s (zHs (fun l s=>yPp P cw ox lx a n l s K) K)
theorem zSb {cw:Cw}{ox:Nat→Option OpX}{lx:Nat→Option LpX}(hm:zFh cw)(ho:zXo P cw ox){a:Code}(hl:yGm P cw lx (zCd a)):∀ (n:Nat) {l:zAz} {s:St} {K:KC},yPp P cw ox lx a n l s K→zAx P cw (.loop a) l s K
 |0,_,_,_,h=>h.elim
 |n+1,l,s,K,h=>zGz hm (zBl hm a (zC9 (fun _ _ q=>zSb hm ho hl n q) fun _ _ _ q=>q) (zBc hm ho a hl h))
def ox0 (_:Nat):Option OpX:=none
theorem zE4 {cw:Cw}:zXo P cw ox0:=fun _ _ h=>by cases h
def lxN (_:Nat):Option LpX:=none
theorem yNx {cw:Cw}(l:List Code):yGm P cw lxN l:=fun _ _ _ h=>by cases h
def lxU (P:Program)(cw:Cw)(ox:Nat→Option OpX)(ls:List Code)(n:Nat)(i:Nat):Option LpX:=match ls with
 |[]=>none
 |a::t=>match Nat.beq (zMk a) i with
  |true=>some (yPp P cw ox lxN a n)
  |false=>lxU P cw ox t n i
def zSc:List Code→Bool
 |[]=>true
 |a::t=>(t.all fun b=>!Nat.beq (zMk a) (zMk b))&&zSc t
theorem yAq {cw:Cw}{ox:Nat→Option OpX}{n:Nat}:∀ {ls:List Code},zSc ls=true→∀ a∈ls,lxU P cw ox ls n (zMk a)=some (yPp P cw ox lxN a n)
 |[],_,a,ha=>by cases ha
 |b::t,h,a,ha=>by
  unfold zSc at h
  rw[Bool.and_eq_true] at h
  unfold lxU
  rcases List.mem_cons.1 ha with rfl|ha
  ·have:Nat.beq (zMk a) (zMk a)=true:=Nat.beq_refl _
   simp only[this]
  ·have:=List.all_eq_true.1 h.1 a ha
   have:Nat.beq (zMk b) (zMk a)=false:=by cases hq:Nat.beq (zMk b) (zMk a)<;>simp_all
   simp only[this]
   exact yAq h.2 a ha
theorem yGq {cw:Cw}{ox:Nat→Option OpX}(hm:zFh cw)(ho:zXo P cw ox){ls:List Code}(n:Nat)(hs:zSc ls=true):yGm P cw (lxU P cw ox ls n) ls:=by
 intro a ha X hX l s K h
 rw[yAq hs a ha] at hX
 cases hX
 exact zSb hm ho (yNx _) n h
def zBi (P:Program)(cw:Cw)(ox:Nat→Option OpX)(n:Nat)(c:Code):zAz→St→KC→Prop:=zEl P cw ox (lxU P cw ox (zCd c) n) c
theorem zAv {cw:Cw}{ox:Nat→Option OpX}(hm:zFh cw)(ho:zXo P cw ox){n:Nat}{c:Code}(hs:zSc (zCd c)=true){l:zAz}{s:St}{K:KC}(h:zBi P cw ox n c l s K):zAx P cw c l s K:=
 zBc hm ho c (yGq hm ho n hs) h
def yQs:OpX:=fun o l s K=>match o.op with
 |.binOp op _ x y _=>(match evalO l x,evalO l y with
  |.int k m,.int k' n=>zGd k k'=true∧(match op with
   |.eql=>K (.bool (decide (m=n))) s
   |.neq=>K (.bool (decide (m≠n))) s
   |.lss=>K (.bool (decide (m < n))) s
   |.leq=>K (.bool (decide (m≤n))) s
   |.gtr=>K (.bool (decide (n < m))) s
   |.geq=>K (.bool (decide (n≤m))) s
   |_=>False)
  |_,_=>False)
 |_=>False
theorem yJz {cw:Cw}{o:Oper}{l:zAz}{s:St}{K:KV}(h:yQs o l s K):opW P cw o l s K:=by
 unfold yQs at h
 split at h
 case h_2=>exact h.elim
 rename_i op t x y q ho
 split at h
 case h_2=>exact h.elim
 rename_i k m k' n h1 h2
 obtain⟨hk,h⟩:=h
 unfold opW
 rw[ho]
 simp only[h1,h2]
 unfold yGd
 simp only[zA2] at h
 split at h
 case h_7=>exact h.elim
 all_goals (simp only[hk];exact h)
def oxE (ds:List Nat)(n:Nat):Option OpX:=match ds with
 |[]=>none
 |d::t=>match Nat.beq d n with|true=>some yQs|false=>oxE t n
theorem zFl {cw:Cw}:∀ (ds:List Nat),zXo P cw (oxE ds)
 |[],_,_,h=>by cases h
 |d::t,n,X,h=>by
  unfold oxE at h
  split at h
  ·cases h;exact fun o l s K=>yJz
  ·exact zFl t n X h
end Go.Det
end

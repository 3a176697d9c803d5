/- Texts of a proof, joined: words of the print (those that are named here) and printed functions. -/
import Derived.Test.YtfnacgojmdbjmaaGreatDoorPkm8
set_option linter.unusedSimpArgs false
set_option linter.unusedVariables false
set_option maxRecDepth 100000
set_option maxHeartbeats 8000000
noncomputable section
namespace Go.Proofs.YtfnacgojmdbjmaaGreatDoor.PPPT
open Go.RowKit YtfnacgojmdbjmaaGreatDoorW.PrintWords YtfnacgojmdbjmaaGreatDoorW.PrintLast YtfnacgojmdbjmaaGreatDoorW.PrintMore
attribute [local go_sem] zEz zE0 zG2 zG3 zDy zDz zE1 zE2
open Go.Det (inQ M64 zCh qn zXk zJo zFk)
mutual
def gleberef1_Num.l0:Nat→ByteArray→Int→Int→Int→Option (Int×Bool)
 |0,_,_,_,_=>none
 |k+1,x0,x1,x6,x7=>if x7 < (x0.size:Int) then(if 0≤x7 then(if(bt x0 x7) < 48 then(gleberef1_Num.j1 k x0 x1 x6 x7 true) else(if(bt x0 x7) > 57 then(gleberef1_Num.j1 k x0 x1 x6 x7 true) else(if x7=1 then(if 0 < (x0.size:Int) then(gleberef1_Num.j1 k x0 x1 x6 x7 ((bt x0 0)==48)) else(none)) else(gleberef1_Num.j1 k x0 x1 x6 x7 false)))) else(none)) else(some (x6,decide ((x0.size:Int) > 0)))
def gleberef1_Num.j1:Nat→ByteArray→Int→Int→Int→Bool→Option (Int×Bool)
 |0,_,_,_,_,_=>none
 |k+1,x0,x1,x6,x7,x33=>if x33=true then(some (0,false)) else(if 0≤x7 then(if x7 < (x0.size:Int) then(if x6 > (IntKind.u64.wrap (Int.tdiv (IntKind.u64.wrap (x1 - (mn x1 (((bt x0 x7) - 48) % 256)))) 10)) then(some (0,false)) else(if(IntKind.u64.wrap ((IntKind.u64.wrap (10 * x6))+(((bt x0 x7) - 48) % 256))) > x1 then(some (0,false)) else(gleberef1_Num.l0 k x0 x1 (IntKind.u64.wrap ((IntKind.u64.wrap (10 * x6))+(((bt x0 x7) - 48) % 256))) (wrap64 (x7+1))))) else(none)) else(none))
end
def gleberef1_Num.f (k:Nat)(a0:ByteArray)(a1:Int):Option (Int×Bool):=gleberef1_Num.l0 k a0 a1 0 0
set_option maxRecDepth 100000 in
theorem gleberef1_Num.calls (k:Nat)(a0:ByteArray)(a1:Int)(r1:Int)(r2:Bool)(w:World)(hG:GoodW w)(h:gleberef1_Num.f k a0 a1=some (r1,r2)):
  Calls Tryz.prog 64 #[.string a0,.int .u64 a1] w fun e w'=>e=.returned (.tuple #[.int .u64 r1,.bool r2])∧Below w.heap.size w w':=by
 have HB:=Aside0.mk (Below.refl w.heap.size w)
 have H:=h
 unfold gleberef1_Num.f at H
 clear h
 have H':=Aside0.mk H
 clear H
 go_enter Tryz.func64,Tryz.ntmps64
 go_wp2
 go_loopg [6,7] k (fun kq v6 v7 w'=>∃ (x6_1:Int) (x7_1:Int),v6=.int .u64 x6_1∧v7=.int .i64 x7_1∧Aside0 (gleberef1_Num.l0 kq a0 a1 x6_1 x7_1=some (r1,r2))∧Aside0 (kq≤k)∧Aside0 (Below w.heap.size w w'))
 case atStart=>exact⟨(0),(0),(by first|rfl|(simp;done)|(simp[*];done)),(by first|rfl|(simp;done)|(simp[*];done)),H',⟨Nat.le_refl _⟩,⟨by repeat (first|(with_reducible first|exact HB.out|apply zAb|apply zAa|apply zAc)|exact HB.out)⟩⟩
 case round=>
  clear H'
  try clear p2
  obtain⟨x6_1,x7_1,rfl,rfl,HA,HK1,HB⟩:=hrel
  cases gk with
  |zero=>exact absurd HA.out (by simp[gleberef1_Num.l0])
  |succ k1=>
   have H:=HA.out
   clear HA
   simp only[gleberef1_Num.l0] at H
   by_cases c3:x7_1 < (a0.size:Int)
   ·rw[if_pos c3] at H
    have c3b0:=decide_eq_true c3
    clear c3
    have HC4:=Aside0.mk H
    clear H
    go_upto_region 5 with(fail)
    go_cut [33] (fun v33 wc=>∃ (kq:Nat) (x33_3:Bool),v33=.bool x33_3∧Aside0 (gleberef1_Num.j1 kq a0 a1 x6_1 x7_1 x33_3=some (r1,r2))∧Aside0 (kq≤k1)∧Aside0 (Below w.heap.size w wc))
    case first=>
     have H:=HC4.out
     clear HC4
     by_cases c5:0≤x7_1
     ·rw[if_pos c5] at H
      have c5b0:=decide_eq_true c5
      clear c5
      (first|rw[c5b0]|(simp only[zG1,zIy];rw[c5b0])|skip)
      by_cases c7:(bt a0 x7_1) < 48
      ·rw[if_pos c7] at H
       have c7b0:=decide_eq_true c7
       clear c7
       have H':=Aside0.mk H
       clear H
       have p6:0≤(x7_1:Int):=of_decide_eq_true (by first|(with_reducible assumption)|assumption)
       have q6:x7_1 < (a0.size:Int):=of_decide_eq_true (by first|(with_reducible assumption)|assumption)
       have hx6:=zD2 a0 x7_1
       replace p6:=eq_true p6
       replace q6:=eq_true q6
       go_wp2
       go_meet
       case rel=>exact⟨_,(true),(by first|rfl|(simp;done)|(simp[*];done)),H',⟨by have:=HK1.out;first|omega|exact Nat.le_refl _⟩,⟨by repeat (first|(with_reducible first|exact HB.out|apply zAb|apply zAa|apply zAc)|exact HB.out)⟩⟩
      ·rw[if_neg c7] at H
       have c7b0:decide ((bt a0 x7_1) < 48)=false:=decide_eq_false c7
       clear c7
       by_cases c9:(bt a0 x7_1) > 57
       ·rw[if_pos c9] at H
        have c9b0:=decide_eq_true c9
        clear c9
        have H':=Aside0.mk H
        clear H
        have p6:0≤(x7_1:Int):=of_decide_eq_true (by first|(with_reducible assumption)|assumption)
        have q6:x7_1 < (a0.size:Int):=of_decide_eq_true (by first|(with_reducible assumption)|assumption)
        have hx6:=zD2 a0 x7_1
        replace p6:=eq_true p6
        replace q6:=eq_true q6
        have p8:0≤(x7_1:Int):=of_decide_eq_true (by first|(with_reducible assumption)|assumption)
        have q8:x7_1 < (a0.size:Int):=of_decide_eq_true (by first|(with_reducible assumption)|assumption)
        have hx8:=zD2 a0 x7_1
        replace p8:=eq_true p8
        replace q8:=eq_true q8
        go_wp2
        go_meet
        case rel=>exact⟨_,(true),(by first|rfl|(simp;done)|(simp[*];done)),H',⟨by have:=HK1.out;first|omega|exact Nat.le_refl _⟩,⟨by repeat (first|(with_reducible first|exact HB.out|apply zAb|apply zAa|apply zAc)|exact HB.out)⟩⟩
       ·rw[if_neg c9] at H
        have c9b0:decide (57 < (bt a0 x7_1))=false:=decide_eq_false c9
        clear c9
        by_cases c10:x7_1=1
        ·rw[if_pos c10] at H
         have c10b0:(x7_1==1)=true:=beq_iff_eq.mpr c10
         have c10b1:(x7_1 != 1)=false:=bne_eq_false_iff_eq.mpr c10
         clear c10
         by_cases c11:0 < (a0.size:Int)
         ·rw[if_pos c11] at H
          have c11b0:=decide_eq_true c11
          have c11b1:decide (0 < a0.size)=true:=decide_eq_true (by omega)
          clear c11
          have H':=Aside0.mk H
          clear H
          have p6:0≤(x7_1:Int):=of_decide_eq_true (by first|(with_reducible assumption)|assumption)
          have q6:x7_1 < (a0.size:Int):=of_decide_eq_true (by first|(with_reducible assumption)|assumption)
          have hx6:=zD2 a0 x7_1
          replace p6:=eq_true p6
          replace q6:=eq_true q6
          have p8:0≤(x7_1:Int):=of_decide_eq_true (by first|(with_reducible assumption)|assumption)
          have q8:x7_1 < (a0.size:Int):=of_decide_eq_true (by first|(with_reducible assumption)|assumption)
          have hx8:=zD2 a0 x7_1
          replace p8:=eq_true p8
          replace q8:=eq_true q8
          have p12:0≤(0:Int):=(by omega)
          have q12:0 < a0.size:=(by have:(0:Int) < (a0.size:Int):=of_decide_eq_true (by first|(with_reducible assumption)|assumption);omega)
          have hx12:∀ h:0 < a0.size,((a0[0]'h).toNat:Int)=bt a0 0:=zD2 a0 0
          clear p12
          have qi12:(0 < (a0.size:Int))=True:=eq_true (of_decide_eq_true (by first|(with_reducible assumption)|assumption))
          replace q12:=eq_true q12
          go_wp2
          go_meet
          case rel=>exact⟨_,(((bt a0 0)==48)),(by first|rfl|(simp;done)|(simp[*];done)),H',⟨by have:=HK1.out;first|omega|exact Nat.le_refl _⟩,⟨by repeat (first|(with_reducible first|exact HB.out|apply zAb|apply zAa|apply zAc)|exact HB.out)⟩⟩
         ·rw[if_neg c11] at H
          exact absurd H (by simp)
        ·rw[if_neg c10] at H
         have c10b0:(x7_1==1)=false:=beq_eq_false_iff_ne.mpr c10
         have c10b1:(x7_1 != 1)=true:=bne_iff_ne.mpr c10
         have H':=Aside0.mk H
         clear H
         have p6:0≤(x7_1:Int):=of_decide_eq_true (by first|(with_reducible assumption)|assumption)
         have q6:x7_1 < (a0.size:Int):=of_decide_eq_true (by first|(with_reducible assumption)|assumption)
         have hx6:=zD2 a0 x7_1
         replace p6:=eq_true p6
         replace q6:=eq_true q6
         have p8:0≤(x7_1:Int):=of_decide_eq_true (by first|(with_reducible assumption)|assumption)
         have q8:x7_1 < (a0.size:Int):=of_decide_eq_true (by first|(with_reducible assumption)|assumption)
         have hx8:=zD2 a0 x7_1
         replace p8:=eq_true p8
         replace q8:=eq_true q8
         go_wp2
         go_meet
         case rel=>exact⟨_,(false),(by first|rfl|(simp;done)|(simp[*];done)),H',⟨by have:=HK1.out;first|omega|exact Nat.le_refl _⟩,⟨by repeat (first|(with_reducible first|exact HB.out|apply zAb|apply zAa|apply zAc)|exact HB.out)⟩⟩
     ·rw[if_neg c5] at H
      exact absurd H (by simp)
    case rest=>
     clear HC4
     try clear c1
     try clear p1
     try clear q1
     try clear hx1
     try clear qi1
     try clear p2
     try clear c3
     try clear c3b0
     try clear c5
     try clear c5b0
     try clear c6
     try clear p6
     try clear q6
     try clear hx6
     try clear c7
     try clear c7b0
     try clear p8
     try clear q8
     try clear hx8
     try clear c9
     try clear c9b0
     try clear c10
     try clear c10b0
     try clear c10b1
     try clear c11
     try clear c11b0
     try clear c11b1
     try clear p12
     try clear q12
     try clear hx12
     try clear qi12
     try clear p12
     try clear p2
     try clear p6
     try clear p8
     try clear q12
     try clear q6
     try clear q8
     obtain⟨kq,x33_3,rfl,HA,HJ3,HB⟩:=hcut
     cases kq with
     |zero=>exact absurd HA.out (by simp[gleberef1_Num.j1])
     |succ kj3=>
      have H:=HA.out
      clear HA
      simp only[gleberef1_Num.j1] at H
      by_cases c13:x33_3=true
      ·subst c13
       have H1:=H
       rw[if_pos rfl] at H1
       clear H
       have H:=H1
       clear H1
       simp only[Option.some.injEq,Prod.mk.injEq] at H
       obtain⟨rfl,rfl⟩:=H
       go_wp2
       go_ret2
       exact⟨by first|rfl|(simp[errW_none,errW_some]<;>rfl)|(simp[*,errW_none,errW_some]<;>rfl),by repeat (first|(with_reducible first|exact HB.out|apply zAb|apply zAa|apply zAc)|exact HB.out)⟩
      ·replace c13:=Bool.eq_false_iff.mpr c13
       subst c13
       have H1:(if 0≤x7_1 then(if x7_1 < (a0.size:Int) then(if x6_1 > (IntKind.u64.wrap (Int.tdiv (IntKind.u64.wrap (a1 - (mn a1 (((bt a0 x7_1) - 48) % 256)))) 10)) then(some (0,false)) else(if(IntKind.u64.wrap ((IntKind.u64.wrap (10 * x6_1))+(((bt a0 x7_1) - 48) % 256))) > a1 then(some (0,false)) else(gleberef1_Num.l0 kj3 a0 a1 (IntKind.u64.wrap ((IntKind.u64.wrap (10 * x6_1))+(((bt a0 x7_1) - 48) % 256))) (wrap64 (x7_1+1))))) else(none)) else(none))=some (r1,r2):=by rw[if_neg (show ¬ (false=true) by decide)] at H;exact H
       clear H
       have H:=H1
       clear H1
       by_cases c14:0≤x7_1
       ·rw[if_pos c14] at H
        have c14b0:=decide_eq_true c14
        clear c14
        by_cases c15:x7_1 < (a0.size:Int)
        ·rw[if_pos c15] at H
         have c15b0:=decide_eq_true c15
         clear c15
         obtain⟨ji17,hji17⟩:∃ j_:Int,(mn a1 (((bt a0 x7_1) - 48) % 256))=j_:=⟨_,rfl⟩
         replace H:(if x6_1 > (IntKind.u64.wrap (Int.tdiv (IntKind.u64.wrap (a1 - (ji17))) 10)) then(some (0,false)) else(if(IntKind.u64.wrap ((IntKind.u64.wrap (10 * x6_1))+(((bt a0 x7_1) - 48) % 256))) > a1 then(some (0,false)) else(gleberef1_Num.l0 kj3 a0 a1 (IntKind.u64.wrap ((IntKind.u64.wrap (10 * x6_1))+(((bt a0 x7_1) - 48) % 256))) (wrap64 (x7_1+1)))))=some (r1,r2):=by first|(rw[hji17] at H;exact H)|(simp only[hji17] at H ⊢;exact H)
         have hji17_:(if(((bt a0 x7_1) - 48) % 256) < a1 then(((bt a0 x7_1) - 48) % 256) else a1)=ji17:=hji17
         by_cases c18:x6_1 > (IntKind.u64.wrap (Int.tdiv (IntKind.u64.wrap (a1 - (ji17))) 10))
         ·rw[if_pos c18] at H
          have c18b0:=decide_eq_true c18
          clear c18
          simp only[Option.some.injEq,Prod.mk.injEq] at H
          obtain⟨rfl,rfl⟩:=H
          have p16:0≤(x7_1:Int):=of_decide_eq_true (by first|(with_reducible assumption)|assumption)
          have q16:x7_1 < (a0.size:Int):=of_decide_eq_true (by first|(with_reducible assumption)|assumption)
          have hx16:=zD2 a0 x7_1
          replace p16:=eq_true p16
          replace q16:=eq_true q16
          go_wp2
          go_ret2
          exact⟨by first|rfl|(simp[errW_none,errW_some]<;>rfl)|(simp only[← hji17];first|rfl|(simp[errW_none,errW_some]<;>rfl))|(simp[*,errW_none,errW_some]<;>rfl),by repeat (first|(with_reducible first|exact HB.out|apply zAb|apply zAa|apply zAc)|exact HB.out)⟩
         ·rw[if_neg c18] at H
          have c18b0:decide ((IntKind.u64.wrap (Int.tdiv (IntKind.u64.wrap (a1 - (ji17))) 10)) < x6_1)=false:=decide_eq_false c18
          clear c18
          by_cases c19:(IntKind.u64.wrap ((IntKind.u64.wrap (10 * x6_1))+(((bt a0 x7_1) - 48) % 256))) > a1
          ·rw[if_pos c19] at H
           have c19b0:=decide_eq_true c19
           clear c19
           simp only[Option.some.injEq,Prod.mk.injEq] at H
           obtain⟨rfl,rfl⟩:=H
           have p16:0≤(x7_1:Int):=of_decide_eq_true (by first|(with_reducible assumption)|assumption)
           have q16:x7_1 < (a0.size:Int):=of_decide_eq_true (by first|(with_reducible assumption)|assumption)
           have hx16:=zD2 a0 x7_1
           replace p16:=eq_true p16
           replace q16:=eq_true q16
           go_wp2
           go_ret2
           exact⟨by first|rfl|(simp[errW_none,errW_some]<;>rfl)|(simp only[← hji17];first|rfl|(simp[errW_none,errW_some]<;>rfl))|(simp[*,errW_none,errW_some]<;>rfl),by repeat (first|(with_reducible first|exact HB.out|apply zAb|apply zAa|apply zAc)|exact HB.out)⟩
          ·rw[if_neg c19] at H
           have c19b0:decide (a1 < (IntKind.u64.wrap ((IntKind.u64.wrap (10 * x6_1))+(((bt a0 x7_1) - 48) % 256))))=false:=decide_eq_false c19
           clear c19
           have H':=Aside0.mk H
           clear H
           have p16:0≤(x7_1:Int):=of_decide_eq_true (by first|(with_reducible assumption)|assumption)
           have q16:x7_1 < (a0.size:Int):=of_decide_eq_true (by first|(with_reducible assumption)|assumption)
           have hx16:=zD2 a0 x7_1
           replace p16:=eq_true p16
           replace q16:=eq_true q16
           go_wp2
           go_roundg kj3
           case measure=>have:=HK1.out;have:=HJ3.out;omega
           case rel=>exact⟨(IntKind.u64.wrap ((IntKind.u64.wrap (10 * x6_1))+(((bt a0 x7_1) - 48) % 256))),(wrap64 (x7_1+1)),(by first|rfl|(simp;done)|(simp[*];done)),(by first|rfl|(simp;done)|(simp[*];done)),H',⟨by have:=HK1.out;have:=HJ3.out;omega⟩,⟨by repeat (first|(with_reducible first|exact HB.out|apply zAb|apply zAa|apply zAc)|exact HB.out)⟩⟩
        ·rw[if_neg c15] at H
         exact absurd H (by simp)
       ·rw[if_neg c14] at H
        exact absurd H (by simp)
   ·rw[if_neg c3] at H
    have c3b0:decide (x7_1 < (a0.size:Int))=false:=decide_eq_false c3
    clear c3
    simp only[Option.some.injEq,Prod.mk.injEq] at H
    obtain⟨rfl,rfl⟩:=H
    go_wp2
    go_ret2
    exact⟨by first|rfl|(simp[errW_none,errW_some]<;>rfl)|(simp[*,errW_none,errW_some]<;>rfl),by repeat (first|(with_reducible first|exact HB.out|apply zAb|apply zAa|apply zAc)|exact HB.out)⟩
def gleberef1_four.l0:Nat→List ByteArray→Int→Int→Option (Int×Bool)
 |0,_,_,_=>none
 |k+1,x4,x5,x6=>if x6 < 4 then(if 0≤x6 then(if x6 < (x4.length:Int) then((gleberef1_Num.f k (zB5 ByteArray.empty x4 x6) 255).bind fun bt149=>(if bt149.2=true then(gleberef1_four.l0 k x4 (Go.bits .or .u64 (IntKind.u64.wrap (x5 * 256)) bt149.1) (wrap64 (x6+1))) else(some (0,false)))) else(none)) else(none)) else(some (x5,true))
def gleberef1_four.f (k:Nat)(a0:ByteArray):Option (Int×Bool):=(gleberef1_Split.f k a0 46).bind fun t145=>(if(t145.length:Int)=4 then(gleberef1_four.l0 k t145 0 0) else(some (0,false)))
set_option maxRecDepth 100000 in
theorem gleberef1_four.calls (k:Nat)(a0:ByteArray)(r1:Int)(r2:Bool)(w:World)(hG:GoodW w)(h:gleberef1_four.f k a0=some (r1,r2)):
  Calls Tryz.prog 87 #[.string a0] w fun e w'=>e=.returned (.tuple #[.int .u64 r1,.bool r2])∧Below w.heap.size w w':=by
 have HB:=Aside0.mk (Below.refl w.heap.size w)
 have H:=h
 unfold gleberef1_four.f at H
 clear h
 replace H:=Option.bind_eq_some_iff.mp H
 obtain⟨t145,A20,H⟩:=H
 try dsimp only at H
 have A2:=Aside0.mk A20
 clear A20
 by_cases c3:(t145.length:Int)=4
 ·rw[if_pos c3] at H
  have c3b0:((t145.length:Int)==4)=true:=beq_iff_eq.mpr c3
  have c3b1:((t145.length:Int) != 4)=false:=bne_eq_false_iff_eq.mpr c3
  clear c3
  have H':=Aside0.mk H
  clear H
  go_enter Tryz.func87,Tryz.ntmps87
  go_wp2_with (first|((with_reducible refine zAu (f:=79) rfl ?_);refine zCa (some 10) rfl rfl Tryz.func79 (by kernel_rfl) rfl #[.string a0,.int .u8 46] rfl (by(try simp only[List.map_toArray,List.map_cons,List.map_nil]);first|done|rfl|(simp only[List.length_drop,List.length_take];rfl)) ?_;(with_reducible refine(gleberef1_Split.calls k a0 46 t145 _ ?side1 A2.out).mono ?_);(case side1=>first|exact hG|exact GoodW.below hG (by repeat (first|(with_reducible first|exact HB.out|apply zAb|apply zAa|apply zAc)|exact HB.out))|(repeat (first|exact hG|apply GoodW.drewN|apply GoodW.drew)));rintro e w4 ⟨v146,rfl,ho0,hb⟩;refine⟨_,rfl,?_⟩;have n0_:=Aside0.mk (Kd.R_lower ho0 (zAp (by repeat (first|(with_reducible first|exact HB.out|apply zAb|apply zAa|apply zAc)|exact HB.out))));have n1_:=Aside0.mk (zAi (by repeat (first|(with_reducible first|exact HB.out|apply zAb|apply zAa|apply zAc)|exact HB.out)) hb);clear HB;have HO147:=n0_;have HB:=n1_;clear n0_ n1_;(try clear hb);(try clear hb2);(try clear hk);(try clear hi);(try clear ho0);obtain⟨Ao5,co5,eo5⟩:=Kd.R_slice HO147.out;subst eo5))
  go_loopg [5,6] k (fun kq v5 v6 w'=>∃ (x5_1:Int) (x6_1:Int),v5=.int .u64 x5_1∧v6=.int .i64 x6_1∧Aside0 (gleberef1_four.l0 kq t145 x5_1 x6_1=some (r1,r2))∧Aside0 (kq≤k)∧Aside0 (Kd.R Kd.string 9 w' w.heap.size (fun _=>True) (.slice Ao5 t145.length co5) t145)∧Aside0 (Below w.heap.size w w'))
  case atStart=>exact⟨(0),(0),(by first|rfl|(simp;done)|(simp[*];done)),(by first|rfl|(simp;done)|(simp[*];done)),H',⟨Nat.le_refl _⟩,⟨by(with_reducible repeat (first|apply Kd.R_alloc|apply Kd.R_drewN|apply Kd.R_drew));exact HO147.out⟩,⟨by repeat (first|(with_reducible first|exact HB.out|apply zAb|apply zAa|apply zAc)|exact HB.out)⟩⟩
  case round=>
   clear H'
   try clear p2
   try clear c3
   try clear c3b0
   try clear c3b1
   obtain⟨x5_1,x6_1,rfl,rfl,HA,HK1,HO_4,HB⟩:=hrel
   cases gk with
   |zero=>exact absurd HA.out (by simp[gleberef1_four.l0])
   |succ k1=>
    have H:=HA.out
    clear HA
    simp only[gleberef1_four.l0] at H
    by_cases c6:x6_1 < 4
    ·rw[if_pos c6] at H
     have c6b0:=decide_eq_true c6
     clear c6
     by_cases c7:0≤x6_1
     ·rw[if_pos c7] at H
      have c7b0:=decide_eq_true c7
      clear c7
      by_cases c8:x6_1 < (t145.length:Int)
      ·rw[if_pos c8] at H
       have c8b0:=decide_eq_true c8
       clear c8
       replace H:=Option.bind_eq_some_iff.mp H
       obtain⟨⟨t149,t150⟩,A90,H⟩:=H
       try dsimp only at H
       have A9:=Aside0.mk A90
       clear A90
       by_cases c10:t150=true
       ·subst c10
        have H1:=H
        rw[if_pos rfl] at H1
        clear H
        have H:=H1
        clear H1
        have H':=Aside0.mk H
        clear H
        have p148:0≤(x6_1:Int):=of_decide_eq_true (by first|(with_reducible assumption)|assumption)
        have q148:x6_1 < (t145.length:Int):=of_decide_eq_true (by first|(with_reducible assumption)|assumption)
        obtain⟨ad148,e148,hx148_0⟩:=Kd.at_string (Kd.R_reads' HO_4.out).2.2 x6_1 p148 q148
        cases e148
        replace p148:=eq_true p148
        replace q148:=eq_true q148
        go_wp2_with (first|((with_reducible refine zAu (f:=64) rfl ?_);refine zCa (some 23) rfl rfl Tryz.func64 (by kernel_rfl) rfl #[.string (zB5 ByteArray.empty t145 x6_1),.int .u64 255] rfl (by(try simp only[List.map_toArray,List.map_cons,List.map_nil]);first|done|rfl|(simp only[List.length_drop,List.length_take];rfl)) ?_;(with_reducible refine(gleberef1_Num.calls k1 (zB5 ByteArray.empty t145 x6_1) 255 t149 true _ ?side1 A9.out).mono ?_);(case side1=>first|exact hG|exact GoodW.below hG (by repeat (first|(with_reducible first|exact HB.out|apply zAb|apply zAa|apply zAc)|exact HB.out))|(repeat (first|exact hG|apply GoodW.drewN|apply GoodW.drew)));rintro e w11 ⟨rfl,hb⟩;refine⟨_,rfl,?_⟩;have n0_:=Aside0.mk (Kd.R_below (by(with_reducible repeat (first|apply Kd.R_alloc|apply Kd.R_drewN|apply Kd.R_drew));exact HO_4.out) hb);have n1_:=Aside0.mk (zAi (by repeat (first|(with_reducible first|exact HB.out|apply zAb|apply zAa|apply zAc)|exact HB.out)) hb);clear HO_4;clear HB;have HO_4:=n0_;have HB:=n1_;clear n0_ n1_;(try clear hb);(try clear hb2);(try clear hk);(try clear hi)))
        go_roundg k1
        case measure=>have:=HK1.out;omega
        case rel=>exact⟨(Go.bits .or .u64 (IntKind.u64.wrap (x5_1 * 256)) t149),(wrap64 (x6_1+1)),(by first|rfl|(simp;done)|(simp[*];done)),(by first|rfl|(simp;done)|(simp[*];done)),H',⟨by have:=HK1.out;omega⟩,⟨by(with_reducible repeat (first|apply Kd.R_alloc|apply Kd.R_drewN|apply Kd.R_drew));exact HO_4.out⟩,⟨by repeat (first|(with_reducible first|exact HB.out|apply zAb|apply zAa|apply zAc)|exact HB.out)⟩⟩
       ·replace c10:=Bool.eq_false_iff.mpr c10
        subst c10
        have H1:(some (0,false))=some (r1,r2):=by rw[if_neg (show ¬ (false=true) by decide)] at H;exact H
        clear H
        have H:=H1
        clear H1
        simp only[Option.some.injEq,Prod.mk.injEq] at H
        obtain⟨rfl,rfl⟩:=H
        have p148:0≤(x6_1:Int):=of_decide_eq_true (by first|(with_reducible assumption)|assumption)
        have q148:x6_1 < (t145.length:Int):=of_decide_eq_true (by first|(with_reducible assumption)|assumption)
        obtain⟨ad148,e148,hx148_0⟩:=Kd.at_string (Kd.R_reads' HO_4.out).2.2 x6_1 p148 q148
        cases e148
        replace p148:=eq_true p148
        replace q148:=eq_true q148
        go_wp2_with (first|((with_reducible refine zAu (f:=64) rfl ?_);refine zCa (some 23) rfl rfl Tryz.func64 (by kernel_rfl) rfl #[.string (zB5 ByteArray.empty t145 x6_1),.int .u64 255] rfl (by(try simp only[List.map_toArray,List.map_cons,List.map_nil]);first|done|rfl|(simp only[List.length_drop,List.length_take];rfl)) ?_;(with_reducible refine(gleberef1_Num.calls k1 (zB5 ByteArray.empty t145 x6_1) 255 t149 false _ ?side1 A9.out).mono ?_);(case side1=>first|exact hG|exact GoodW.below hG (by repeat (first|(with_reducible first|exact HB.out|apply zAb|apply zAa|apply zAc)|exact HB.out))|(repeat (first|exact hG|apply GoodW.drewN|apply GoodW.drew)));rintro e w12 ⟨rfl,hb⟩;refine⟨_,rfl,?_⟩;have n0_:=Aside0.mk (Kd.R_below (by(with_reducible repeat (first|apply Kd.R_alloc|apply Kd.R_drewN|apply Kd.R_drew));exact HO_4.out) hb);have n1_:=Aside0.mk (zAi (by repeat (first|(with_reducible first|exact HB.out|apply zAb|apply zAa|apply zAc)|exact HB.out)) hb);clear HO_4;clear HB;have HO_4:=n0_;have HB:=n1_;clear n0_ n1_;(try clear hb);(try clear hb2);(try clear hk);(try clear hi)))
        go_ret2
        exact⟨by first|rfl|(simp[errW_none,errW_some]<;>rfl)|(simp[*,errW_none,errW_some]<;>rfl),by repeat (first|(with_reducible first|exact HB.out|apply zAb|apply zAa|apply zAc)|exact HB.out)⟩
      ·rw[if_neg c8] at H
       exact absurd H (by simp)
     ·rw[if_neg c7] at H
      exact absurd H (by simp)
    ·rw[if_neg c6] at H
     have c6b0:decide (x6_1 < 4)=false:=decide_eq_false c6
     clear c6
     simp only[Option.some.injEq,Prod.mk.injEq] at H
     obtain⟨rfl,rfl⟩:=H
     go_wp2
     go_ret2
     exact⟨by first|rfl|(simp[errW_none,errW_some]<;>rfl)|(simp[*,errW_none,errW_some]<;>rfl),by repeat (first|(with_reducible first|exact HB.out|apply zAb|apply zAa|apply zAc)|exact HB.out)⟩
 ·rw[if_neg c3] at H
  have c3b0:((t145.length:Int)==4)=false:=beq_eq_false_iff_ne.mpr c3
  have c3b1:((t145.length:Int) != 4)=true:=bne_iff_ne.mpr c3
  simp only[Option.some.injEq,Prod.mk.injEq] at H
  obtain⟨rfl,rfl⟩:=H
  go_enter Tryz.func87,Tryz.ntmps87
  go_wp2_with (first|((with_reducible refine zAu (f:=79) rfl ?_);refine zCa (some 10) rfl rfl Tryz.func79 (by kernel_rfl) rfl #[.string a0,.int .u8 46] rfl (by(try simp only[List.map_toArray,List.map_cons,List.map_nil]);first|done|rfl|(simp only[List.length_drop,List.length_take];rfl)) ?_;(with_reducible refine(gleberef1_Split.calls k a0 46 t145 _ ?side1 A2.out).mono ?_);(case side1=>first|exact hG|exact GoodW.below hG (by repeat (first|(with_reducible first|exact HB.out|apply zAb|apply zAa|apply zAc)|exact HB.out))|(repeat (first|exact hG|apply GoodW.drewN|apply GoodW.drew)));rintro e w13 ⟨v146,rfl,ho0,hb⟩;refine⟨_,rfl,?_⟩;have n0_:=Aside0.mk (Kd.R_lower ho0 (zAp (by repeat (first|(with_reducible first|exact HB.out|apply zAb|apply zAa|apply zAc)|exact HB.out))));have n1_:=Aside0.mk (zAi (by repeat (first|(with_reducible first|exact HB.out|apply zAb|apply zAa|apply zAc)|exact HB.out)) hb);clear HB;have HO147:=n0_;have HB:=n1_;clear n0_ n1_;(try clear hb);(try clear hb2);(try clear hk);(try clear hi);(try clear ho0);obtain⟨Ao14,co14,eo14⟩:=Kd.R_slice HO147.out;subst eo14))
  go_ret2
  exact⟨by first|rfl|(simp[errW_none,errW_some]<;>rfl)|(simp[*,errW_none,errW_some]<;>rfl),by repeat (first|(with_reducible first|exact HB.out|apply zAb|apply zAa|apply zAc)|exact HB.out)⟩
mutual
def gleberef1_Hex.j0:Nat→Int→Bool→Option (Int)
 |0,_,_=>none
 |k+1,x0,x3=>if x3=true then(some ((x0 - 48) % 256)) else(if x0 ≥ 97 then(gleberef1_Hex.j1 k x0 (decide (x0≤102))) else(gleberef1_Hex.j1 k x0 false))
def gleberef1_Hex.j1:Nat→Int→Bool→Option (Int)
 |0,_,_=>none
 |k+1,x0,x13=>if x13=true then(some (((x0 - 97) % 256)+10)) else(if x0 ≥ 65 then(if x0≤70 then(some (((x0 - 65) % 256)+10)) else(some (-1))) else(some (-1)))
end
def gleberef1_Hex.f (k:Nat)(a0:Int):Option (Int):=if a0 ≥ 48 then(gleberef1_Hex.j0 k a0 (decide (a0≤57))) else(gleberef1_Hex.j0 k a0 false)
set_option maxRecDepth 100000 in
theorem gleberef1_Hex.calls (k:Nat)(a0:Int)(r:Int)(w:World)(hG:GoodW w)(h:gleberef1_Hex.f k a0=some r):
  Calls Tryz.prog 104 #[.int .u8 a0] w fun e w'=>e=.returned (.int .i64 r)∧Drawn0 w w':=by
 have H:=h
 unfold gleberef1_Hex.f at H
 clear h
 have HC2:=Aside0.mk H
 clear H
 go_enter Tryz.func104,Tryz.ntmps104
 go_upto_region 1 with(fail)
 go_cut [3] (fun v3 wc=>∃ (kq:Nat) (x3_1:Bool),v3=.bool x3_1∧Aside0 (gleberef1_Hex.j0 kq a0 x3_1=some r)∧Aside0 (kq≤k)∧Drawn0 w wc)
 case first=>
  have H:=HC2.out
  clear HC2
  by_cases c3:a0 ≥ 48
  ·rw[if_pos c3] at H
   have c3b0:=decide_eq_true c3
   clear c3
   (first|rw[c3b0]|(simp only[zG1,zIy];rw[c3b0])|skip)
   have H':=Aside0.mk H
   clear H
   go_wp2
   go_meet
   case rel=>exact⟨_,(decide (a0≤57)),(by first|rfl|(simp;done)|(simp[*];done)),H',⟨by first|omega|exact Nat.le_refl _⟩,by repeat (first|exact Drawn0.refl _|apply Drawn0.step)⟩
  ·rw[if_neg c3] at H
   have c3b0:decide (48≤a0)=false:=decide_eq_false c3
   clear c3
   (first|rw[c3b0]|(simp only[zG1,zIy];rw[c3b0])|skip)
   have H':=Aside0.mk H
   clear H
   go_wp2
   go_meet
   case rel=>exact⟨_,(false),(by first|rfl|(simp;done)|(simp[*];done)),H',⟨by first|omega|exact Nat.le_refl _⟩,by repeat (first|exact Drawn0.refl _|apply Drawn0.step)⟩
 case rest=>
  clear HC2
  try clear c1
  try clear p2
  try clear c3
  try clear c3b0
  obtain⟨kq,x3_1,rfl,HA,HJ1,⟨mc1,rfl⟩⟩:=hcut
  cases kq with
  |zero=>exact absurd HA.out (by simp[gleberef1_Hex.j0])
  |succ kj1=>
   have H:=HA.out
   clear HA
   simp only[gleberef1_Hex.j0] at H
   by_cases c4:x3_1=true
   ·subst c4
    have H1:=H
    rw[if_pos rfl] at H1
    clear H
    have H:=H1
    clear H1
    obtain rfl:=Option.some.inj H
    go_wp2
    go_ret
    exact⟨by first|rfl|(simp;done)|(simp[*];done),by repeat (first|exact Drawn0.refl _|apply Drawn0.step)⟩
   ·replace c4:=Bool.eq_false_iff.mpr c4
    subst c4
    have H1:(if a0 ≥ 97 then(gleberef1_Hex.j1 kj1 a0 (decide (a0≤102))) else(gleberef1_Hex.j1 kj1 a0 false))=some r:=by rw[if_neg (show ¬ (false=true) by decide)] at H;exact H
    clear H
    have H:=H1
    clear H1
    have HC5:=Aside0.mk H
    clear H
    go_upto_region 3 with(fail)
    go_cut [13] (fun v13 wc=>∃ (kq:Nat) (x13_4:Bool),v13=.bool x13_4∧Aside0 (gleberef1_Hex.j1 kq a0 x13_4=some r)∧Aside0 (kq≤kj1)∧Drawn0 w wc)
    case first=>
     have H:=HC5.out
     clear HC5
     by_cases c6:a0 ≥ 97
     ·rw[if_pos c6] at H
      have c6b0:=decide_eq_true c6
      clear c6
      (first|rw[c6b0]|(simp only[zG1,zIy];rw[c6b0])|skip)
      have H':=Aside0.mk H
      clear H
      go_wp2
      go_meet
      case rel=>exact⟨_,(decide (a0≤102)),(by first|rfl|(simp;done)|(simp[*];done)),H',⟨by have:=HJ1.out;first|omega|exact Nat.le_refl _⟩,by repeat (first|exact Drawn0.refl _|apply Drawn0.step)⟩
     ·rw[if_neg c6] at H
      have c6b0:decide (97≤a0)=false:=decide_eq_false c6
      clear c6
      (first|rw[c6b0]|(simp only[zG1,zIy];rw[c6b0])|skip)
      have H':=Aside0.mk H
      clear H
      go_wp2
      go_meet
      case rel=>exact⟨_,(false),(by first|rfl|(simp;done)|(simp[*];done)),H',⟨by have:=HJ1.out;first|omega|exact Nat.le_refl _⟩,by repeat (first|exact Drawn0.refl _|apply Drawn0.step)⟩
    case rest=>
     clear HC5
     try clear c1
     try clear p2
     try clear c3
     try clear c3b0
     try clear c4
     try clear c6
     try clear c6b0
     try clear p2
     obtain⟨kq,x13_4,rfl,HA,HJ4,⟨mc4,rfl⟩⟩:=hcut
     cases kq with
     |zero=>exact absurd HA.out (by simp[gleberef1_Hex.j1])
     |succ kj4=>
      have H:=HA.out
      clear HA
      simp only[gleberef1_Hex.j1] at H
      by_cases c7:x13_4=true
      ·subst c7
       have H1:=H
       rw[if_pos rfl] at H1
       clear H
       have H:=H1
       clear H1
       obtain rfl:=Option.some.inj H
       go_wp2
       go_ret
       exact⟨by first|rfl|(simp;done)|(simp[*];done),by repeat (first|exact Drawn0.refl _|apply Drawn0.step)⟩
      ·replace c7:=Bool.eq_false_iff.mpr c7
       subst c7
       have H1:(if a0 ≥ 65 then(if a0≤70 then(some (((a0 - 65) % 256)+10)) else(some (-1))) else(some (-1)))=some r:=by rw[if_neg (show ¬ (false=true) by decide)] at H;exact H
       clear H
       have H:=H1
       clear H1
       by_cases c8:a0 ≥ 65
       ·rw[if_pos c8] at H
        have c8b0:=decide_eq_true c8
        clear c8
        by_cases c9:a0≤70
        ·rw[if_pos c9] at H
         have c9b0:=decide_eq_true c9
         clear c9
         obtain rfl:=Option.some.inj H
         go_wp2
         go_ret
         exact⟨by first|rfl|(simp;done)|(simp[*];done),by repeat (first|exact Drawn0.refl _|apply Drawn0.step)⟩
        ·rw[if_neg c9] at H
         have c9b0:decide (a0≤70)=false:=decide_eq_false c9
         clear c9
         obtain rfl:=Option.some.inj H
         go_wp2
         go_ret
         exact⟨by first|rfl|(simp;done)|(simp[*];done),by repeat (first|exact Drawn0.refl _|apply Drawn0.step)⟩
       ·rw[if_neg c8] at H
        have c8b0:decide (65≤a0)=false:=decide_eq_false c8
        clear c8
        obtain rfl:=Option.some.inj H
        go_wp2
        go_ret
        exact⟨by first|rfl|(simp;done)|(simp[*];done),by repeat (first|exact Drawn0.refl _|apply Drawn0.step)⟩
mutual
def gleberef1_groups.l0:Nat→Bool→List Int→List ByteArray→Int→Option (List Int×Bool)
 |0,_,_,_,_=>none
 |k+1,x1,x6,x7,x8=>if x8 < (x7.length:Int) then(if 0≤x8 then((gleberef1_four.f k (zB5 ByteArray.empty x7 x8)).bind fun bt155=>(if bt155.2=true then(if x1=true then(gleberef1_groups.j1 k x1 x6 x7 x8 bt155.1 (x8==(wrap64 ((x7.length:Int) - 1)))) else(gleberef1_groups.j1 k x1 x6 x7 x8 bt155.1 false)) else(gleberef1_groups.j1 k x1 x6 x7 x8 bt155.1 false))) else(none)) else(some (x6,true))
def gleberef1_groups.j1:Nat→Bool→List Int→List ByteArray→Int→Int→Bool→Option (List Int×Bool)
 |0,_,_,_,_,_,_=>none
 |k+1,x1,x6,x7,x8,x9,x42=>if x42=true then((some (([x9 / 65536,Go.bits .and .u64 x9 65535]:List Int):List Int)).bind fun y157=>(if x6.length+y157.length < 17592186044416 then(gleberef1_groups.l0 k x1 (x6++y157) x7 (wrap64 (x8+1))) else(none))) else(if 0≤x8 then(if x8 < (x7.length:Int) then(if((zB5 ByteArray.empty x7 x8).size:Int) < 1 then(gleberef1_groups.j2 k x1 x6 x7 x8 true) else(gleberef1_groups.j2 k x1 x6 x7 x8 (decide (((zB5 ByteArray.empty x7 x8).size:Int) > 4)))) else(none)) else(none))
def gleberef1_groups.j2:Nat→Bool→List Int→List ByteArray→Int→Bool→Option (List Int×Bool)
 |0,_,_,_,_,_=>none
 |k+1,x1,x6,x7,x8,x63=>if x63=true then(some (([]:List Int),false)) else(gleberef1_groups.l1 k x1 x6 x7 x8 0 0)
def gleberef1_groups.l1:Nat→Bool→List Int→List ByteArray→Int→Int→Int→Option (List Int×Bool)
 |0,_,_,_,_,_,_=>none
 |k+1,x1,x6,x7,x8,x11,x12=>if 0≤x8 then(if x8 < (x7.length:Int) then(if x12 < ((zB5 ByteArray.empty x7 x8).size:Int) then(if 0≤x12 then((gleberef1_Hex.f k (bt (zB5 ByteArray.empty x7 x8) x12)).bind fun t167=>(if t167 < 0 then(some (([]:List Int),false)) else(gleberef1_groups.l1 k x1 x6 x7 x8 (Go.bits .or .u64 (IntKind.u64.wrap (x11 * 16)) (IntKind.u64.wrap (t167))) (wrap64 (x12+1))))) else(none)) else(if x6.length < 17592186044416 then(gleberef1_groups.l0 k x1 (x6++[x11]) x7 (wrap64 (x8+1))) else(none))) else(none)) else(none)
end
def gleberef1_groups.f (k:Nat)(a0:ByteArray)(a1:Bool):Option (List Int×Bool):=if a0.toList=([]:List UInt8) then(some (([]:List Int),true)) else((gleberef1_Split.f k a0 58).bind fun t151=>(gleberef1_groups.l0 k a1 ([]:List Int) t151 0))
set_option maxRecDepth 100000 in
theorem gleberef1_groups.calls (k:Nat)(a0:ByteArray)(a1:Bool)(r1:List Int)(r2:Bool)(w:World)(hG:GoodW w)(h:gleberef1_groups.f k a0 a1=some (r1,r2)):
  Calls Tryz.prog 89 #[.string a0,.bool a1] w fun e w'=>∃ v0_:Value,e=.returned (.tuple #[v0_,.bool r2])∧Kd.R (Kd.int .u64) 23 w' w.heap.size (fun _=>True) v0_ r1∧Below w.heap.size w w':=by
 have HB:=Aside0.mk (Below.refl w.heap.size w)
 have H:=h
 unfold gleberef1_groups.f at H
 clear h
 by_cases c3:a0.toList=([]:List UInt8)
 ·rw[if_pos c3] at H
  have c3b0:(a0.toList==([]:List UInt8))=true:=beq_iff_eq.mpr c3
  have c3b1:(a0.toList != ([]:List UInt8))=false:=bne_eq_false_iff_eq.mpr c3
  clear c3
  simp only[Option.some.injEq,Prod.mk.injEq] at H
  obtain⟨rfl,rfl⟩:=H
  go_enter Tryz.func89,Tryz.ntmps89
  go_wp2
  go_ret2
  exact⟨_,by first|rfl|(simp[errW_none,errW_some]<;>rfl)|(simp[*,errW_none,errW_some]<;>rfl),by first|exact Kd.R_nil _ _ _ _ _|exact Kd.N_nil _ _ _ _ _|exact Kd.V_nil _ _ _ _ _|exact Kd.Q_nil _ _ _ _ _|exact Kd.S_nil _ _ _ _ _,by repeat (first|(with_reducible first|exact HB.out|apply zAb|apply zAa|apply zAc)|exact HB.out)⟩
 ·rw[if_neg c3] at H
  have c3b0:(a0.toList==([]:List UInt8))=false:=beq_eq_false_iff_ne.mpr c3
  have c3b1:(a0.toList != ([]:List UInt8))=true:=bne_iff_ne.mpr c3
  replace H:=Option.bind_eq_some_iff.mp H
  obtain⟨t151,A40,H⟩:=H
  try dsimp only at H
  have A4:=Aside0.mk A40
  clear A40
  have H':=Aside0.mk H
  clear H
  go_enter Tryz.func89,Tryz.ntmps89
  go_wp2_with (first|((with_reducible refine zAu (f:=79) rfl ?_);refine zCa (some 17) rfl rfl Tryz.func79 (by kernel_rfl) rfl #[.string a0,.int .u8 58] rfl (by(try simp only[List.map_toArray,List.map_cons,List.map_nil]);first|done|rfl|(simp only[List.length_drop,List.length_take];rfl)) ?_;(with_reducible refine(gleberef1_Split.calls k a0 58 t151 _ ?side1 A4.out).mono ?_);(case side1=>first|exact hG|exact GoodW.below hG (by repeat (first|(with_reducible first|exact HB.out|apply zAb|apply zAa|apply zAc)|exact HB.out))|(repeat (first|exact hG|apply GoodW.drewN|apply GoodW.drew)));rintro e w5 ⟨v152,rfl,ho0,hb⟩;refine⟨_,rfl,?_⟩;have n0_:=Aside0.mk (Kd.R_lower ho0 (zAp (by repeat (first|(with_reducible first|exact HB.out|apply zAb|apply zAa|apply zAc)|exact HB.out))));have n1_:=Aside0.mk (zAi (by repeat (first|(with_reducible first|exact HB.out|apply zAb|apply zAa|apply zAc)|exact HB.out)) hb);clear HB;have HO153:=n0_;have HB:=n1_;clear n0_ n1_;(try clear hb);(try clear hb2);(try clear hk);(try clear hi);(try clear ho0)))
  go_loopg [6,8] k (fun kq v6 v8 w'=>∃ (x6_1:List Int) (x8_1:Int),v8=.int .i64 x8_1∧Aside0 (gleberef1_groups.l0 kq a1 x6_1 t151 x8_1=some (r1,r2))∧Aside0 (kq≤k)∧Aside0 (Kd.R (Kd.int .u64) 23 w' w.heap.size (fun _=>True) v6 x6_1)∧Aside0 (Kd.R Kd.string 9 w' w.heap.size (fun _=>True) v152 t151)∧Aside0 (Below w.heap.size w w'))
  case atStart=>exact⟨(([]:List Int)),(0),(by first|rfl|(simp;done)|(simp[*];done)),H',⟨Nat.le_refl _⟩,⟨by first|exact Kd.R_nil _ _ _ _ _|exact Kd.N_nil _ _ _ _ _|exact Kd.V_nil _ _ _ _ _|exact Kd.Q_nil _ _ _ _ _|exact Kd.S_nil _ _ _ _ _⟩,⟨by(with_reducible repeat (first|apply Kd.R_alloc|apply Kd.R_drewN|apply Kd.R_drew));exact HO153.out⟩,⟨by repeat (first|(with_reducible first|exact HB.out|apply zAb|apply zAa|apply zAc)|exact HB.out)⟩⟩
  case round=>
   clear H'
   try clear p2
   try clear c3
   try clear c3b0
   try clear c3b1
   obtain⟨x6_1,x8_1,rfl,HA,HK1,HO_6,HO_7,HB⟩:=hrel
   cases gk with
   |zero=>exact absurd HA.out (by simp[gleberef1_groups.l0])
   |succ k1=>
    have H:=HA.out
    clear HA
    simp only[gleberef1_groups.l0] at H
    by_cases c6:x8_1 < (t151.length:Int)
    ·rw[if_pos c6] at H
     have c6b0:=decide_eq_true c6
     clear c6
     by_cases c7:0≤x8_1
     ·rw[if_pos c7] at H
      have c7b0:=decide_eq_true c7
      clear c7
      replace H:=Option.bind_eq_some_iff.mp H
      obtain⟨⟨t155,t156⟩,A80,H⟩:=H
      try dsimp only at H
      have A8:=Aside0.mk A80
      clear A80
      have HC9:=Aside0.mk H
      clear H
      obtain⟨Ao10,co10,eo10⟩:=Kd.R_slice HO_7.out
      subst eo10
      have p154:0≤(x8_1:Int):=of_decide_eq_true (by first|(with_reducible assumption)|assumption)
      have q154:x8_1 < (t151.length:Int):=of_decide_eq_true (by first|(with_reducible assumption)|assumption)
      obtain⟨ad154,e154,hx154_0⟩:=Kd.at_string (Kd.R_reads' HO_7.out).2.2 x8_1 p154 q154
      cases e154
      replace p154:=eq_true p154
      replace q154:=eq_true q154
      go_upto_region 9 with(first|((with_reducible refine zAu (f:=87) rfl ?_);refine zCa (some 29) rfl rfl Tryz.func87 (by kernel_rfl) rfl #[.string (zB5 ByteArray.empty t151 x8_1)] rfl (by(try simp only[List.map_toArray,List.map_cons,List.map_nil]);first|done|rfl|(simp only[List.length_drop,List.length_take];rfl)) ?_;(with_reducible refine(gleberef1_four.calls k1 (zB5 ByteArray.empty t151 x8_1) t155 t156 _ ?side1 A8.out).mono ?_);(case side1=>first|exact hG|exact GoodW.below hG (by repeat (first|(with_reducible first|exact HB.out|apply zAb|apply zAa|apply zAc)|exact HB.out))|(repeat (first|exact hG|apply GoodW.drewN|apply GoodW.drew)));rintro e w11 ⟨rfl,hb⟩;refine⟨_,rfl,?_⟩;have n0_:=Aside0.mk (Kd.R_below (by(with_reducible repeat (first|apply Kd.R_alloc|apply Kd.R_drewN|apply Kd.R_drew));exact HO_6.out) hb);have n1_:=Aside0.mk (Kd.R_below (by(with_reducible repeat (first|apply Kd.R_alloc|apply Kd.R_drewN|apply Kd.R_drew));exact HO_7.out) hb);have n2_:=Aside0.mk (zAi (by repeat (first|(with_reducible first|exact HB.out|apply zAb|apply zAa|apply zAc)|exact HB.out)) hb);clear HO_6;clear HO_7;clear HB;have HO_6:=n0_;have HO_7:=n1_;have HB:=n2_;clear n0_ n1_ n2_;(try clear hb);(try clear hb2);(try clear hk);(try clear hi)))
      (try simp only[Act.put,List.setIfInBounds_toArray,List.set_cons_zero,List.set_cons_succ])
      go_cut [42] (fun v42 wc=>∃ (kq:Nat) (x42_8:Bool),v42=.bool x42_8∧Aside0 (gleberef1_groups.j1 kq a1 x6_1 t151 x8_1 t155 x42_8=some (r1,r2))∧Aside0 (kq≤k1)∧Aside0 (Kd.R (Kd.int .u64) 23 wc w.heap.size (fun _=>True) u6 x6_1)∧Aside0 (Kd.R Kd.string 9 wc w.heap.size (fun _=>True) (.slice (some ad154) t151.length co10) t151)∧Aside0 (Below w.heap.size w wc))
      case first=>
       have H:=HC9.out
       clear HC9
       by_cases c12:t156=true
       ·subst c12
        have H1:=H
        rw[if_pos rfl] at H1
        clear H
        have H:=H1
        clear H1
        by_cases c13:a1=true
        ·subst c13
         have H1:=H
         rw[if_pos rfl] at H1
         clear H
         have H:=H1
         clear H1
         have H':=Aside0.mk H
         clear H
         go_wp2
         go_meet
         case rel=>exact⟨_,((x8_1==(wrap64 ((t151.length:Int) - 1)))),(by first|rfl|(simp;done)|(simp[*];done)),H',⟨by have:=HK1.out;first|omega|exact Nat.le_refl _⟩,⟨by(with_reducible repeat (first|apply Kd.R_alloc|apply Kd.R_drewN|apply Kd.R_drew));exact HO_6.out⟩,⟨by(with_reducible repeat (first|apply Kd.R_alloc|apply Kd.R_drewN|apply Kd.R_drew));exact HO_7.out⟩,⟨by repeat (first|(with_reducible first|exact HB.out|apply zAb|apply zAa|apply zAc)|exact HB.out)⟩⟩
        ·replace c13:=Bool.eq_false_iff.mpr c13
         subst c13
         have H1:(gleberef1_groups.j1 k1 false x6_1 t151 x8_1 t155 false)=some (r1,r2):=by rw[if_neg (show ¬ (false=true) by decide)] at H;exact H
         clear H
         have H:=H1
         clear H1
         have H':=Aside0.mk H
         clear H
         go_wp2
         go_meet
         case rel=>exact⟨_,(false),(by first|rfl|(simp;done)|(simp[*];done)),H',⟨by have:=HK1.out;first|omega|exact Nat.le_refl _⟩,⟨by(with_reducible repeat (first|apply Kd.R_alloc|apply Kd.R_drewN|apply Kd.R_drew));exact HO_6.out⟩,⟨by(with_reducible repeat (first|apply Kd.R_alloc|apply Kd.R_drewN|apply Kd.R_drew));exact HO_7.out⟩,⟨by repeat (first|(with_reducible first|exact HB.out|apply zAb|apply zAa|apply zAc)|exact HB.out)⟩⟩
       ·replace c12:=Bool.eq_false_iff.mpr c12
        subst c12
        have H1:(gleberef1_groups.j1 k1 a1 x6_1 t151 x8_1 t155 false)=some (r1,r2):=by rw[if_neg (show ¬ (false=true) by decide)] at H;exact H
        clear H
        have H:=H1
        clear H1
        have H':=Aside0.mk H
        clear H
        go_wp2
        go_meet
        case rel=>exact⟨_,(false),(by first|rfl|(simp;done)|(simp[*];done)),H',⟨by have:=HK1.out;first|omega|exact Nat.le_refl _⟩,⟨by(with_reducible repeat (first|apply Kd.R_alloc|apply Kd.R_drewN|apply Kd.R_drew));exact HO_6.out⟩,⟨by(with_reducible repeat (first|apply Kd.R_alloc|apply Kd.R_drewN|apply Kd.R_drew));exact HO_7.out⟩,⟨by repeat (first|(with_reducible first|exact HB.out|apply zAb|apply zAa|apply zAc)|exact HB.out)⟩⟩
      case rest=>
       clear HC9
       try clear c1
       try clear p1
       try clear q1
       try clear hx1
       try clear p2
       try clear c3
       try clear c3b0
       try clear c3b1
       try clear c6
       try clear c6b0
       try clear p6
       try clear c7
       try clear c7b0
       try clear c8
       try clear c12
       try clear c13
       try clear hx154_0
       try clear p154
       try clear p2
       try clear q154
       obtain⟨kq,x42_8,rfl,HA,HJ8,HO_6,HO_7,HB⟩:=hcut
       cases kq with
       |zero=>exact absurd HA.out (by simp[gleberef1_groups.j1])
       |succ kj8=>
        have H:=HA.out
        clear HA
        simp only[gleberef1_groups.j1] at H
        by_cases c14:x42_8=true
        ·subst c14
         have H1:=H
         rw[if_pos rfl] at H1
         clear H
         have H:=H1
         clear H1
         obtain⟨y157,hy157⟩:∃ y_:List Int,y_=(([t155 / 65536,Go.bits .and .u64 t155 65535]:List Int)):=⟨_,rfl⟩
         replace H:(if x6_1.length+y157.length < 17592186044416 then(gleberef1_groups.l0 kj8 a1 (x6_1++y157) t151 (wrap64 (x8_1+1))) else(none))=some (r1,r2):=by first|(rw[hy157];with_reducible exact H)|(have H2_:=(Option.bind_some _ _).symm.trans H;rw[hy157];with_reducible exact H2_)|(have H2_:=(Option.bind_some _ _).symm.trans H;with_reducible exact H2_)|with_reducible exact H|(rw[hy157];exact H)|exact H
         have Ny157:=Aside0.mk hy157
         clear hy157
         by_cases c15:x6_1.length+y157.length < 17592186044416
         ·rw[if_pos c15] at H
          have LMc15:=Aside0.mk c15
          clear c15
          obtain⟨y160,hy160⟩:∃ y_:List Int,y_=(x6_1++y157):=⟨_,rfl⟩
          replace H:(gleberef1_groups.l0 kj8 a1 y160 t151 (wrap64 (x8_1+1)))=some (r1,r2):=by first|(rw[hy160];with_reducible exact H)|(have H2_:=(Option.bind_some _ _).symm.trans H;rw[hy160];with_reducible exact H2_)|(have H2_:=(Option.bind_some _ _).symm.trans H;with_reducible exact H2_)|with_reducible exact H|(rw[hy160];exact H)|exact H
          have Ny160:=Aside0.mk hy160
          clear hy160
          have H':=Aside0.mk H
          clear H
          go_wp2_with (first|((with_reducible refine zBv (N:=48) rfl ?_);(try(refine zCw (by rfl) ?_;dsimp only));refine Kd.R_lit (Kd.int .u64) _ 23 ?hg (N:=48) ?hd (xs:=([t155 / 65536,Go.bits .and .u64 t155 65535]:List Int)) (inner:=[.int .u64 (t155 / 65536),.int .u64 (Go.bits .and .u64 t155 65535)]) (ok:=fun _=>True) (okp:=fun _=>True) ?hr ?hp (fun _ hk=>hk) trivial (Below.refl _ _) (Nat.le_refl _) (by simp) ?_;(case hd=>rfl);(case hg=>rfl);(case hr=>first|(go_simp;done)|(go_simp;rfl));(case hp=>exact(Reps.one (show Kd.M (Kd.int .u64) _ _ _ (t155 / 65536) [.int .u64 (t155 / 65536)] from rfl) (Reps.one (show Kd.M (Kd.int .u64) _ _ _ (Go.bits .and .u64 t155 65535) [.int .u64 (Go.bits .and .u64 t155 65535)] from rfl) (Reps.none _ _))));intro v158 w16 ho17 hb hg_ hnew_;clear hg_ hnew_;(first|rw[← Ny157.out] at ho17|(simp only[Int.reduceToNat] at ho17;rw[← Ny157.out] at ho17));have n0_:=Aside0.mk (Kd.R_elder' (by(with_reducible repeat (first|apply Kd.R_alloc|apply Kd.R_drewN|apply Kd.R_drew));exact HO_6.out) (Kd.R_base ho17) hb);have n1_:=Aside0.mk (Kd.R_below (by(with_reducible repeat (first|apply Kd.R_alloc|apply Kd.R_drewN|apply Kd.R_drew));exact HO_7.out) hb);have n2_:=Aside0.mk (Kd.R_lower (Kd.R_new' ho17 (Kd.R_lt (by(with_reducible repeat (first|apply Kd.R_alloc|apply Kd.R_drewN|apply Kd.R_drew));exact HO_6.out))) (zAp (by repeat (first|(with_reducible first|exact HB.out|apply zAb|apply zAa|apply zAc)|exact HB.out))));have n3_:=Aside0.mk (zAi (by repeat (first|(with_reducible first|exact HB.out|apply zAb|apply zAa|apply zAc)|exact HB.out)) hb);clear HO_6;clear HO_7;clear HB;have HO_6:=n0_;have HO_7:=n1_;have HO159:=n2_;have HB:=n3_;clear n0_ n1_ n2_ n3_;clear hb ho17;obtain⟨Ao19,co19,eo19⟩:=Kd.R_slice HO159.out;subst eo19)|((with_reducible refine zCs (b:=.append) (xs:=#[.tmp 43,.tmp 48]) rfl ?_);(try(refine zCw (by rfl) ?_;dsimp only));at_builtin;refine Kd.R_append_rows (Kd.int .u64) (w0:=w) w.heap.size rfl (.tmp 43) (.tmp 48) 95 23 (.int .u64 0) 8 rfl Tryz.underlying95 info23 rfl (by decide) (by omega) u6 x6_1 y157 _ _ _ (fun k_=>some k_≠(.slice Ao19 y157.length co19:Value).ownBlock) (fun _=>False) rfl rfl ?aO ?aR (fun _ _ h=>h) (fun _ h=>h.elim) ?aF ?aB ?aS ?aL ?_;(case aR=>repeat (first|exact(Kd.R_reads' HO159.out).2.2|(with_reducible refine Kd.C_alloc ?_ _)|(with_reducible refine Kd.C_drewN ?_ _)|(with_reducible refine Kd.C_drew ?_)));(case aB=>exact(by repeat (first|(with_reducible first|exact HB.out|apply zAb|apply zAa|apply zAc)|exact HB.out)));(case aF=>exact(fun k_ hk=>Kd.fresh' (Kd.R_lt (by(with_reducible repeat (first|apply Kd.R_alloc|apply Kd.R_drewN|apply Kd.R_drew));exact HO159.out)) k_ hk));(case aO=>exact(by(with_reducible repeat (first|apply Kd.R_alloc|apply Kd.R_drewN|apply Kd.R_drew));exact Kd.R_mono HO_6.out (fun _ hk=>hk.2)));(case aS=>exact(zAp (by repeat (first|(with_reducible first|exact HB.out|apply zAb|apply zAa|apply zAc)|exact HB.out))));(case aL=>have:=LMc15.out;omega);intro v161 w18 ho hb hg hat;rw[← Ny160.out] at ho;have n0_:=Aside0.mk (Kd.R_over' (by(with_reducible repeat (first|apply Kd.R_alloc|apply Kd.R_drewN|apply Kd.R_drew));exact HO_7.out) (Kd.R_typed (by(with_reducible repeat (first|apply Kd.R_alloc|apply Kd.R_drewN|apply Kd.R_drew));exact HO_6.out)) (by decide) hg);have n1_:=Aside0.mk (Kd.R_after (ok:=(fun _=>True)) (by(with_reducible repeat (first|apply Kd.R_alloc|apply Kd.R_drewN|apply Kd.R_drew));exact HO159.out) hg hat);have n2_:=Aside0.mk (hb);have n3_:=Aside0.mk (ho);clear HO_7;clear HO159;clear HB;clear HO_6;have HO_7:=n0_;have HO159:=n1_;have HB:=n2_;have HO162:=n3_;clear n0_ n1_ n2_ n3_;clear ho hb hg hat))
          go_roundg kj8
          case measure=>have:=HK1.out;have:=HJ8.out;omega
          case rel=>exact⟨(y160),(wrap64 (x8_1+1)),(by first|rfl|(simp;done)|(simp[*];done)),H',⟨by have:=HK1.out;have:=HJ8.out;omega⟩,⟨by(with_reducible repeat (first|apply Kd.R_alloc|apply Kd.R_drewN|apply Kd.R_drew));exact Kd.R_mono HO162.out (fun _ hk=>trivial)⟩,⟨by(with_reducible repeat (first|apply Kd.R_alloc|apply Kd.R_drewN|apply Kd.R_drew));exact HO_7.out⟩,⟨by repeat (first|(with_reducible first|exact HB.out|apply zAb|apply zAa|apply zAc)|exact HB.out)⟩⟩
         ·rw[if_neg c15] at H
          exact absurd H (by simp)
        ·replace c14:=Bool.eq_false_iff.mpr c14
         subst c14
         have H1:(if 0≤x8_1 then(if x8_1 < (t151.length:Int) then(if((zB5 ByteArray.empty t151 x8_1).size:Int) < 1 then(gleberef1_groups.j2 kj8 a1 x6_1 t151 x8_1 true) else(gleberef1_groups.j2 kj8 a1 x6_1 t151 x8_1 (decide (((zB5 ByteArray.empty t151 x8_1).size:Int) > 4)))) else(none)) else(none))=some (r1,r2):=by rw[if_neg (show ¬ (false=true) by decide)] at H;exact H
         clear H
         have H:=H1
         clear H1
         have HC20:=Aside0.mk H
         clear H
         go_upto_region 11 with(fail)
         go_cut [63] (fun v63 wc=>∃ (kq:Nat) (x63_19:Bool),v63=.bool x63_19∧Aside0 (gleberef1_groups.j2 kq a1 x6_1 t151 x8_1 x63_19=some (r1,r2))∧Aside0 (kq≤kj8)∧Aside0 (Kd.R (Kd.int .u64) 23 wc w.heap.size (fun _=>True) u6 x6_1)∧Aside0 (Kd.R Kd.string 9 wc w.heap.size (fun _=>True) (.slice (some ad154) t151.length co10) t151)∧Aside0 (Below w.heap.size w wc))
         case first=>
          have H:=HC20.out
          clear HC20
          by_cases c21:0≤x8_1
          ·rw[if_pos c21] at H
           have c21b0:=decide_eq_true c21
           clear c21
           (first|rw[c21b0]|(simp only[zG1,zIy];rw[c21b0])|skip)
           by_cases c22:x8_1 < (t151.length:Int)
           ·rw[if_pos c22] at H
            have c22b0:=decide_eq_true c22
            clear c22
            by_cases c23:((zB5 ByteArray.empty t151 x8_1).size:Int) < 1
            ·rw[if_pos c23] at H
             have c23b0:=decide_eq_true c23
             have c23b1:decide ((zB5 ByteArray.empty t151 x8_1).size < 1)=true:=decide_eq_true (by omega)
             clear c23
             have H':=Aside0.mk H
             clear H
             have p163:0≤(x8_1:Int):=of_decide_eq_true (by first|(with_reducible assumption)|assumption)
             have q163:x8_1 < (t151.length:Int):=of_decide_eq_true (by first|(with_reducible assumption)|assumption)
             obtain⟨ad163,e163,hx163_0⟩:=Kd.at_string (Kd.R_reads' HO_7.out).2.2 x8_1 p163 q163
             obtain rfl:ad154=ad163:=(by injection e163)
             replace p163:=eq_true p163
             replace q163:=eq_true q163
             go_wp2
             go_meet
             case rel=>exact⟨_,(true),(by first|rfl|(simp;done)|(simp[*];done)),H',⟨by have:=HK1.out;have:=HJ8.out;first|omega|exact Nat.le_refl _⟩,⟨by(with_reducible repeat (first|apply Kd.R_alloc|apply Kd.R_drewN|apply Kd.R_drew));exact HO_6.out⟩,⟨by(with_reducible repeat (first|apply Kd.R_alloc|apply Kd.R_drewN|apply Kd.R_drew));exact HO_7.out⟩,⟨by repeat (first|(with_reducible first|exact HB.out|apply zAb|apply zAa|apply zAc)|exact HB.out)⟩⟩
            ·rw[if_neg c23] at H
             have c23b0:decide (((zB5 ByteArray.empty t151 x8_1).size:Int) < 1)=false:=decide_eq_false c23
             have c23b1:decide ((zB5 ByteArray.empty t151 x8_1).size < 1)=false:=decide_eq_false (by omega)
             clear c23
             have H':=Aside0.mk H
             clear H
             have p163:0≤(x8_1:Int):=of_decide_eq_true (by first|(with_reducible assumption)|assumption)
             have q163:x8_1 < (t151.length:Int):=of_decide_eq_true (by first|(with_reducible assumption)|assumption)
             obtain⟨ad163,e163,hx163_0⟩:=Kd.at_string (Kd.R_reads' HO_7.out).2.2 x8_1 p163 q163
             obtain rfl:ad154=ad163:=(by injection e163)
             replace p163:=eq_true p163
             replace q163:=eq_true q163
             have p164:0≤(x8_1:Int):=of_decide_eq_true (by first|(with_reducible assumption)|assumption)
             have q164:x8_1 < (t151.length:Int):=of_decide_eq_true (by first|(with_reducible assumption)|assumption)
             obtain⟨ad164,e164,hx164_0⟩:=Kd.at_string (Kd.R_reads' HO_7.out).2.2 x8_1 p164 q164
             obtain rfl:ad154=ad164:=(by injection e164)
             replace p164:=eq_true p164
             replace q164:=eq_true q164
             go_wp2
             go_meet
             case rel=>exact⟨_,(decide (((zB5 ByteArray.empty t151 x8_1).size:Int) > 4)),(by first|rfl|(simp;done)|(simp[*];done)),H',⟨by have:=HK1.out;have:=HJ8.out;first|omega|exact Nat.le_refl _⟩,⟨by(with_reducible repeat (first|apply Kd.R_alloc|apply Kd.R_drewN|apply Kd.R_drew));exact HO_6.out⟩,⟨by(with_reducible repeat (first|apply Kd.R_alloc|apply Kd.R_drewN|apply Kd.R_drew));exact HO_7.out⟩,⟨by repeat (first|(with_reducible first|exact HB.out|apply zAb|apply zAa|apply zAc)|exact HB.out)⟩⟩
           ·rw[if_neg c22] at H
            exact absurd H (by simp)
          ·rw[if_neg c21] at H
           exact absurd H (by simp)
         case rest=>
          clear HC20
          try clear c1
          try clear p1
          try clear q1
          try clear hx1
          try clear c2
          try clear p2
          try clear c3
          try clear c3b0
          try clear c3b1
          try clear c6
          try clear c6b0
          try clear p6
          try clear c7
          try clear c7b0
          try clear c8
          try clear c12
          try clear c13
          try clear c14
          try clear c15
          try clear p15
          try clear q15
          try clear hx15
          try clear p16
          try clear q16
          try clear hx16
          try clear c21
          try clear c21b0
          try clear c22
          try clear c22b0
          try clear c23
          try clear c23b0
          try clear c23b1
          try clear hx154_0
          try clear hx163_0
          try clear hx164_0
          try clear p1
          try clear p154
          try clear p163
          try clear p164
          try clear p2
          try clear p6
          try clear q1
          try clear q154
          try clear q163
          try clear q164
          obtain⟨kq,x63_19,rfl,HA,HJ19,HO_6,HO_7,HB⟩:=hcut
          cases kq with
          |zero=>exact absurd HA.out (by simp[gleberef1_groups.j2])
          |succ kj19=>
           have H:=HA.out
           clear HA
           simp only[gleberef1_groups.j2] at H
           by_cases c24:x63_19=true
           ·subst c24
            have H1:=H
            rw[if_pos rfl] at H1
            clear H
            have H:=H1
            clear H1
            simp only[Option.some.injEq,Prod.mk.injEq] at H
            obtain⟨rfl,rfl⟩:=H
            go_wp2
            go_ret2
            exact⟨_,by first|rfl|(simp[errW_none,errW_some]<;>rfl)|(simp[*,errW_none,errW_some]<;>rfl),by first|exact Kd.R_nil _ _ _ _ _|exact Kd.N_nil _ _ _ _ _|exact Kd.V_nil _ _ _ _ _|exact Kd.Q_nil _ _ _ _ _|exact Kd.S_nil _ _ _ _ _,by repeat (first|(with_reducible first|exact HB.out|apply zAb|apply zAa|apply zAc)|exact HB.out)⟩
           ·replace c24:=Bool.eq_false_iff.mpr c24
            subst c24
            have H1:(gleberef1_groups.l1 kj19 a1 x6_1 t151 x8_1 0 0)=some (r1,r2):=by rw[if_neg (show ¬ (false=true) by decide)] at H;exact H
            clear H
            have H:=H1
            clear H1
            have H':=Aside0.mk H
            clear H
            go_wp2
            go_loopg [11,12] kj19 (fun kq v11 v12 w'=>∃ (x11_4:Int) (x12_4:Int),v11=.int .u64 x11_4∧v12=.int .i64 x12_4∧Aside0 (gleberef1_groups.l1 kq a1 x6_1 t151 x8_1 x11_4 x12_4=some (r1,r2))∧Aside0 (kq≤kj19)∧Aside0 (Kd.R (Kd.int .u64) 23 w' w.heap.size (fun _=>True) u6 x6_1)∧Aside0 (Kd.R Kd.string 9 w' w.heap.size (fun _=>True) (.slice (some ad154) t151.length co10) t151)∧Aside0 (Below w.heap.size w w'))
            case atStart=>exact⟨(0),(0),(by first|rfl|(simp;done)|(simp[*];done)),(by first|rfl|(simp;done)|(simp[*];done)),H',⟨Nat.le_refl _⟩,⟨by(with_reducible repeat (first|apply Kd.R_alloc|apply Kd.R_drewN|apply Kd.R_drew));exact HO_6.out⟩,⟨by(with_reducible repeat (first|apply Kd.R_alloc|apply Kd.R_drewN|apply Kd.R_drew));exact HO_7.out⟩,⟨by repeat (first|(with_reducible first|exact HB.out|apply zAb|apply zAa|apply zAc)|exact HB.out)⟩⟩
            case round=>
             clear H'
             try clear c1
             try clear p1
             try clear q1
             try clear hx1
             try clear c2
             try clear p2
             try clear c3
             try clear c3b0
             try clear c3b1
             try clear c6
             try clear c6b0
             try clear p6
             try clear c7
             try clear c7b0
             try clear c8
             try clear c12
             try clear c13
             try clear c14
             try clear c15
             try clear p15
             try clear q15
             try clear hx15
             try clear p16
             try clear q16
             try clear hx16
             try clear c21
             try clear c21b0
             try clear c22
             try clear c22b0
             try clear c23
             try clear c23b0
             try clear c23b1
             try clear c24
             try clear hx154_0
             try clear hx163_0
             try clear hx164_0
             try clear p1
             try clear p15
             try clear p154
             try clear p16
             try clear p163
             try clear p164
             try clear p2
             try clear p6
             try clear q1
             try clear q15
             try clear q154
             try clear q16
             try clear q163
             try clear q164
             obtain⟨x11_4,x12_4,rfl,rfl,HA,HK4,HO_6,HO_7,HB⟩:=hrel
             cases gk with
             |zero=>exact absurd HA.out (by simp[gleberef1_groups.l1])
             |succ k4=>
              have H:=HA.out
              clear HA
              simp only[gleberef1_groups.l1] at H
              by_cases c25:0≤x8_1
              ·rw[if_pos c25] at H
               have c25b0:=decide_eq_true c25
               clear c25
               by_cases c26:x8_1 < (t151.length:Int)
               ·rw[if_pos c26] at H
                have c26b0:=decide_eq_true c26
                clear c26
                by_cases c27:x12_4 < ((zB5 ByteArray.empty t151 x8_1).size:Int)
                ·rw[if_pos c27] at H
                 have c27b0:=decide_eq_true c27
                 clear c27
                 by_cases c28:0≤x12_4
                 ·rw[if_pos c28] at H
                  have c28b0:=decide_eq_true c28
                  clear c28
                  replace H:=Option.bind_eq_some_iff.mp H
                  obtain⟨t167,A300,H⟩:=H
                  try dsimp only at H
                  have A30:=Aside0.mk A300
                  clear A300
                  by_cases c31:t167 < 0
                  ·rw[if_pos c31] at H
                   have c31b0:=decide_eq_true c31
                   clear c31
                   simp only[Option.some.injEq,Prod.mk.injEq] at H
                   obtain⟨rfl,rfl⟩:=H
                   have p165:0≤(x8_1:Int):=of_decide_eq_true (by first|(with_reducible assumption)|assumption)
                   have q165:x8_1 < (t151.length:Int):=of_decide_eq_true (by first|(with_reducible assumption)|assumption)
                   obtain⟨ad165,e165,hx165_0⟩:=Kd.at_string (Kd.R_reads' HO_7.out).2.2 x8_1 p165 q165
                   obtain rfl:ad154=ad165:=(by injection e165)
                   replace p165:=eq_true p165
                   replace q165:=eq_true q165
                   have p166:0≤(x8_1:Int):=of_decide_eq_true (by first|(with_reducible assumption)|assumption)
                   have q166:x8_1 < (t151.length:Int):=of_decide_eq_true (by first|(with_reducible assumption)|assumption)
                   obtain⟨ad166,e166,hx166_0⟩:=Kd.at_string (Kd.R_reads' HO_7.out).2.2 x8_1 p166 q166
                   obtain rfl:ad154=ad166:=(by injection e166)
                   replace p166:=eq_true p166
                   replace q166:=eq_true q166
                   have p29:0≤(x12_4:Int):=of_decide_eq_true (by first|(with_reducible assumption)|assumption)
                   have q29:x12_4 < ((zB5 ByteArray.empty t151 x8_1).size:Int):=of_decide_eq_true (by first|(with_reducible assumption)|assumption)
                   have hx29:=zD2 (zB5 ByteArray.empty t151 x8_1) x12_4
                   replace p29:=eq_true p29
                   replace q29:=eq_true q29
                   go_wp2_with (first|((with_reducible refine zAu (f:=104) rfl ?_);refine zCa (some 79) rfl rfl Tryz.func104 (by kernel_rfl) rfl #[.int .u8 (bt (zB5 ByteArray.empty t151 x8_1) x12_4)] rfl (by(try simp only[List.map_toArray,List.map_cons,List.map_nil]);first|done|rfl|(simp only[List.length_drop,List.length_take];rfl)) ?_;(with_reducible refine(gleberef1_Hex.calls k4 (bt (zB5 ByteArray.empty t151 x8_1) x12_4) t167 _ ?side1 A30.out).mono ?_);(case side1=>first|exact hG|exact GoodW.below hG (by repeat (first|(with_reducible first|exact HB.out|apply zAb|apply zAa|apply zAc)|exact HB.out))|(repeat (first|exact hG|apply GoodW.drewN|apply GoodW.drew)));rintro e w' ⟨rfl,⟨nd,rfl⟩⟩;refine⟨_,rfl,?_⟩))
                   go_ret2
                   exact⟨_,by first|rfl|(simp[errW_none,errW_some]<;>rfl)|(simp[*,errW_none,errW_some]<;>rfl),by first|exact Kd.R_nil _ _ _ _ _|exact Kd.N_nil _ _ _ _ _|exact Kd.V_nil _ _ _ _ _|exact Kd.Q_nil _ _ _ _ _|exact Kd.S_nil _ _ _ _ _,by repeat (first|(with_reducible first|exact HB.out|apply zAb|apply zAa|apply zAc)|exact HB.out)⟩
                  ·rw[if_neg c31] at H
                   have c31b0:decide (t167 < 0)=false:=decide_eq_false c31
                   clear c31
                   have H':=Aside0.mk H
                   clear H
                   have p165:0≤(x8_1:Int):=of_decide_eq_true (by first|(with_reducible assumption)|assumption)
                   have q165:x8_1 < (t151.length:Int):=of_decide_eq_true (by first|(with_reducible assumption)|assumption)
                   obtain⟨ad165,e165,hx165_0⟩:=Kd.at_string (Kd.R_reads' HO_7.out).2.2 x8_1 p165 q165
                   obtain rfl:ad154=ad165:=(by injection e165)
                   replace p165:=eq_true p165
                   replace q165:=eq_true q165
                   have p166:0≤(x8_1:Int):=of_decide_eq_true (by first|(with_reducible assumption)|assumption)
                   have q166:x8_1 < (t151.length:Int):=of_decide_eq_true (by first|(with_reducible assumption)|assumption)
                   obtain⟨ad166,e166,hx166_0⟩:=Kd.at_string (Kd.R_reads' HO_7.out).2.2 x8_1 p166 q166
                   obtain rfl:ad154=ad166:=(by injection e166)
                   replace p166:=eq_true p166
                   replace q166:=eq_true q166
                   have p29:0≤(x12_4:Int):=of_decide_eq_true (by first|(with_reducible assumption)|assumption)
                   have q29:x12_4 < ((zB5 ByteArray.empty t151 x8_1).size:Int):=of_decide_eq_true (by first|(with_reducible assumption)|assumption)
                   have hx29:=zD2 (zB5 ByteArray.empty t151 x8_1) x12_4
                   replace p29:=eq_true p29
                   replace q29:=eq_true q29
                   go_wp2_with (first|((with_reducible refine zAu (f:=104) rfl ?_);refine zCa (some 79) rfl rfl Tryz.func104 (by kernel_rfl) rfl #[.int .u8 (bt (zB5 ByteArray.empty t151 x8_1) x12_4)] rfl (by(try simp only[List.map_toArray,List.map_cons,List.map_nil]);first|done|rfl|(simp only[List.length_drop,List.length_take];rfl)) ?_;(with_reducible refine(gleberef1_Hex.calls k4 (bt (zB5 ByteArray.empty t151 x8_1) x12_4) t167 _ ?side1 A30.out).mono ?_);(case side1=>first|exact hG|exact GoodW.below hG (by repeat (first|(with_reducible first|exact HB.out|apply zAb|apply zAa|apply zAc)|exact HB.out))|(repeat (first|exact hG|apply GoodW.drewN|apply GoodW.drew)));rintro e w' ⟨rfl,⟨nd,rfl⟩⟩;refine⟨_,rfl,?_⟩))
                   go_roundg k4
                   case measure=>have:=HK1.out;have:=HJ8.out;have:=HJ19.out;have:=HK4.out;omega
                   case rel=>exact⟨(Go.bits .or .u64 (IntKind.u64.wrap (x11_4 * 16)) (IntKind.u64.wrap (t167))),(wrap64 (x12_4+1)),(by first|rfl|(simp;done)|(simp[*];done)),(by first|rfl|(simp;done)|(simp[*];done)),H',⟨by have:=HK1.out;have:=HJ8.out;have:=HJ19.out;have:=HK4.out;omega⟩,⟨by(with_reducible repeat (first|apply Kd.R_alloc|apply Kd.R_drewN|apply Kd.R_drew));exact HO_6.out⟩,⟨by(with_reducible repeat (first|apply Kd.R_alloc|apply Kd.R_drewN|apply Kd.R_drew));exact HO_7.out⟩,⟨by repeat (first|(with_reducible first|exact HB.out|apply zAb|apply zAa|apply zAc)|exact HB.out)⟩⟩
                 ·rw[if_neg c28] at H
                  exact absurd H (by simp)
                ·rw[if_neg c27] at H
                 have c27b0:decide (x12_4 < ((zB5 ByteArray.empty t151 x8_1).size:Int))=false:=decide_eq_false c27
                 clear c27
                 by_cases c32:x6_1.length < 17592186044416
                 ·rw[if_pos c32] at H
                  have LMc32:=Aside0.mk c32
                  clear c32
                  obtain⟨y168,hy168⟩:∃ y_:List Int,y_=(x6_1++[x11_4]):=⟨_,rfl⟩
                  replace H:(gleberef1_groups.l0 k4 a1 y168 t151 (wrap64 (x8_1+1)))=some (r1,r2):=by first|(rw[hy168];with_reducible exact H)|(have H2_:=(Option.bind_some _ _).symm.trans H;rw[hy168];with_reducible exact H2_)|(have H2_:=(Option.bind_some _ _).symm.trans H;with_reducible exact H2_)|with_reducible exact H|(rw[hy168];exact H)|exact H
                  have Ny168:=Aside0.mk hy168
                  clear hy168
                  have H':=Aside0.mk H
                  clear H
                  have p165:0≤(x8_1:Int):=of_decide_eq_true (by first|(with_reducible assumption)|assumption)
                  have q165:x8_1 < (t151.length:Int):=of_decide_eq_true (by first|(with_reducible assumption)|assumption)
                  obtain⟨ad165,e165,hx165_0⟩:=Kd.at_string (Kd.R_reads' HO_7.out).2.2 x8_1 p165 q165
                  obtain rfl:ad154=ad165:=(by injection e165)
                  replace p165:=eq_true p165
                  replace q165:=eq_true q165
                  go_wp2_with (first|((with_reducible refine zCs (b:=.append) (xs:=#[.tmp 87,.tmp 89]) rfl ?_);(try(refine zCw (by rfl) ?_;dsimp only));at_builtin;refine Kd.R_append (Kd.int .u64) (w0:=w) w.heap.size rfl (.tmp 87) (.tmp 89) 95 23 (.int .u64 0) 8 rfl Tryz.underlying95 info23 rfl (by decide) (by omega) u6 x6_1 x11_4 [.int .u64 x11_4] (fun _=>True) (fun _=>False) rfl rfl ?aP (fun _ hk=>hk.elim) ?aF ?aO ?aB ?aS ?aL ?_;(case aP=>exact rfl);(case aB=>exact(by repeat (first|(with_reducible first|exact HB.out|apply zAb|apply zAa|apply zAc)|exact HB.out)));(case aF=>exact(fun _ _=>trivial));(case aO=>exact(by(with_reducible repeat (first|apply Kd.R_alloc|apply Kd.R_drewN|apply Kd.R_drew));exact HO_6.out));(case aS=>exact(zAp (by repeat (first|(with_reducible first|exact HB.out|apply zAb|apply zAa|apply zAc)|exact HB.out))));(case aL=>have:=LMc32.out;omega);intro v169 w33 ho hb hg hat;rw[← Ny168.out] at ho;have n0_:=Aside0.mk (Kd.R_over' (by(with_reducible repeat (first|apply Kd.R_alloc|apply Kd.R_drewN|apply Kd.R_drew));exact HO_7.out) (Kd.R_typed (by(with_reducible repeat (first|apply Kd.R_alloc|apply Kd.R_drewN|apply Kd.R_drew));exact HO_6.out)) (by decide) hg);have n1_:=Aside0.mk (hb);have n2_:=Aside0.mk (ho);clear HO_7;clear HB;clear HO_6;have HO_7:=n0_;have HB:=n1_;have HO170:=n2_;clear n0_ n1_ n2_;clear ho hb hg hat))
                  go_roundg k4
                  case measure=>have:=HK1.out;have:=HJ8.out;have:=HJ19.out;have:=HK4.out;omega
                  case rel=>exact⟨(y168),(wrap64 (x8_1+1)),(by first|rfl|(simp;done)|(simp[*];done)),H',⟨by have:=HK1.out;have:=HJ8.out;have:=HJ19.out;have:=HK4.out;omega⟩,⟨by(with_reducible repeat (first|apply Kd.R_alloc|apply Kd.R_drewN|apply Kd.R_drew));exact HO170.out⟩,⟨by(with_reducible repeat (first|apply Kd.R_alloc|apply Kd.R_drewN|apply Kd.R_drew));exact HO_7.out⟩,⟨by repeat (first|(with_reducible first|exact HB.out|apply zAb|apply zAa|apply zAc)|exact HB.out)⟩⟩
                 ·rw[if_neg c32] at H
                  exact absurd H (by simp)
               ·rw[if_neg c26] at H
                exact absurd H (by simp)
              ·rw[if_neg c25] at H
               exact absurd H (by simp)
     ·rw[if_neg c7] at H
      exact absurd H (by simp)
    ·rw[if_neg c6] at H
     have c6b0:decide (x8_1 < (t151.length:Int))=false:=decide_eq_false c6
     clear c6
     simp only[Option.some.injEq,Prod.mk.injEq] at H
     obtain⟨rfl,rfl⟩:=H
     obtain⟨Ao34,co34,eo34⟩:=Kd.R_slice HO_7.out
     subst eo34
     go_wp2
     go_ret2
     exact⟨_,by first|rfl|(simp[errW_none,errW_some]<;>rfl)|(simp[*,errW_none,errW_some]<;>rfl),by(with_reducible repeat (first|apply Kd.R_alloc|apply Kd.R_drewN|apply Kd.R_drew));exact HO_6.out,by repeat (first|(with_reducible first|exact HB.out|apply zAb|apply zAa|apply zAc)|exact HB.out)⟩
def gleberef1_joint.l0:Nat→ByteArray→Int→Option (Int)
 |0,_,_=>none
 |k+1,x0,x3=>if(wrap64 (x3+1)) < (x0.size:Int) then(if 0≤x3 then(if x3 < (x0.size:Int) then(if(bt x0 x3)=58 then(if 0≤(wrap64 (x3+1)) then(if(bt x0 (wrap64 (x3+1)))=58 then(some x3) else(gleberef1_joint.l0 k x0 (wrap64 (x3+1)))) else(none)) else(gleberef1_joint.l0 k x0 (wrap64 (x3+1)))) else(none)) else(none)) else(some (-1))
def gleberef1_joint.f (k:Nat)(a0:ByteArray):Option (Int):=gleberef1_joint.l0 k a0 0
set_option maxRecDepth 100000 in
theorem gleberef1_joint.calls (k:Nat)(a0:ByteArray)(r:Int)(w:World)(hG:GoodW w)(h:gleberef1_joint.f k a0=some r):
  Calls Tryz.prog 88 #[.string a0] w fun e w'=>e=.returned (.int .i64 r)∧Drawn0 w w':=by
 have H:=h
 unfold gleberef1_joint.f at H
 clear h
 have H':=Aside0.mk H
 clear H
 go_enter Tryz.func88,Tryz.ntmps88
 go_wp2
 go_loopg [3] k (fun kq v3 w'=>∃ (x3_1:Int),v3=.int .i64 x3_1∧Aside0 (gleberef1_joint.l0 kq a0 x3_1=some r)∧Aside0 (kq≤k)∧Drawn0 w w')
 case atStart=>exact⟨(0),(by first|rfl|(simp;done)|(simp[*];done)),H',⟨Nat.le_refl _⟩,by repeat (first|exact Drawn0.refl _|apply Drawn0.step)⟩
 case round=>
  clear H'
  obtain⟨x3_1,rfl,HA,HK1,⟨m1,rfl⟩⟩:=hrel
  cases gk with
  |zero=>exact absurd HA.out (by simp[gleberef1_joint.l0])
  |succ k1=>
   have H:=HA.out
   clear HA
   simp only[gleberef1_joint.l0] at H
   by_cases c2:(wrap64 (x3_1+1)) < (a0.size:Int)
   ·rw[if_pos c2] at H
    have c2b0:=decide_eq_true c2
    clear c2
    by_cases c3:0≤x3_1
    ·rw[if_pos c3] at H
     have c3b0:=decide_eq_true c3
     clear c3
     by_cases c4:x3_1 < (a0.size:Int)
     ·rw[if_pos c4] at H
      have c4b0:=decide_eq_true c4
      clear c4
      by_cases c6:(bt a0 x3_1)=58
      ·rw[if_pos c6] at H
       have c6b0:((bt a0 x3_1)==58)=true:=beq_iff_eq.mpr c6
       have c6b1:((bt a0 x3_1) != 58)=false:=bne_eq_false_iff_eq.mpr c6
       clear c6
       obtain⟨ji7,hji7⟩:∃ j_:Int,(wrap64 (x3_1+1))=j_:=⟨_,rfl⟩
       replace H:(if 0≤(ji7) then(if(bt a0 (ji7))=58 then(some x3_1) else(gleberef1_joint.l0 k1 a0 ji7)) else(none))=some r:=by first|(rw[hji7] at H;exact H)|(simp only[hji7] at H ⊢;exact H)
       (try rw[hji7] at c2b0)
       have hji7w:(IntKind.i64.wrap (x3_1+1))=ji7:=(zG1 _).trans hji7
       by_cases c8:0≤(ji7)
       ·rw[if_pos c8] at H
        have c8b0:=decide_eq_true c8
        clear c8
        by_cases c10:(bt a0 (ji7))=58
        ·rw[if_pos c10] at H
         have c10b0:((bt a0 (ji7))==58)=true:=beq_iff_eq.mpr c10
         have c10b1:((bt a0 (ji7)) != 58)=false:=bne_eq_false_iff_eq.mpr c10
         clear c10
         obtain rfl:=Option.some.inj H
         have p5:0≤(x3_1:Int):=of_decide_eq_true (by first|(with_reducible assumption)|assumption)
         have q5:x3_1 < (a0.size:Int):=of_decide_eq_true (by first|(with_reducible assumption)|assumption)
         have hx5:=zD2 a0 x3_1
         replace p5:=eq_true p5
         replace q5:=eq_true q5
         have p9:0≤((ji7):Int):=of_decide_eq_true (by first|(with_reducible assumption)|assumption)
         have q9:(ji7) < (a0.size:Int):=of_decide_eq_true (by first|(with_reducible assumption)|assumption)
         have hx9:=zD2 a0 (ji7)
         replace p9:=eq_true p9
         replace q9:=eq_true q9
         go_wp2
         go_ret
         exact⟨by first|rfl|(simp;done)|(simp only[← hji7]<;>(first|rfl|simp))|(simp[*];done),by repeat (first|exact Drawn0.refl _|apply Drawn0.step)⟩
        ·rw[if_neg c10] at H
         have c10b0:((bt a0 (ji7))==58)=false:=beq_eq_false_iff_ne.mpr c10
         have c10b1:((bt a0 (ji7)) != 58)=true:=bne_iff_ne.mpr c10
         have H':=Aside0.mk H
         clear H
         have p5:0≤(x3_1:Int):=of_decide_eq_true (by first|(with_reducible assumption)|assumption)
         have q5:x3_1 < (a0.size:Int):=of_decide_eq_true (by first|(with_reducible assumption)|assumption)
         have hx5:=zD2 a0 x3_1
         replace p5:=eq_true p5
         replace q5:=eq_true q5
         have p9:0≤((ji7):Int):=of_decide_eq_true (by first|(with_reducible assumption)|assumption)
         have q9:(ji7) < (a0.size:Int):=of_decide_eq_true (by first|(with_reducible assumption)|assumption)
         have hx9:=zD2 a0 (ji7)
         replace p9:=eq_true p9
         replace q9:=eq_true q9
         go_wp2
         go_roundg k1
         case measure=>have:=HK1.out;omega
         case rel=>exact⟨(ji7),(by first|rfl|(simp;done)|(simp only[← hji7]<;>(first|rfl|simp))|(simp[*];done)),H',⟨by have:=HK1.out;omega⟩,by repeat (first|exact Drawn0.refl _|apply Drawn0.step)⟩
       ·rw[if_neg c8] at H
        exact absurd H (by simp)
      ·rw[if_neg c6] at H
       have c6b0:((bt a0 x3_1)==58)=false:=beq_eq_false_iff_ne.mpr c6
       have c6b1:((bt a0 x3_1) != 58)=true:=bne_iff_ne.mpr c6
       have H':=Aside0.mk H
       clear H
       have p5:0≤(x3_1:Int):=of_decide_eq_true (by first|(with_reducible assumption)|assumption)
       have q5:x3_1 < (a0.size:Int):=of_decide_eq_true (by first|(with_reducible assumption)|assumption)
       have hx5:=zD2 a0 x3_1
       replace p5:=eq_true p5
       replace q5:=eq_true q5
       go_wp2
       go_roundg k1
       case measure=>have:=HK1.out;omega
       case rel=>exact⟨(wrap64 (x3_1+1)),(by first|rfl|(simp;done)|(simp[*];done)),H',⟨by have:=HK1.out;omega⟩,by repeat (first|exact Drawn0.refl _|apply Drawn0.step)⟩
     ·rw[if_neg c4] at H
      exact absurd H (by simp)
    ·rw[if_neg c3] at H
     exact absurd H (by simp)
   ·rw[if_neg c2] at H
    have c2b0:decide ((wrap64 (x3_1+1)) < (a0.size:Int))=false:=decide_eq_false c2
    clear c2
    obtain rfl:=Option.some.inj H
    go_wp2
    go_ret
    exact⟨by first|rfl|(simp;done)|(simp[*];done),by repeat (first|exact Drawn0.refl _|apply Drawn0.step)⟩
end Go.Proofs.YtfnacgojmdbjmaaGreatDoor.PPPT
end

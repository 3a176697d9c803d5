/- Texts of a proof, joined: words of the print (those that are named here) and printed functions. -/
import Derived.Test.YtfnacgojmdbjmaaGreatDoorPkm5
set_option linter.unusedSimpArgs false
set_option linter.unusedVariables false
set_option maxRecDepth 100000
set_option maxHeartbeats 8000000
noncomputable section
namespace Go.Proofs.YtfnacgojmdbjmaaGreatDoor.PPH
open Go.RowKit YtfnacgojmdbjmaaGreatDoorW.PrintWords YtfnacgojmdbjmaaGreatDoorW.PrintLast YtfnacgojmdbjmaaGreatDoorW.PrintMore
attribute [local go_sem] zEz zE0 zG2 zG3 zDy zDz zE1 zE2
open Go.Det (inQ M64 zCh qn zXk zJo zFk)
def date_Num.f (a0:ByteArray)(a1:Int):Option (Int×Bool):=zKd a0 a1
theorem date_Num.calls (a0:ByteArray)(a1:Int)(r1:Int)(r2:Bool)(w:World)(hG:GoodW w)(h:date_Num.f a0 a1=some (r1,r2)):
  Calls Tryz.prog 61 #[.string a0,.int .u64 a1] w fun e w'=>e=.returned (.tuple #[.int .u64 r1,.bool r2])∧Below w.heap.size w w':=by exact yOa hG h
def strings_Split.f (a0:ByteArray)(a1:ByteArray):Option (List ByteArray):=if a0.size < 4294967281∧1≤a1.size then some (Lib.splitB a1 0 (Lib.countB a0 a1) a0) else none
theorem strings_Split.calls (a0:ByteArray)(a1:ByteArray)(r:List ByteArray)(w:World)(hG:GoodW w)(h:strings_Split.f a0 a1=some r):
  Calls Tryz.prog 103 #[.string a0,.string a1] w fun e w'=>∃ v0_:Value,e=.returned (v0_)∧Kd.R Kd.string 9 w' w.heap.size (fun _=>True) v0_ r∧Below w.heap.size w w':=yEl hG h
def addr_four.l0:Nat→List ByteArray→Int→List ByteArray→Int→Int→Option (Int×Bool)
 |0,_,_,_,_,_=>none
 |k+1,x4,x5,x12,x13,x14=>if x14 < x13 then(if 0≤x14 then(if x14 < (x12.length:Int) then((date_Num.f (zB5 ByteArray.empty x12 x14) 255).bind fun bt105=>(if bt105.2=true then(addr_four.l0 k x4 (Go.bits .or .u64 (IntKind.u64.wrap (x5 * 256)) (Go.bits .and .u64 bt105.1 255)) x12 x13 (wrap64 (x14+1))) else(some (0,false)))) else(none)) else(none)) else(some (x5,((x4.length:Int)==4)))
def addr_four.f (k:Nat)(a0:ByteArray):Option (Int×Bool):=(strings_Split.f a0 (⟨#[46]⟩:ByteArray)).bind fun t101=>(addr_four.l0 k t101 0 t101 (t101.length:Int) 0)
set_option maxRecDepth 100000 in
theorem addr_four.calls (k:Nat)(a0:ByteArray)(r1:Int)(r2:Bool)(w:World)(hG:GoodW w)(h:addr_four.f k a0=some (r1,r2)):
  Calls Tryz.prog 86 #[.string a0] w fun e w'=>e=.returned (.tuple #[.int .u64 r1,.bool r2])∧Below w.heap.size w w':=by
 have HB:=Aside0.mk (Below.refl w.heap.size w)
 have H:=h
 unfold addr_four.f at H
 clear h
 replace H:=Option.bind_eq_some_iff.mp H
 obtain⟨t101,A20,H⟩:=H
 try dsimp only at H
 have A2:=Aside0.mk A20
 clear A20
 have H':=Aside0.mk H
 clear H
 go_enter Tryz.func86,Tryz.ntmps86
 go_wp2_with (first|((with_reducible refine zAu (f:=103) rfl ?_);refine zCa (some 11) rfl rfl Tryz.func103 (by kernel_rfl) rfl #[.string a0,.string (⟨#[46]⟩:ByteArray)] rfl (by(try simp only[List.map_toArray,List.map_cons,List.map_nil]);first|done|rfl|(simp only[List.length_drop,List.length_take];rfl)) ?_;(with_reducible refine(strings_Split.calls a0 (⟨#[46]⟩:ByteArray) t101 _ ?side1 A2.out).mono ?_);(case side1=>first|exact hG|exact GoodW.below hG (by repeat (first|(with_reducible first|exact HB.out|apply zAb|apply zAa|apply zAc)|exact HB.out))|(repeat (first|exact hG|apply GoodW.drewN|apply GoodW.drew)));rintro e w3 ⟨v102,rfl,ho0,hb⟩;refine⟨_,rfl,?_⟩;have n0_:=Aside0.mk (Kd.R_lower ho0 (zAp (by repeat (first|(with_reducible first|exact HB.out|apply zAb|apply zAa|apply zAc)|exact HB.out))));have n1_:=Aside0.mk (zAi (by repeat (first|(with_reducible first|exact HB.out|apply zAb|apply zAa|apply zAc)|exact HB.out)) hb);clear HB;have HO103:=n0_;have HB:=n1_;clear n0_ n1_;(try clear hb);(try clear hb2);(try clear hk);(try clear hi);(try clear ho0);obtain⟨Ao4,co4,eo4⟩:=Kd.R_slice HO103.out;subst eo4))
 go_loopg [5,14] k (fun kq v5 v14 w'=>∃ (x5_1:Int) (x14_1:Int),v5=.int .u64 x5_1∧v14=.int .i64 x14_1∧Aside0 (addr_four.l0 kq t101 x5_1 t101 (t101.length:Int) x14_1=some (r1,r2))∧Aside0 (kq≤k)∧Aside0 (Kd.R Kd.string 9 w' w.heap.size (fun _=>True) (.slice Ao4 t101.length co4) t101)∧Aside0 (Kd.R Kd.string 9 w' w.heap.size (fun _=>True) (.slice Ao4 t101.length co4) t101)∧Aside0 (Below w.heap.size w w'))
 case atStart=>exact⟨(0),(0),(by first|rfl|(simp;done)|(simp[*];done)),(by first|rfl|(simp;done)|(simp[*];done)),H',⟨Nat.le_refl _⟩,⟨by(with_reducible repeat (first|apply Kd.R_alloc|apply Kd.R_drewN|apply Kd.R_drew));exact HO103.out⟩,⟨by(with_reducible repeat (first|apply Kd.R_alloc|apply Kd.R_drewN|apply Kd.R_drew));exact HO103.out⟩,⟨by repeat (first|(with_reducible first|exact HB.out|apply zAb|apply zAa|apply zAc)|exact HB.out)⟩⟩
 case round=>
  clear H'
  try clear c1
  try clear p2
  obtain⟨x5_1,x14_1,rfl,rfl,HA,HK1,HO_4,HO_12,HB⟩:=hrel
  cases gk with
  |zero=>exact absurd HA.out (by simp[addr_four.l0])
  |succ k1=>
   have H:=HA.out
   clear HA
   simp only[addr_four.l0] at H
   by_cases c5:x14_1 < (t101.length:Int)
   ·rw[if_pos c5] at H
    have c5b0:=decide_eq_true c5
    clear c5
    by_cases c6:0≤x14_1
    ·rw[if_pos c6] at H
     have c6b0:=decide_eq_true c6
     clear c6
     by_cases c7:x14_1 < (t101.length:Int)
     ·rw[if_pos c7] at H
      have c7b0:=decide_eq_true c7
      clear c7
      replace H:=Option.bind_eq_some_iff.mp H
      obtain⟨⟨t105,t106⟩,A80,H⟩:=H
      try dsimp only at H
      have A8:=Aside0.mk A80
      clear A80
      by_cases c9:t106=true
      ·subst c9
       have H1:=H
       rw[if_pos rfl] at H1
       clear H
       have H:=H1
       clear H1
       have H':=Aside0.mk H
       clear H
       have p104:0≤(x14_1:Int):=of_decide_eq_true (by first|(with_reducible assumption)|assumption)
       have q104:x14_1 < (t101.length:Int):=of_decide_eq_true (by first|(with_reducible assumption)|assumption)
       obtain⟨ad104,e104,hx104_0⟩:=Kd.at_string (Kd.R_reads' HO_12.out).2.2 x14_1 p104 q104
       cases e104
       replace p104:=eq_true p104
       replace q104:=eq_true q104
       go_wp2_with (first|((with_reducible refine zAu (f:=61) rfl ?_);refine zCa (some 20) rfl rfl Tryz.func61 (by kernel_rfl) rfl #[.string (zB5 ByteArray.empty t101 x14_1),.int .u64 255] rfl (by(try simp only[List.map_toArray,List.map_cons,List.map_nil]);first|done|rfl|(simp only[List.length_drop,List.length_take];rfl)) ?_;(with_reducible refine(date_Num.calls (zB5 ByteArray.empty t101 x14_1) 255 t105 true _ ?side1 A8.out).mono ?_);(case side1=>first|exact hG|exact GoodW.below hG (by repeat (first|(with_reducible first|exact HB.out|apply zAb|apply zAa|apply zAc)|exact HB.out))|(repeat (first|exact hG|apply GoodW.drewN|apply GoodW.drew)));rintro e w10 ⟨rfl,hb⟩;refine⟨_,rfl,?_⟩;have n0_:=Aside0.mk (Kd.R_below (by(with_reducible repeat (first|apply Kd.R_alloc|apply Kd.R_drewN|apply Kd.R_drew));exact HO_4.out) hb);have n1_:=Aside0.mk (Kd.R_below (by(with_reducible repeat (first|apply Kd.R_alloc|apply Kd.R_drewN|apply Kd.R_drew));exact HO_12.out) hb);have n2_:=Aside0.mk (zAi (by repeat (first|(with_reducible first|exact HB.out|apply zAb|apply zAa|apply zAc)|exact HB.out)) hb);clear HO_4;clear HO_12;clear HB;have HO_4:=n0_;have HO_12:=n1_;have HB:=n2_;clear n0_ n1_ n2_;(try clear hb);(try clear hb2);(try clear hk);(try clear hi)))
       go_roundg k1
       case measure=>have:=HK1.out;omega
       case rel=>exact⟨(Go.bits .or .u64 (IntKind.u64.wrap (x5_1 * 256)) (Go.bits .and .u64 t105 255)),(wrap64 (x14_1+1)),(by first|rfl|(simp;done)|(simp[*];done)),(by first|rfl|(simp;done)|(simp[*];done)),H',⟨by have:=HK1.out;omega⟩,⟨by(with_reducible repeat (first|apply Kd.R_alloc|apply Kd.R_drewN|apply Kd.R_drew));exact HO_4.out⟩,⟨by(with_reducible repeat (first|apply Kd.R_alloc|apply Kd.R_drewN|apply Kd.R_drew));exact HO_12.out⟩,⟨by repeat (first|(with_reducible first|exact HB.out|apply zAb|apply zAa|apply zAc)|exact HB.out)⟩⟩
      ·replace c9:=Bool.eq_false_iff.mpr c9
       subst c9
       have H1:(some (0,false))=some (r1,r2):=by rw[if_neg (show ¬ (false=true) by decide)] at H;exact H
       clear H
       have H:=H1
       clear H1
       simp only[Option.some.injEq,Prod.mk.injEq] at H
       obtain⟨rfl,rfl⟩:=H
       have p104:0≤(x14_1:Int):=of_decide_eq_true (by first|(with_reducible assumption)|assumption)
       have q104:x14_1 < (t101.length:Int):=of_decide_eq_true (by first|(with_reducible assumption)|assumption)
       obtain⟨ad104,e104,hx104_0⟩:=Kd.at_string (Kd.R_reads' HO_12.out).2.2 x14_1 p104 q104
       cases e104
       replace p104:=eq_true p104
       replace q104:=eq_true q104
       go_wp2_with (first|((with_reducible refine zAu (f:=61) rfl ?_);refine zCa (some 20) rfl rfl Tryz.func61 (by kernel_rfl) rfl #[.string (zB5 ByteArray.empty t101 x14_1),.int .u64 255] rfl (by(try simp only[List.map_toArray,List.map_cons,List.map_nil]);first|done|rfl|(simp only[List.length_drop,List.length_take];rfl)) ?_;(with_reducible refine(date_Num.calls (zB5 ByteArray.empty t101 x14_1) 255 t105 false _ ?side1 A8.out).mono ?_);(case side1=>first|exact hG|exact GoodW.below hG (by repeat (first|(with_reducible first|exact HB.out|apply zAb|apply zAa|apply zAc)|exact HB.out))|(repeat (first|exact hG|apply GoodW.drewN|apply GoodW.drew)));rintro e w11 ⟨rfl,hb⟩;refine⟨_,rfl,?_⟩;have n0_:=Aside0.mk (Kd.R_below (by(with_reducible repeat (first|apply Kd.R_alloc|apply Kd.R_drewN|apply Kd.R_drew));exact HO_4.out) hb);have n1_:=Aside0.mk (Kd.R_below (by(with_reducible repeat (first|apply Kd.R_alloc|apply Kd.R_drewN|apply Kd.R_drew));exact HO_12.out) hb);have n2_:=Aside0.mk (zAi (by repeat (first|(with_reducible first|exact HB.out|apply zAb|apply zAa|apply zAc)|exact HB.out)) hb);clear HO_4;clear HO_12;clear HB;have HO_4:=n0_;have HO_12:=n1_;have HB:=n2_;clear n0_ n1_ n2_;(try clear hb);(try clear hb2);(try clear hk);(try clear hi)))
       go_ret2
       exact⟨by first|rfl|(simp[errW_none,errW_some]<;>rfl)|(simp[*,errW_none,errW_some]<;>rfl),by repeat (first|(with_reducible first|exact HB.out|apply zAb|apply zAa|apply zAc)|exact HB.out)⟩
     ·rw[if_neg c7] at H
      exact absurd H (by simp)
    ·rw[if_neg c6] at H
     exact absurd H (by simp)
   ·rw[if_neg c5] at H
    have c5b0:decide (x14_1 < (t101.length:Int))=false:=decide_eq_false c5
    clear c5
    simp only[Option.some.injEq,Prod.mk.injEq] at H
    obtain⟨rfl,rfl⟩:=H
    go_wp2
    go_ret2
    exact⟨by first|rfl|(simp[errW_none,errW_some]<;>rfl)|(simp[*,errW_none,errW_some]<;>rfl),by repeat (first|(with_reducible first|exact HB.out|apply zAb|apply zAa|apply zAc)|exact HB.out)⟩
def strings_Contains.f (a0:ByteArray)(a1:ByteArray):Option (Bool):=if a0.size < 4294967281 then some (Lib.contains a0.data.toList a1.data.toList) else none
theorem strings_Contains.calls (a0:ByteArray)(a1:ByteArray)(r:Bool)(w:World)(hG:GoodW w)(h:strings_Contains.f a0 a1=some r):
  Calls Tryz.prog 84 #[.string a0,.string a1] w fun e w'=>e=.returned (.bool r)∧Drawn0 w w':=zMi hG h
def addr_hex.f (a0:ByteArray):Option (Int×Bool):=zPz a0
theorem addr_hex.calls (a0:ByteArray)(r1:Int)(r2:Bool)(w:World)(hG:GoodW w)(h:addr_hex.f a0=some (r1,r2)):
  Calls Tryz.prog 115 #[.string a0] w fun e w'=>e=.returned (.tuple #[.int .u64 r1,.bool r2])∧Below w.heap.size w w':=by exact yN8 hG h
mutual
def addr_row.l0:Nat→Bool→List Int→List ByteArray→List ByteArray→Int→Int→Option (List Int×Bool)
 |0,_,_,_,_,_,_=>none
 |k+1,x1,x6,x7,x18,x19,x20=>if x20 < x19 then(if 0≤x20 then(if x20 < (x18.length:Int) then(if x1=true then(if x20=(wrap64 ((x7.length:Int) - 1)) then((strings_Contains.f (zB5 ByteArray.empty x18 x20) (⟨#[46]⟩:ByteArray)).bind fun t111=>(addr_row.j1 k x1 x6 x7 (zB5 ByteArray.empty x18 x20) x18 x19 x20 t111)) else(addr_row.j1 k x1 x6 x7 (zB5 ByteArray.empty x18 x20) x18 x19 x20 false)) else(addr_row.j1 k x1 x6 x7 (zB5 ByteArray.empty x18 x20) x18 x19 x20 false)) else(none)) else(none)) else(some (x6,true))
def addr_row.j1:Nat→Bool→List Int→List ByteArray→ByteArray→List ByteArray→Int→Int→Bool→Option (List Int×Bool)
 |0,_,_,_,_,_,_,_,_=>none
 |k+1,x1,x6,x7,x9,x18,x19,x20,x36=>if x36=true then((addr_four.f k x9).bind fun bt112=>((some (([bt112.1 / 65536,Go.bits .and .u64 bt112.1 65535]:List Int):List Int)).bind fun y114=>(if x6.length+y114.length < 17592186044416 then(some ((x6++y114),bt112.2)) else(none)))) else((addr_hex.f x9).bind fun bt120=>(if bt120.2=true then(if x6.length < 17592186044416 then(addr_row.l0 k x1 (x6++[bt120.1]) x7 x18 x19 (wrap64 (x20+1))) else(none)) else(some (([]:List Int),false))))
end
def addr_row.f (k:Nat)(a0:ByteArray)(a1:Bool):Option (List Int×Bool):=if a0.toList=([]:List UInt8) then(some (([]:List Int),true)) else((strings_Split.f a0 (⟨#[58]⟩:ByteArray)).bind fun t107=>(addr_row.l0 k a1 ([]:List Int) t107 t107 (t107.length:Int) 0))
set_option maxRecDepth 100000 in
theorem addr_row.calls (k:Nat)(a0:ByteArray)(a1:Bool)(r1:List Int)(r2:Bool)(w:World)(hG:GoodW w)(h:addr_row.f k a0 a1=some (r1,r2)):
  Calls Tryz.prog 102 #[.string a0,.bool a1] w fun e w'=>∃ v0_:Value,e=.returned (.tuple #[v0_,.bool r2])∧Kd.R (Kd.int .u64) 23 w' w.heap.size (fun _=>True) v0_ r1∧Below w.heap.size w w':=by
 have HB:=Aside0.mk (Below.refl w.heap.size w)
 have H:=h
 unfold addr_row.f at H
 clear h
 by_cases c3:a0.toList=([]:List UInt8)
 ·rw[if_pos c3] at H
  have c3b0:(a0.toList==([]:List UInt8))=true:=beq_iff_eq.mpr c3
  have c3b1:(a0.toList != ([]:List UInt8))=false:=bne_eq_false_iff_eq.mpr c3
  clear c3
  simp only[Option.some.injEq,Prod.mk.injEq] at H
  obtain⟨rfl,rfl⟩:=H
  go_enter Tryz.func102,Tryz.ntmps102
  go_wp2
  go_ret2
  exact⟨_,by first|rfl|(simp[errW_none,errW_some]<;>rfl)|(simp[*,errW_none,errW_some]<;>rfl),by first|exact Kd.R_nil _ _ _ _ _|exact Kd.N_nil _ _ _ _ _|exact Kd.V_nil _ _ _ _ _|exact Kd.Q_nil _ _ _ _ _|exact Kd.S_nil _ _ _ _ _,by repeat (first|(with_reducible first|exact HB.out|apply zAb|apply zAa|apply zAc)|exact HB.out)⟩
 ·rw[if_neg c3] at H
  have c3b0:(a0.toList==([]:List UInt8))=false:=beq_eq_false_iff_ne.mpr c3
  have c3b1:(a0.toList != ([]:List UInt8))=true:=bne_iff_ne.mpr c3
  replace H:=Option.bind_eq_some_iff.mp H
  obtain⟨t107,A40,H⟩:=H
  try dsimp only at H
  have A4:=Aside0.mk A40
  clear A40
  have H':=Aside0.mk H
  clear H
  go_enter Tryz.func102,Tryz.ntmps102
  go_wp2_with (first|((with_reducible refine zAu (f:=103) rfl ?_);refine zCa (some 17) rfl rfl Tryz.func103 (by kernel_rfl) rfl #[.string a0,.string (⟨#[58]⟩:ByteArray)] rfl (by(try simp only[List.map_toArray,List.map_cons,List.map_nil]);first|done|rfl|(simp only[List.length_drop,List.length_take];rfl)) ?_;(with_reducible refine(strings_Split.calls a0 (⟨#[58]⟩:ByteArray) t107 _ ?side1 A4.out).mono ?_);(case side1=>first|exact hG|exact GoodW.below hG (by repeat (first|(with_reducible first|exact HB.out|apply zAb|apply zAa|apply zAc)|exact HB.out))|(repeat (first|exact hG|apply GoodW.drewN|apply GoodW.drew)));rintro e w5 ⟨v108,rfl,ho0,hb⟩;refine⟨_,rfl,?_⟩;have n0_:=Aside0.mk (Kd.R_lower ho0 (zAp (by repeat (first|(with_reducible first|exact HB.out|apply zAb|apply zAa|apply zAc)|exact HB.out))));have n1_:=Aside0.mk (zAi (by repeat (first|(with_reducible first|exact HB.out|apply zAb|apply zAa|apply zAc)|exact HB.out)) hb);clear HB;have HO109:=n0_;have HB:=n1_;clear n0_ n1_;(try clear hb);(try clear hb2);(try clear hk);(try clear hi);(try clear ho0);obtain⟨Ao6,co6,eo6⟩:=Kd.R_slice HO109.out;subst eo6))
  go_loopg [6,20] k (fun kq v6 v20 w'=>∃ (x6_1:List Int) (x20_1:Int),v20=.int .i64 x20_1∧Aside0 (addr_row.l0 kq a1 x6_1 t107 t107 (t107.length:Int) x20_1=some (r1,r2))∧Aside0 (kq≤k)∧Aside0 (Kd.R (Kd.int .u64) 23 w' w.heap.size (fun _=>True) v6 x6_1)∧Aside0 (Kd.R Kd.string 9 w' w.heap.size (fun _=>True) (.slice Ao6 t107.length co6) t107)∧Aside0 (Kd.R Kd.string 9 w' w.heap.size (fun _=>True) (.slice Ao6 t107.length co6) t107)∧Aside0 (Below w.heap.size w w'))
  case atStart=>exact⟨(([]:List Int)),(0),(by first|rfl|(simp;done)|(simp[*];done)),H',⟨Nat.le_refl _⟩,⟨by first|exact Kd.R_nil _ _ _ _ _|exact Kd.N_nil _ _ _ _ _|exact Kd.V_nil _ _ _ _ _|exact Kd.Q_nil _ _ _ _ _|exact Kd.S_nil _ _ _ _ _⟩,⟨by(with_reducible repeat (first|apply Kd.R_alloc|apply Kd.R_drewN|apply Kd.R_drew));exact HO109.out⟩,⟨by(with_reducible repeat (first|apply Kd.R_alloc|apply Kd.R_drewN|apply Kd.R_drew));exact HO109.out⟩,⟨by repeat (first|(with_reducible first|exact HB.out|apply zAb|apply zAa|apply zAc)|exact HB.out)⟩⟩
  case round=>
   clear H'
   try clear c1
   try clear p2
   try clear c3
   try clear c3b0
   try clear c3b1
   obtain⟨x6_1,x20_1,rfl,HA,HK1,HO_6,HO_7,HO_18,HB⟩:=hrel
   cases gk with
   |zero=>exact absurd HA.out (by simp[addr_row.l0])
   |succ k1=>
    have H:=HA.out
    clear HA
    simp only[addr_row.l0] at H
    by_cases c7:x20_1 < (t107.length:Int)
    ·rw[if_pos c7] at H
     have c7b0:=decide_eq_true c7
     clear c7
     by_cases c8:0≤x20_1
     ·rw[if_pos c8] at H
      have c8b0:=decide_eq_true c8
      clear c8
      by_cases c9:x20_1 < (t107.length:Int)
      ·rw[if_pos c9] at H
       have c9b0:=decide_eq_true c9
       clear c9
       have HC10:=Aside0.mk H
       clear H
       have p110:0≤(x20_1:Int):=of_decide_eq_true (by first|(with_reducible assumption)|assumption)
       have q110:x20_1 < (t107.length:Int):=of_decide_eq_true (by first|(with_reducible assumption)|assumption)
       obtain⟨ad110,e110,hx110_0⟩:=Kd.at_string (Kd.R_reads' HO_18.out).2.2 x20_1 p110 q110
       cases e110
       replace p110:=eq_true p110
       replace q110:=eq_true q110
       go_upto_region 8 with(fail)
       go_cut [36] (fun v36 wc=>∃ (kq:Nat) (x36_9:Bool),v36=.bool x36_9∧Aside0 (addr_row.j1 kq a1 x6_1 t107 (zB5 ByteArray.empty t107 x20_1) t107 (t107.length:Int) x20_1 x36_9=some (r1,r2))∧Aside0 (kq≤k1)∧Aside0 (Kd.R (Kd.int .u64) 23 wc w.heap.size (fun _=>True) u6 x6_1)∧Aside0 (Kd.R Kd.string 9 wc w.heap.size (fun _=>True) (.slice (some ad110) t107.length co6) t107)∧Aside0 (Kd.R Kd.string 9 wc w.heap.size (fun _=>True) (.slice (some ad110) t107.length co6) t107)∧Aside0 (Below w.heap.size w wc))
       case first=>
        have H:=HC10.out
        clear HC10
        by_cases c11:a1=true
        ·subst c11
         have H1:=H
         rw[if_pos rfl] at H1
         clear H
         have H:=H1
         clear H1
         by_cases c12:x20_1=(wrap64 ((t107.length:Int) - 1))
         ·rw[if_pos c12] at H
          have c12b0:(x20_1==(wrap64 ((t107.length:Int) - 1)))=true:=beq_iff_eq.mpr c12
          have c12b1:(x20_1 != (wrap64 ((t107.length:Int) - 1)))=false:=bne_eq_false_iff_eq.mpr c12
          clear c12
          (first|rw[c12b0]|(simp only[zG1,zIy];rw[c12b0])|skip)
          replace H:=Option.bind_eq_some_iff.mp H
          obtain⟨t111,A130,H⟩:=H
          try dsimp only at H
          have A13:=Aside0.mk A130
          clear A130
          have H':=Aside0.mk H
          clear H
          go_wp2_with (first|(go_at_call 84;(with_reducible refine(strings_Contains.calls (zB5 ByteArray.empty t107 x20_1) (⟨#[46]⟩:ByteArray) t111 _ ?side1 A13.out).mono ?_);(case side1=>first|exact hG|exact GoodW.below hG (by repeat (first|(with_reducible first|exact HB.out|apply zAb|apply zAa|apply zAc)|exact HB.out))|(repeat (first|exact hG|apply GoodW.drewN|apply GoodW.drew)));rintro e w' ⟨rfl,⟨nd,rfl⟩⟩))
          go_meet
          case rel=>exact⟨_,(t111),(by first|rfl|(simp;done)|(simp[*];done)),H',⟨by have:=HK1.out;first|omega|exact Nat.le_refl _⟩,⟨by(with_reducible repeat (first|apply Kd.R_alloc|apply Kd.R_drewN|apply Kd.R_drew));exact HO_6.out⟩,⟨by(with_reducible repeat (first|apply Kd.R_alloc|apply Kd.R_drewN|apply Kd.R_drew));exact HO_7.out⟩,⟨by(with_reducible repeat (first|apply Kd.R_alloc|apply Kd.R_drewN|apply Kd.R_drew));exact HO_18.out⟩,⟨by repeat (first|(with_reducible first|exact HB.out|apply zAb|apply zAa|apply zAc)|exact HB.out)⟩⟩
         ·rw[if_neg c12] at H
          have c12b0:(x20_1==(wrap64 ((t107.length:Int) - 1)))=false:=beq_eq_false_iff_ne.mpr c12
          have c12b1:(x20_1 != (wrap64 ((t107.length:Int) - 1)))=true:=bne_iff_ne.mpr c12
          (first|rw[c12b0]|(simp only[zG1,zIy];rw[c12b0])|skip)
          have H':=Aside0.mk H
          clear H
          go_wp2
          go_meet
          case rel=>exact⟨_,(false),(by first|rfl|(simp;done)|(simp[*];done)),H',⟨by have:=HK1.out;first|omega|exact Nat.le_refl _⟩,⟨by(with_reducible repeat (first|apply Kd.R_alloc|apply Kd.R_drewN|apply Kd.R_drew));exact HO_6.out⟩,⟨by(with_reducible repeat (first|apply Kd.R_alloc|apply Kd.R_drewN|apply Kd.R_drew));exact HO_7.out⟩,⟨by(with_reducible repeat (first|apply Kd.R_alloc|apply Kd.R_drewN|apply Kd.R_drew));exact HO_18.out⟩,⟨by repeat (first|(with_reducible first|exact HB.out|apply zAb|apply zAa|apply zAc)|exact HB.out)⟩⟩
        ·replace c11:=Bool.eq_false_iff.mpr c11
         subst c11
         have H1:(addr_row.j1 k1 false x6_1 t107 (zB5 ByteArray.empty t107 x20_1) t107 (t107.length:Int) x20_1 false)=some (r1,r2):=by rw[if_neg (show ¬ (false=true) by decide)] at H;exact H
         clear H
         have H:=H1
         clear H1
         have H':=Aside0.mk H
         clear H
         go_wp2
         go_meet
         case rel=>exact⟨_,(false),(by first|rfl|(simp;done)|(simp[*];done)),H',⟨by have:=HK1.out;first|omega|exact Nat.le_refl _⟩,⟨by(with_reducible repeat (first|apply Kd.R_alloc|apply Kd.R_drewN|apply Kd.R_drew));exact HO_6.out⟩,⟨by(with_reducible repeat (first|apply Kd.R_alloc|apply Kd.R_drewN|apply Kd.R_drew));exact HO_7.out⟩,⟨by(with_reducible repeat (first|apply Kd.R_alloc|apply Kd.R_drewN|apply Kd.R_drew));exact HO_18.out⟩,⟨by repeat (first|(with_reducible first|exact HB.out|apply zAb|apply zAa|apply zAc)|exact HB.out)⟩⟩
       case rest=>
        clear HC10
        try clear c1
        try clear p1
        try clear q1
        try clear hx1
        try clear p2
        try clear c3
        try clear c3b0
        try clear c3b1
        try clear p6
        try clear c7
        try clear c7b0
        try clear c8
        try clear c8b0
        try clear c9
        try clear c9b0
        try clear c10
        try clear c11
        try clear p11
        try clear q11
        try clear hx11
        try clear c12
        try clear c12b0
        try clear c12b1
        try clear hx110_0
        try clear p110
        try clear p2
        try clear q110
        obtain⟨kq,x36_9,rfl,HA,HJ9,HO_6,HO_7,HO_18,HB⟩:=hcut
        cases kq with
        |zero=>exact absurd HA.out (by simp[addr_row.j1])
        |succ kj9=>
         have H:=HA.out
         clear HA
         simp only[addr_row.j1] at H
         by_cases c14:x36_9=true
         ·subst c14
          have H1:=H
          rw[if_pos rfl] at H1
          clear H
          have H:=H1
          clear H1
          replace H:=Option.bind_eq_some_iff.mp H
          obtain⟨⟨t112,t113⟩,A150,H⟩:=H
          try dsimp only at H
          have A15:=Aside0.mk A150
          clear A150
          obtain⟨y114,hy114⟩:∃ y_:List Int,y_=(([t112 / 65536,Go.bits .and .u64 t112 65535]:List Int)):=⟨_,rfl⟩
          replace H:(if x6_1.length+y114.length < 17592186044416 then(some ((x6_1++y114),t113)) else(none))=some (r1,r2):=by first|(rw[hy114];with_reducible exact H)|(have H2_:=(Option.bind_some _ _).symm.trans H;rw[hy114];with_reducible exact H2_)|(have H2_:=(Option.bind_some _ _).symm.trans H;with_reducible exact H2_)|with_reducible exact H|(rw[hy114];exact H)|exact H
          have Ny114:=Aside0.mk hy114
          clear hy114
          by_cases c16:x6_1.length+y114.length < 17592186044416
          ·rw[if_pos c16] at H
           have LMc16:=Aside0.mk c16
           clear c16
           obtain⟨y117,hy117⟩:∃ y_:List Int,y_=(x6_1++y114):=⟨_,rfl⟩
           replace H:(some (y117,t113))=some (r1,r2):=by first|(rw[hy117];with_reducible exact H)|(have H2_:=(Option.bind_some _ _).symm.trans H;rw[hy117];with_reducible exact H2_)|(have H2_:=(Option.bind_some _ _).symm.trans H;with_reducible exact H2_)|with_reducible exact H|(rw[hy117];exact H)|exact H
           have Ny117:=Aside0.mk hy117
           clear hy117
           simp only[Option.some.injEq,Prod.mk.injEq] at H
           obtain⟨rfl,rfl⟩:=H
           go_wp2_with (first|((with_reducible refine zAu (f:=86) rfl ?_);refine zCa (some 39) rfl rfl Tryz.func86 (by kernel_rfl) rfl #[.string (zB5 ByteArray.empty t107 x20_1)] rfl (by(try simp only[List.map_toArray,List.map_cons,List.map_nil]);first|done|rfl|(simp only[List.length_drop,List.length_take];rfl)) ?_;(with_reducible refine(addr_four.calls kj9 (zB5 ByteArray.empty t107 x20_1) t112 t113 _ ?side1 A15.out).mono ?_);(case side1=>first|exact hG|exact GoodW.below hG (by repeat (first|(with_reducible first|exact HB.out|apply zAb|apply zAa|apply zAc)|exact HB.out))|(repeat (first|exact hG|apply GoodW.drewN|apply GoodW.drew)));rintro e w17 ⟨rfl,hb⟩;refine⟨_,rfl,?_⟩;have n0_:=Aside0.mk (Kd.R_below (by(with_reducible repeat (first|apply Kd.R_alloc|apply Kd.R_drewN|apply Kd.R_drew));exact HO_6.out) hb);have n1_:=Aside0.mk (Kd.R_below (by(with_reducible repeat (first|apply Kd.R_alloc|apply Kd.R_drewN|apply Kd.R_drew));exact HO_7.out) hb);have n2_:=Aside0.mk (Kd.R_below (by(with_reducible repeat (first|apply Kd.R_alloc|apply Kd.R_drewN|apply Kd.R_drew));exact HO_18.out) hb);have n3_:=Aside0.mk (zAi (by repeat (first|(with_reducible first|exact HB.out|apply zAb|apply zAa|apply zAc)|exact HB.out)) hb);clear HO_6;clear HO_7;clear HO_18;clear HB;have HO_6:=n0_;have HO_7:=n1_;have HO_18:=n2_;have HB:=n3_;clear n0_ n1_ n2_ n3_;(try clear hb);(try clear hb2);(try clear hk);(try clear hi))|((with_reducible refine zBv (N:=47) rfl ?_);(try(refine zCw (by rfl) ?_;dsimp only));refine Kd.R_lit (Kd.int .u64) _ 23 ?hg (N:=47) ?hd (xs:=([t112 / 65536,Go.bits .and .u64 t112 65535]:List Int)) (inner:=[.int .u64 (t112 / 65536),.int .u64 (Go.bits .and .u64 t112 65535)]) (ok:=fun _=>True) (okp:=fun _=>True) ?hr ?hp (fun _ hk=>hk) trivial (Below.refl _ _) (Nat.le_refl _) (by simp) ?_;(case hd=>rfl);(case hg=>rfl);(case hr=>first|(go_simp;done)|(go_simp;rfl));(case hp=>exact(Reps.one (show Kd.M (Kd.int .u64) _ _ _ (t112 / 65536) [.int .u64 (t112 / 65536)] from rfl) (Reps.one (show Kd.M (Kd.int .u64) _ _ _ (Go.bits .and .u64 t112 65535) [.int .u64 (Go.bits .and .u64 t112 65535)] from rfl) (Reps.none _ _))));intro v115 w18 ho19 hb hg_ hnew_;clear hg_ hnew_;(first|rw[← Ny114.out] at ho19|(simp only[Int.reduceToNat] at ho19;rw[← Ny114.out] at ho19));have n0_:=Aside0.mk (Kd.R_elder' (by(with_reducible repeat (first|apply Kd.R_alloc|apply Kd.R_drewN|apply Kd.R_drew));exact HO_6.out) (Kd.R_base ho19) hb);have n1_:=Aside0.mk (Kd.R_below (by(with_reducible repeat (first|apply Kd.R_alloc|apply Kd.R_drewN|apply Kd.R_drew));exact HO_7.out) hb);have n2_:=Aside0.mk (Kd.R_below (by(with_reducible repeat (first|apply Kd.R_alloc|apply Kd.R_drewN|apply Kd.R_drew));exact HO_18.out) hb);have n3_:=Aside0.mk (Kd.R_lower (Kd.R_new' ho19 (Kd.R_lt (by(with_reducible repeat (first|apply Kd.R_alloc|apply Kd.R_drewN|apply Kd.R_drew));exact HO_6.out))) (zAp (by repeat (first|(with_reducible first|exact HB.out|apply zAb|apply zAa|apply zAc)|exact HB.out))));have n4_:=Aside0.mk (zAi (by repeat (first|(with_reducible first|exact HB.out|apply zAb|apply zAa|apply zAc)|exact HB.out)) hb);clear HO_6;clear HO_7;clear HO_18;clear HB;have HO_6:=n0_;have HO_7:=n1_;have HO_18:=n2_;have HO116:=n3_;have HB:=n4_;clear n0_ n1_ n2_ n3_ n4_;clear hb ho19;obtain⟨Ao21,co21,eo21⟩:=Kd.R_slice HO116.out;subst eo21)|((with_reducible refine zCs (b:=.append) (xs:=#[.tmp 42,.tmp 47]) rfl ?_);(try(refine zCw (by rfl) ?_;dsimp only));at_builtin;refine Kd.R_append_rows (Kd.int .u64) (w0:=w) w.heap.size rfl (.tmp 42) (.tmp 47) 95 23 (.int .u64 0) 8 rfl Tryz.underlying95 info23 rfl (by decide) (by omega) u6 x6_1 y114 _ _ _ (fun k_=>some k_≠(.slice Ao21 y114.length co21:Value).ownBlock) (fun _=>False) rfl rfl ?aO ?aR (fun _ _ h=>h) (fun _ h=>h.elim) ?aF ?aB ?aS ?aL ?_;(case aR=>repeat (first|exact(Kd.R_reads' HO116.out).2.2|(with_reducible refine Kd.C_alloc ?_ _)|(with_reducible refine Kd.C_drewN ?_ _)|(with_reducible refine Kd.C_drew ?_)));(case aB=>exact(by repeat (first|(with_reducible first|exact HB.out|apply zAb|apply zAa|apply zAc)|exact HB.out)));(case aF=>exact(fun k_ hk=>Kd.fresh' (Kd.R_lt (by(with_reducible repeat (first|apply Kd.R_alloc|apply Kd.R_drewN|apply Kd.R_drew));exact HO116.out)) k_ hk));(case aO=>exact(by(with_reducible repeat (first|apply Kd.R_alloc|apply Kd.R_drewN|apply Kd.R_drew));exact Kd.R_mono HO_6.out (fun _ hk=>hk.2)));(case aS=>exact(zAp (by repeat (first|(with_reducible first|exact HB.out|apply zAb|apply zAa|apply zAc)|exact HB.out))));(case aL=>have:=LMc16.out;omega);intro v118 w20 ho hb hg hat;rw[← Ny117.out] at ho;have n0_:=Aside0.mk (Kd.R_over' (by(with_reducible repeat (first|apply Kd.R_alloc|apply Kd.R_drewN|apply Kd.R_drew));exact HO_7.out) (Kd.R_typed (by(with_reducible repeat (first|apply Kd.R_alloc|apply Kd.R_drewN|apply Kd.R_drew));exact HO_6.out)) (by decide) hg);have n1_:=Aside0.mk (Kd.R_over' (by(with_reducible repeat (first|apply Kd.R_alloc|apply Kd.R_drewN|apply Kd.R_drew));exact HO_18.out) (Kd.R_typed (by(with_reducible repeat (first|apply Kd.R_alloc|apply Kd.R_drewN|apply Kd.R_drew));exact HO_6.out)) (by decide) hg);have n2_:=Aside0.mk (Kd.R_after (ok:=(fun _=>True)) (by(with_reducible repeat (first|apply Kd.R_alloc|apply Kd.R_drewN|apply Kd.R_drew));exact HO116.out) hg hat);have n3_:=Aside0.mk (hb);have n4_:=Aside0.mk (ho);clear HO_7;clear HO_18;clear HO116;clear HB;clear HO_6;have HO_7:=n0_;have HO_18:=n1_;have HO116:=n2_;have HB:=n3_;have HO119:=n4_;clear n0_ n1_ n2_ n3_ n4_;clear ho hb hg hat))
           go_ret2
           exact⟨_,by first|rfl|(simp[errW_none,errW_some]<;>rfl)|(simp[*,errW_none,errW_some]<;>rfl),by(with_reducible repeat (first|apply Kd.R_alloc|apply Kd.R_drewN|apply Kd.R_drew));exact Kd.R_mono HO119.out (fun _ hk=>trivial),by repeat (first|(with_reducible first|exact HB.out|apply zAb|apply zAa|apply zAc)|exact HB.out)⟩
          ·rw[if_neg c16] at H
           exact absurd H (by simp)
         ·replace c14:=Bool.eq_false_iff.mpr c14
          subst c14
          have H1:((addr_hex.f (zB5 ByteArray.empty t107 x20_1)).bind fun bt120=>(if bt120.2=true then(if x6_1.length < 17592186044416 then(addr_row.l0 kj9 a1 (x6_1++[bt120.1]) t107 t107 (t107.length:Int) (wrap64 (x20_1+1))) else(none)) else(some (([]:List Int),false))))=some (r1,r2):=by rw[if_neg (show ¬ (false=true) by decide)] at H;exact H
          clear H
          have H:=H1
          clear H1
          replace H:=Option.bind_eq_some_iff.mp H
          obtain⟨⟨t120,t121⟩,A220,H⟩:=H
          try dsimp only at H
          have A22:=Aside0.mk A220
          clear A220
          by_cases c23:t121=true
          ·subst c23
           have H1:=H
           rw[if_pos rfl] at H1
           clear H
           have H:=H1
           clear H1
           by_cases c24:x6_1.length < 17592186044416
           ·rw[if_pos c24] at H
            have LMc24:=Aside0.mk c24
            clear c24
            obtain⟨y122,hy122⟩:∃ y_:List Int,y_=(x6_1++[t120]):=⟨_,rfl⟩
            replace H:(addr_row.l0 kj9 a1 y122 t107 t107 (t107.length:Int) (wrap64 (x20_1+1)))=some (r1,r2):=by first|(rw[hy122];with_reducible exact H)|(have H2_:=(Option.bind_some _ _).symm.trans H;rw[hy122];with_reducible exact H2_)|(have H2_:=(Option.bind_some _ _).symm.trans H;with_reducible exact H2_)|with_reducible exact H|(rw[hy122];exact H)|exact H
            have Ny122:=Aside0.mk hy122
            clear hy122
            have H':=Aside0.mk H
            clear H
            go_wp2_with (first|((with_reducible refine zAu (f:=115) rfl ?_);refine zCa (some 52) rfl rfl Tryz.func115 (by kernel_rfl) rfl #[.string (zB5 ByteArray.empty t107 x20_1)] rfl (by(try simp only[List.map_toArray,List.map_cons,List.map_nil]);first|done|rfl|(simp only[List.length_drop,List.length_take];rfl)) ?_;(with_reducible refine(addr_hex.calls (zB5 ByteArray.empty t107 x20_1) t120 true _ ?side1 A22.out).mono ?_);(case side1=>first|exact hG|exact GoodW.below hG (by repeat (first|(with_reducible first|exact HB.out|apply zAb|apply zAa|apply zAc)|exact HB.out))|(repeat (first|exact hG|apply GoodW.drewN|apply GoodW.drew)));rintro e w25 ⟨rfl,hb⟩;refine⟨_,rfl,?_⟩;have n0_:=Aside0.mk (Kd.R_below (by(with_reducible repeat (first|apply Kd.R_alloc|apply Kd.R_drewN|apply Kd.R_drew));exact HO_6.out) hb);have n1_:=Aside0.mk (Kd.R_below (by(with_reducible repeat (first|apply Kd.R_alloc|apply Kd.R_drewN|apply Kd.R_drew));exact HO_7.out) hb);have n2_:=Aside0.mk (Kd.R_below (by(with_reducible repeat (first|apply Kd.R_alloc|apply Kd.R_drewN|apply Kd.R_drew));exact HO_18.out) hb);have n3_:=Aside0.mk (zAi (by repeat (first|(with_reducible first|exact HB.out|apply zAb|apply zAa|apply zAc)|exact HB.out)) hb);clear HO_6;clear HO_7;clear HO_18;clear HB;have HO_6:=n0_;have HO_7:=n1_;have HO_18:=n2_;have HB:=n3_;clear n0_ n1_ n2_ n3_;(try clear hb);(try clear hb2);(try clear hk);(try clear hi))|((with_reducible refine zCs (b:=.append) (xs:=#[.tmp 57,.tmp 59]) rfl ?_);(try(refine zCw (by rfl) ?_;dsimp only));at_builtin;refine Kd.R_append (Kd.int .u64) (w0:=w) w.heap.size rfl (.tmp 57) (.tmp 59) 95 23 (.int .u64 0) 8 rfl Tryz.underlying95 info23 rfl (by decide) (by omega) u6 x6_1 t120 [.int .u64 t120] (fun _=>True) (fun _=>False) rfl rfl ?aP (fun _ hk=>hk.elim) ?aF ?aO ?aB ?aS ?aL ?_;(case aP=>exact rfl);(case aB=>exact(by repeat (first|(with_reducible first|exact HB.out|apply zAb|apply zAa|apply zAc)|exact HB.out)));(case aF=>exact(fun _ _=>trivial));(case aO=>exact(by(with_reducible repeat (first|apply Kd.R_alloc|apply Kd.R_drewN|apply Kd.R_drew));exact HO_6.out));(case aS=>exact(zAp (by repeat (first|(with_reducible first|exact HB.out|apply zAb|apply zAa|apply zAc)|exact HB.out))));(case aL=>have:=LMc24.out;omega);intro v123 w26 ho hb hg hat;rw[← Ny122.out] at ho;have n0_:=Aside0.mk (Kd.R_over' (by(with_reducible repeat (first|apply Kd.R_alloc|apply Kd.R_drewN|apply Kd.R_drew));exact HO_7.out) (Kd.R_typed (by(with_reducible repeat (first|apply Kd.R_alloc|apply Kd.R_drewN|apply Kd.R_drew));exact HO_6.out)) (by decide) hg);have n1_:=Aside0.mk (Kd.R_over' (by(with_reducible repeat (first|apply Kd.R_alloc|apply Kd.R_drewN|apply Kd.R_drew));exact HO_18.out) (Kd.R_typed (by(with_reducible repeat (first|apply Kd.R_alloc|apply Kd.R_drewN|apply Kd.R_drew));exact HO_6.out)) (by decide) hg);have n2_:=Aside0.mk (hb);have n3_:=Aside0.mk (ho);clear HO_7;clear HO_18;clear HB;clear HO_6;have HO_7:=n0_;have HO_18:=n1_;have HB:=n2_;have HO124:=n3_;clear n0_ n1_ n2_ n3_;clear ho hb hg hat))
            go_roundg kj9
            case measure=>have:=HK1.out;have:=HJ9.out;omega
            case rel=>exact⟨(y122),(wrap64 (x20_1+1)),(by first|rfl|(simp;done)|(simp[*];done)),H',⟨by have:=HK1.out;have:=HJ9.out;omega⟩,⟨by(with_reducible repeat (first|apply Kd.R_alloc|apply Kd.R_drewN|apply Kd.R_drew));exact HO124.out⟩,⟨by(with_reducible repeat (first|apply Kd.R_alloc|apply Kd.R_drewN|apply Kd.R_drew));exact HO_7.out⟩,⟨by(with_reducible repeat (first|apply Kd.R_alloc|apply Kd.R_drewN|apply Kd.R_drew));exact HO_18.out⟩,⟨by repeat (first|(with_reducible first|exact HB.out|apply zAb|apply zAa|apply zAc)|exact HB.out)⟩⟩
           ·rw[if_neg c24] at H
            exact absurd H (by simp)
          ·replace c23:=Bool.eq_false_iff.mpr c23
           subst c23
           have H1:(some (([]:List Int),false))=some (r1,r2):=by rw[if_neg (show ¬ (false=true) by decide)] at H;exact H
           clear H
           have H:=H1
           clear H1
           simp only[Option.some.injEq,Prod.mk.injEq] at H
           obtain⟨rfl,rfl⟩:=H
           go_wp2_with (first|((with_reducible refine zAu (f:=115) rfl ?_);refine zCa (some 52) rfl rfl Tryz.func115 (by kernel_rfl) rfl #[.string (zB5 ByteArray.empty t107 x20_1)] rfl (by(try simp only[List.map_toArray,List.map_cons,List.map_nil]);first|done|rfl|(simp only[List.length_drop,List.length_take];rfl)) ?_;(with_reducible refine(addr_hex.calls (zB5 ByteArray.empty t107 x20_1) t120 false _ ?side1 A22.out).mono ?_);(case side1=>first|exact hG|exact GoodW.below hG (by repeat (first|(with_reducible first|exact HB.out|apply zAb|apply zAa|apply zAc)|exact HB.out))|(repeat (first|exact hG|apply GoodW.drewN|apply GoodW.drew)));rintro e w27 ⟨rfl,hb⟩;refine⟨_,rfl,?_⟩;have n0_:=Aside0.mk (Kd.R_below (by(with_reducible repeat (first|apply Kd.R_alloc|apply Kd.R_drewN|apply Kd.R_drew));exact HO_6.out) hb);have n1_:=Aside0.mk (Kd.R_below (by(with_reducible repeat (first|apply Kd.R_alloc|apply Kd.R_drewN|apply Kd.R_drew));exact HO_7.out) hb);have n2_:=Aside0.mk (Kd.R_below (by(with_reducible repeat (first|apply Kd.R_alloc|apply Kd.R_drewN|apply Kd.R_drew));exact HO_18.out) hb);have n3_:=Aside0.mk (zAi (by repeat (first|(with_reducible first|exact HB.out|apply zAb|apply zAa|apply zAc)|exact HB.out)) hb);clear HO_6;clear HO_7;clear HO_18;clear HB;have HO_6:=n0_;have HO_7:=n1_;have HO_18:=n2_;have HB:=n3_;clear n0_ n1_ n2_ n3_;(try clear hb);(try clear hb2);(try clear hk);(try clear hi)))
           go_ret2
           exact⟨_,by first|rfl|(simp[errW_none,errW_some]<;>rfl)|(simp[*,errW_none,errW_some]<;>rfl),by first|exact Kd.R_nil _ _ _ _ _|exact Kd.N_nil _ _ _ _ _|exact Kd.V_nil _ _ _ _ _|exact Kd.Q_nil _ _ _ _ _|exact Kd.S_nil _ _ _ _ _,by repeat (first|(with_reducible first|exact HB.out|apply zAb|apply zAa|apply zAc)|exact HB.out)⟩
      ·rw[if_neg c9] at H
       exact absurd H (by simp)
     ·rw[if_neg c8] at H
      exact absurd H (by simp)
    ·rw[if_neg c7] at H
     have c7b0:decide (x20_1 < (t107.length:Int))=false:=decide_eq_false c7
     clear c7
     simp only[Option.some.injEq,Prod.mk.injEq] at H
     obtain⟨rfl,rfl⟩:=H
     go_wp2
     go_ret2
     exact⟨_,by first|rfl|(simp[errW_none,errW_some]<;>rfl)|(simp[*,errW_none,errW_some]<;>rfl),by(with_reducible repeat (first|apply Kd.R_alloc|apply Kd.R_drewN|apply Kd.R_drew));exact HO_6.out,by repeat (first|(with_reducible first|exact HB.out|apply zAb|apply zAa|apply zAc)|exact HB.out)⟩
mutual
def addr_zeros.l0:Nat→List Int→Int→Int→Int→Int→Option (Int×Int)
 |0,_,_,_,_,_=>none
 |k+1,x0,x4,x5,x9,x10=>if x10 < x9 then(addr_zeros.l1 k x0 x4 x5 x10 x10 x9 x10) else(some (x4,x5))
def addr_zeros.l1:Nat→List Int→Int→Int→Int→Int→Int→Int→Option (Int×Int)
 |0,_,_,_,_,_,_,_=>none
 |k+1,x0,x4,x5,x6,x7,x9,x10=>if x7 < (x0.length:Int) then(if 0≤x7 then(if(rd x0 x7)=0 then(addr_zeros.l1 k x0 x4 x5 x6 (wrap64 (x7+1)) x9 x10) else(if(wrap64 (x7 - x6)) > (wrap64 (x5 - x4)) then(if(wrap64 (x7 - x6)) > 1 then(addr_zeros.l0 k x0 x6 x7 x9 (wrap64 (x10+1))) else(addr_zeros.l0 k x0 x4 x5 x9 (wrap64 (x10+1)))) else(addr_zeros.l0 k x0 x4 x5 x9 (wrap64 (x10+1))))) else(none)) else(if(wrap64 (x7 - x6)) > (wrap64 (x5 - x4)) then(if(wrap64 (x7 - x6)) > 1 then(addr_zeros.l0 k x0 x6 x7 x9 (wrap64 (x10+1))) else(addr_zeros.l0 k x0 x4 x5 x9 (wrap64 (x10+1)))) else(addr_zeros.l0 k x0 x4 x5 x9 (wrap64 (x10+1))))
end
def addr_zeros.f (k:Nat)(l0:List Int):Option (Int×Int):=addr_zeros.l0 k l0 0 0 (l0.length:Int) 0
set_option maxRecDepth 100000 in
theorem addr_zeros.calls (k:Nat)(A0:Option Addr)(c0:Nat)(l0:List Int)(r1:Int)(r2:Int)(w:World)(hr0:Kd.C (Kd.int .u64) w A0 l0.length l0)(hc0:l0.length≤c0)(hG:GoodW w)(h:addr_zeros.f k l0=some (r1,r2)):
  Calls Tryz.prog 92 #[.slice A0 l0.length c0] w fun e w'=>e=.returned (.tuple #[.int .i64 r1,.int .i64 r2])∧Drawn0 w w':=by
 have HR0:=Aside0.mk hr0
 have HC0:=Aside0.mk hc0
 clear hr0 hc0
 have H:=h
 unfold addr_zeros.f at H
 clear h
 have H':=Aside0.mk H
 clear H
 go_enter Tryz.func92,Tryz.ntmps92
 go_wp2
 go_loopg [4,5,10] k (fun kq v4 v5 v10 w'=>∃ (x4_1:Int) (x5_1:Int) (x10_1:Int),v4=.int .i64 x4_1∧v5=.int .i64 x5_1∧v10=.int .i64 x10_1∧Aside0 (addr_zeros.l0 kq l0 x4_1 x5_1 (l0.length:Int) x10_1=some (r1,r2))∧Aside0 (kq≤k)∧Drawn0 w w')
 case atStart=>exact⟨(0),(0),(0),(by first|rfl|(simp;done)|(simp[*];done)),(by first|rfl|(simp;done)|(simp[*];done)),(by first|rfl|(simp;done)|(simp[*];done)),H',⟨Nat.le_refl _⟩,by repeat (first|exact Drawn0.refl _|apply Drawn0.step)⟩
 case round=>
  clear H'
  obtain⟨x4_1,x5_1,x10_1,rfl,rfl,rfl,HA,HK1,⟨m1,rfl⟩⟩:=hrel
  cases gk with
  |zero=>exact absurd HA.out (by simp[addr_zeros.l0])
  |succ k1=>
   have H:=HA.out
   clear HA
   simp only[addr_zeros.l0] at H
   by_cases c2:x10_1 < (l0.length:Int)
   ·rw[if_pos c2] at H
    have c2b0:=decide_eq_true c2
    clear c2
    have H':=Aside0.mk H
    clear H
    go_wp2
    go_loopg [7] k1 (fun kq v7 w'=>∃ (x7_2:Int),v7=.int .i64 x7_2∧Aside0 (addr_zeros.l1 kq l0 x4_1 x5_1 x10_1 x7_2 (l0.length:Int) x10_1=some (r1,r2))∧Aside0 (kq≤k1)∧Drawn0 w w')
    case atStart=>exact⟨(x10_1),(by first|rfl|(simp;done)|(simp[*];done)),H',⟨Nat.le_refl _⟩,by repeat (first|exact Drawn0.refl _|apply Drawn0.step)⟩
    case round=>
     clear H'
     try clear c2
     try clear c2b0
     try clear p2
     obtain⟨x7_2,rfl,HA,HK2,⟨m2,rfl⟩⟩:=hrel
     cases gk with
     |zero=>exact absurd HA.out (by simp[addr_zeros.l1])
     |succ k2=>
      have H:=HA.out
      clear HA
      simp only[addr_zeros.l1] at H
      by_cases c3:x7_2 < (l0.length:Int)
      ·rw[if_pos c3] at H
       have c3b0:=decide_eq_true c3
       clear c3
       by_cases c4:0≤x7_2
       ·rw[if_pos c4] at H
        have c4b0:=decide_eq_true c4
        clear c4
        by_cases c5:(rd l0 x7_2)=0
        ·rw[if_pos c5] at H
         have c5b0:((rd l0 x7_2)==0)=true:=beq_iff_eq.mpr c5
         have c5b1:((rd l0 x7_2) != 0)=false:=bne_eq_false_iff_eq.mpr c5
         clear c5
         have H':=Aside0.mk H
         clear H
         have p125:0≤(x7_2:Int):=of_decide_eq_true (by first|(with_reducible assumption)|assumption)
         have q125:x7_2 < (l0.length:Int):=of_decide_eq_true (by first|(with_reducible assumption)|assumption)
         obtain⟨ad125,e125,hx125_0⟩:=Kd.at_int HR0.out x7_2 p125 q125
         cases e125
         replace p125:=eq_true p125
         replace q125:=eq_true q125
         go_wp2
         go_roundg k2
         case measure=>have:=HK1.out;have:=HK2.out;omega
         case rel=>exact⟨(wrap64 (x7_2+1)),(by first|rfl|(simp;done)|(simp[*];done)),H',⟨by have:=HK1.out;have:=HK2.out;omega⟩,by repeat (first|exact Drawn0.refl _|apply Drawn0.step)⟩
        ·rw[if_neg c5] at H
         have c5b0:((rd l0 x7_2)==0)=false:=beq_eq_false_iff_ne.mpr c5
         have c5b1:((rd l0 x7_2) != 0)=true:=bne_iff_ne.mpr c5
         by_cases c6:(wrap64 (x7_2 - x10_1)) > (wrap64 (x5_1 - x4_1))
         ·rw[if_pos c6] at H
          have c6b0:=decide_eq_true c6
          clear c6
          by_cases c7:(wrap64 (x7_2 - x10_1)) > 1
          ·rw[if_pos c7] at H
           have c7b0:=decide_eq_true c7
           clear c7
           have H':=Aside0.mk H
           clear H
           have p125:0≤(x7_2:Int):=of_decide_eq_true (by first|(with_reducible assumption)|assumption)
           have q125:x7_2 < (l0.length:Int):=of_decide_eq_true (by first|(with_reducible assumption)|assumption)
           obtain⟨ad125,e125,hx125_0⟩:=Kd.at_int HR0.out x7_2 p125 q125
           cases e125
           replace p125:=eq_true p125
           replace q125:=eq_true q125
           go_wp2
           go_roundg k2
           case measure=>have:=HK1.out;have:=HK2.out;omega
           case rel=>exact⟨(x10_1),(x7_2),(wrap64 (x10_1+1)),(by first|rfl|(simp;done)|(simp[*];done)),(by first|rfl|(simp;done)|(simp[*];done)),(by first|rfl|(simp;done)|(simp[*];done)),H',⟨by have:=HK1.out;have:=HK2.out;omega⟩,by repeat (first|exact Drawn0.refl _|apply Drawn0.step)⟩
          ·rw[if_neg c7] at H
           have c7b0:decide (1 < (wrap64 (x7_2 - x10_1)))=false:=decide_eq_false c7
           clear c7
           have H':=Aside0.mk H
           clear H
           have p125:0≤(x7_2:Int):=of_decide_eq_true (by first|(with_reducible assumption)|assumption)
           have q125:x7_2 < (l0.length:Int):=of_decide_eq_true (by first|(with_reducible assumption)|assumption)
           obtain⟨ad125,e125,hx125_0⟩:=Kd.at_int HR0.out x7_2 p125 q125
           cases e125
           replace p125:=eq_true p125
           replace q125:=eq_true q125
           go_wp2
           go_roundg k2
           case measure=>have:=HK1.out;have:=HK2.out;omega
           case rel=>exact⟨(x4_1),(x5_1),(wrap64 (x10_1+1)),(by first|rfl|(simp;done)|(simp[*];done)),(by first|rfl|(simp;done)|(simp[*];done)),(by first|rfl|(simp;done)|(simp[*];done)),H',⟨by have:=HK1.out;have:=HK2.out;omega⟩,by repeat (first|exact Drawn0.refl _|apply Drawn0.step)⟩
         ·rw[if_neg c6] at H
          have c6b0:decide ((wrap64 (x5_1 - x4_1)) < (wrap64 (x7_2 - x10_1)))=false:=decide_eq_false c6
          clear c6
          have H':=Aside0.mk H
          clear H
          have p125:0≤(x7_2:Int):=of_decide_eq_true (by first|(with_reducible assumption)|assumption)
          have q125:x7_2 < (l0.length:Int):=of_decide_eq_true (by first|(with_reducible assumption)|assumption)
          obtain⟨ad125,e125,hx125_0⟩:=Kd.at_int HR0.out x7_2 p125 q125
          cases e125
          replace p125:=eq_true p125
          replace q125:=eq_true q125
          go_wp2
          go_roundg k2
          case measure=>have:=HK1.out;have:=HK2.out;omega
          case rel=>exact⟨(x4_1),(x5_1),(wrap64 (x10_1+1)),(by first|rfl|(simp;done)|(simp[*];done)),(by first|rfl|(simp;done)|(simp[*];done)),(by first|rfl|(simp;done)|(simp[*];done)),H',⟨by have:=HK1.out;have:=HK2.out;omega⟩,by repeat (first|exact Drawn0.refl _|apply Drawn0.step)⟩
       ·rw[if_neg c4] at H
        exact absurd H (by simp)
      ·rw[if_neg c3] at H
       have c3b0:decide (x7_2 < (l0.length:Int))=false:=decide_eq_false c3
       clear c3
       by_cases c8:(wrap64 (x7_2 - x10_1)) > (wrap64 (x5_1 - x4_1))
       ·rw[if_pos c8] at H
        have c8b0:=decide_eq_true c8
        clear c8
        by_cases c9:(wrap64 (x7_2 - x10_1)) > 1
        ·rw[if_pos c9] at H
         have c9b0:=decide_eq_true c9
         clear c9
         have H':=Aside0.mk H
         clear H
         go_wp2
         go_roundg k2
         case measure=>have:=HK1.out;have:=HK2.out;omega
         case rel=>exact⟨(x10_1),(x7_2),(wrap64 (x10_1+1)),(by first|rfl|(simp;done)|(simp[*];done)),(by first|rfl|(simp;done)|(simp[*];done)),(by first|rfl|(simp;done)|(simp[*];done)),H',⟨by have:=HK1.out;have:=HK2.out;omega⟩,by repeat (first|exact Drawn0.refl _|apply Drawn0.step)⟩
        ·rw[if_neg c9] at H
         have c9b0:decide (1 < (wrap64 (x7_2 - x10_1)))=false:=decide_eq_false c9
         clear c9
         have H':=Aside0.mk H
         clear H
         go_wp2
         go_roundg k2
         case measure=>have:=HK1.out;have:=HK2.out;omega
         case rel=>exact⟨(x4_1),(x5_1),(wrap64 (x10_1+1)),(by first|rfl|(simp;done)|(simp[*];done)),(by first|rfl|(simp;done)|(simp[*];done)),(by first|rfl|(simp;done)|(simp[*];done)),H',⟨by have:=HK1.out;have:=HK2.out;omega⟩,by repeat (first|exact Drawn0.refl _|apply Drawn0.step)⟩
       ·rw[if_neg c8] at H
        have c8b0:decide ((wrap64 (x5_1 - x4_1)) < (wrap64 (x7_2 - x10_1)))=false:=decide_eq_false c8
        clear c8
        have H':=Aside0.mk H
        clear H
        go_wp2
        go_roundg k2
        case measure=>have:=HK1.out;have:=HK2.out;omega
        case rel=>exact⟨(x4_1),(x5_1),(wrap64 (x10_1+1)),(by first|rfl|(simp;done)|(simp[*];done)),(by first|rfl|(simp;done)|(simp[*];done)),(by first|rfl|(simp;done)|(simp[*];done)),H',⟨by have:=HK1.out;have:=HK2.out;omega⟩,by repeat (first|exact Drawn0.refl _|apply Drawn0.step)⟩
   ·rw[if_neg c2] at H
    have c2b0:decide (x10_1 < (l0.length:Int))=false:=decide_eq_false c2
    clear c2
    simp only[Option.some.injEq,Prod.mk.injEq] at H
    obtain⟨rfl,rfl⟩:=H
    go_wp2
    go_ret2
    exact⟨by first|rfl|(simp;done)|(simp[*];done),by repeat (first|exact Drawn0.refl _|apply Drawn0.step)⟩
def strings_Join.f (l0:List ByteArray)(a1:ByteArray):Option (ByteArray):=if(zMj l0 a1).size≤140737488355328∧l0.length≤140737488355328 then some (zMj l0 a1) else none
theorem strings_Join.calls (A0:Option Addr)(c0:Nat)(l0:List ByteArray)(a1:ByteArray)(r:ByteArray)(w:World)(hr0:Kd.C Kd.string w A0 l0.length l0)(hc0:l0.length≤c0)(hG:GoodW w)(h:strings_Join.f l0 a1=some r):
  Calls Tryz.prog 90 #[.slice A0 l0.length c0,.string a1] w fun e w'=>e=.returned (.string r)∧Below w.heap.size w w':=yJw hr0 hc0 h
def strconv_FormatUint.f (a0:Int)(a1:Int):Option (ByteArray):=yAw a0 a1
theorem strconv_FormatUint.calls (a0:Int)(a1:Int)(r:ByteArray)(w:World)(hG:GoodW w)(h:strconv_FormatUint.f a0 a1=some r):
  Calls Tryz.prog 94 #[.int .u64 a0,.int .i64 a1] w fun e w'=>e=.returned (.string r)∧Below w.heap.size w w':=by exact yN7 hG h
def addr_text.l0:Nat→List ByteArray→List Int→Int→Int→Option (ByteArray)
 |0,_,_,_,_=>none
 |k+1,x3,x6,x7,x8=>if x8 < x7 then(if 0≤x8 then(if x8 < (x6.length:Int) then((strconv_FormatUint.f (rd x6 x8) 16).bind fun t127=>(if x3.length < 8796093022208 then(addr_text.l0 k (x3++[t127]) x6 x7 (wrap64 (x8+1))) else(none))) else(none)) else(none)) else((strings_Join.f x3 (⟨#[58]⟩:ByteArray)).bind fun t131=>(some t131))
def addr_text.f (k:Nat)(l0:List Int):Option (ByteArray):=addr_text.l0 k ([]:List ByteArray) l0 (l0.length:Int) 0
set_option maxRecDepth 100000 in
theorem addr_text.calls (k:Nat)(A0:Option Addr)(c0:Nat)(l0:List Int)(r:ByteArray)(w:World)(hr0:Kd.C (Kd.int .u64) w A0 l0.length l0)(hc0:l0.length≤c0)(hG:GoodW w)(h:addr_text.f k l0=some r):
  Calls Tryz.prog 93 #[.slice A0 l0.length c0] w fun e w'=>e=.returned (.string r)∧Below w.heap.size w w':=by
 have HR0:=Aside0.mk hr0
 have HC0:=Aside0.mk hc0
 clear hr0 hc0
 have HB:=Aside0.mk (Below.refl w.heap.size w)
 have H:=h
 unfold addr_text.f at H
 clear h
 have H':=Aside0.mk H
 clear H
 go_enter Tryz.func93,Tryz.ntmps93
 go_wp2
 go_loopg [3,8] k (fun kq v3 v8 w'=>∃ (x3_1:List ByteArray) (x8_1:Int),v8=.int .i64 x8_1∧Aside0 (addr_text.l0 kq x3_1 l0 (l0.length:Int) x8_1=some r)∧Aside0 (kq≤k)∧Aside0 (Kd.R Kd.string 9 w' w.heap.size (fun _=>True) v3 x3_1)∧Aside0 (Below w.heap.size w w'))
 case atStart=>exact⟨(([]:List ByteArray)),(0),(by first|rfl|(simp;done)|(simp[*];done)),H',⟨Nat.le_refl _⟩,⟨by first|exact Kd.R_nil _ _ _ _ _|exact Kd.N_nil _ _ _ _ _|exact Kd.V_nil _ _ _ _ _|exact Kd.Q_nil _ _ _ _ _|exact Kd.S_nil _ _ _ _ _⟩,⟨by repeat (first|(with_reducible first|exact HB.out|apply zAb|apply zAa|apply zAc)|exact HB.out)⟩⟩
 case round=>
  clear H'
  obtain⟨x3_1,x8_1,rfl,HA,HK1,HO_3,HB⟩:=hrel
  cases gk with
  |zero=>exact absurd HA.out (by simp[addr_text.l0])
  |succ k1=>
   have H:=HA.out
   clear HA
   simp only[addr_text.l0] at H
   by_cases c2:x8_1 < (l0.length:Int)
   ·rw[if_pos c2] at H
    have c2b0:=decide_eq_true c2
    clear c2
    by_cases c3:0≤x8_1
    ·rw[if_pos c3] at H
     have c3b0:=decide_eq_true c3
     clear c3
     by_cases c4:x8_1 < (l0.length:Int)
     ·rw[if_pos c4] at H
      have c4b0:=decide_eq_true c4
      clear c4
      replace H:=Option.bind_eq_some_iff.mp H
      obtain⟨t127,A50,H⟩:=H
      try dsimp only at H
      have A5:=Aside0.mk A50
      clear A50
      by_cases c6:x3_1.length < 8796093022208
      ·rw[if_pos c6] at H
       have LMc6:=Aside0.mk c6
       clear c6
       obtain⟨y128,hy128⟩:∃ y_:List ByteArray,y_=(x3_1++[t127]):=⟨_,rfl⟩
       replace H:(addr_text.l0 k1 y128 l0 (l0.length:Int) (wrap64 (x8_1+1)))=some r:=by first|(rw[hy128];with_reducible exact H)|(have H2_:=(Option.bind_some _ _).symm.trans H;rw[hy128];with_reducible exact H2_)|(have H2_:=(Option.bind_some _ _).symm.trans H;with_reducible exact H2_)|with_reducible exact H|(rw[hy128];exact H)|exact H
       have Ny128:=Aside0.mk hy128
       clear hy128
       have H':=Aside0.mk H
       clear H
       have p126:0≤(x8_1:Int):=of_decide_eq_true (by first|(with_reducible assumption)|assumption)
       have q126:x8_1 < (l0.length:Int):=of_decide_eq_true (by first|(with_reducible assumption)|assumption)
       obtain⟨ad126,e126,hx126_0⟩:=Kd.at_int HR0.out x8_1 p126 q126
       cases e126
       replace hx126_0:=(HB.out.cell (World.block_lt_of_cell? w _ hx126_0)).trans hx126_0
       replace p126:=eq_true p126
       replace q126:=eq_true q126
       go_wp2_with (first|((with_reducible refine zAu (f:=94) rfl ?_);refine zCa (some 14) rfl rfl Tryz.func94 (by kernel_rfl) rfl #[.int .u64 (rd l0 x8_1),.int .i64 16] rfl (by(try simp only[List.map_toArray,List.map_cons,List.map_nil]);first|done|rfl|(simp only[List.length_drop,List.length_take];rfl)) ?_;(with_reducible refine(strconv_FormatUint.calls (rd l0 x8_1) 16 t127 _ ?side1 A5.out).mono ?_);(case side1=>first|exact hG|exact GoodW.below hG (by repeat (first|(with_reducible first|exact HB.out|apply zAb|apply zAa|apply zAc)|exact HB.out))|(repeat (first|exact hG|apply GoodW.drewN|apply GoodW.drew)));rintro e w7 ⟨rfl,hb⟩;refine⟨_,rfl,?_⟩;have n0_:=Aside0.mk (Kd.R_below (by(with_reducible repeat (first|apply Kd.R_alloc|apply Kd.R_drewN|apply Kd.R_drew));exact HO_3.out) hb);have n1_:=Aside0.mk (zAi (by repeat (first|(with_reducible first|exact HB.out|apply zAb|apply zAa|apply zAc)|exact HB.out)) hb);clear HO_3;clear HB;have HO_3:=n0_;have HB:=n1_;clear n0_ n1_;(try clear hb);(try clear hb2);(try clear hk);(try clear hi))|((with_reducible refine zCs (b:=.append) (xs:=#[.tmp 12,.tmp 15]) rfl ?_);at_builtin;refine Kd.R_append Kd.string (w0:=w) w.heap.size rfl (.tmp 12) (.tmp 15) 36 9 (.string ⟨#[]⟩) 16 rfl Tryz.underlying36 info9 rfl (by decide) (by omega) u3 x3_1 t127 [.string t127] (fun _=>True) (fun _=>False) rfl rfl ?aP (fun _ hk=>hk.elim) ?aF ?aO ?aB ?aS ?aL ?_;(case aP=>exact rfl);(case aB=>exact(by repeat (first|(with_reducible first|exact HB.out|apply zAb|apply zAa|apply zAc)|exact HB.out)));(case aF=>exact(fun _ _=>trivial));(case aO=>exact(by(with_reducible repeat (first|apply Kd.R_alloc|apply Kd.R_drewN|apply Kd.R_drew));exact HO_3.out));(case aS=>exact(zAp (by repeat (first|(with_reducible first|exact HB.out|apply zAb|apply zAa|apply zAc)|exact HB.out))));(case aL=>have:=LMc6.out;omega);intro v129 w8 ho hb hg hat;rw[← Ny128.out] at ho;have n0_:=Aside0.mk (hb);have n1_:=Aside0.mk (ho);clear HB;clear HO_3;have HB:=n0_;have HO130:=n1_;clear n0_ n1_;clear ho hb hg hat))
       go_roundg k1
       case measure=>have:=HK1.out;omega
       case rel=>exact⟨(y128),(wrap64 (x8_1+1)),(by first|rfl|(simp;done)|(simp[*];done)),H',⟨by have:=HK1.out;omega⟩,⟨by(with_reducible repeat (first|apply Kd.R_alloc|apply Kd.R_drewN|apply Kd.R_drew));exact HO130.out⟩,⟨by repeat (first|(with_reducible first|exact HB.out|apply zAb|apply zAa|apply zAc)|exact HB.out)⟩⟩
      ·rw[if_neg c6] at H
       exact absurd H (by simp)
     ·rw[if_neg c4] at H
      exact absurd H (by simp)
    ·rw[if_neg c3] at H
     exact absurd H (by simp)
   ·rw[if_neg c2] at H
    have c2b0:decide (x8_1 < (l0.length:Int))=false:=decide_eq_false c2
    clear c2
    replace H:=Option.bind_eq_some_iff.mp H
    obtain⟨t131,A90,H⟩:=H
    try dsimp only at H
    have A9:=Aside0.mk A90
    clear A90
    obtain rfl:=Option.some.inj H
    obtain⟨Ao10,co10,eo10⟩:=Kd.R_slice HO_3.out
    subst eo10
    go_wp2_with (first|((with_reducible refine zAu (f:=90) rfl ?_);refine zCa (some 19) rfl rfl Tryz.func90 (by kernel_rfl) rfl #[.slice Ao10 x3_1.length co10,.string (⟨#[58]⟩:ByteArray)] rfl (by(try simp only[List.map_toArray,List.map_cons,List.map_nil]);first|done|rfl|(simp only[List.length_drop,List.length_take];rfl)) ?_;(with_reducible refine(strings_Join.calls _ _ x3_1 (⟨#[58]⟩:ByteArray) t131 _ ?side1 ?side2 ?side3 A9.out).mono ?_);(case side1=>repeat (first|exact(Kd.R_reads' HO_3.out).2.2|(with_reducible refine Kd.C_alloc ?_ _)|(with_reducible refine Kd.C_drewN ?_ _)|(with_reducible refine Kd.C_drew ?_)));(case side2=>exact(Kd.R_reads' HO_3.out).2.1);(case side3=>first|exact hG|exact GoodW.below hG (by repeat (first|(with_reducible first|exact HB.out|apply zAb|apply zAa|apply zAc)|exact HB.out))|(repeat (first|exact hG|apply GoodW.drewN|apply GoodW.drew)));rintro e w11 ⟨rfl,hb⟩;refine⟨_,rfl,?_⟩;have n0_:=Aside0.mk (Kd.R_below (by(with_reducible repeat (first|apply Kd.R_alloc|apply Kd.R_drewN|apply Kd.R_drew));exact HO_3.out) hb);have n1_:=Aside0.mk (zAi (by repeat (first|(with_reducible first|exact HB.out|apply zAb|apply zAa|apply zAc)|exact HB.out)) hb);clear HO_3;clear HB;have HO_3:=n0_;have HB:=n1_;clear n0_ n1_;(try clear hb);(try clear hb2);(try clear hk);(try clear hi)))
    go_ret
    exact⟨by first|rfl|(simp[errW_none,errW_some]<;>rfl)|(simp[*,errW_none,errW_some]<;>rfl),by repeat (first|(with_reducible first|exact HB.out|apply zAb|apply zAa|apply zAc)|exact HB.out)⟩
end Go.Proofs.YtfnacgojmdbjmaaGreatDoor.PPH
namespace Go.Det
def exN:Nat→(List Int→Prop)→Prop
 |0,k=>k []
 |n+1,k=>∃ x:Int,exN n fun l=>k (x::l)
theorem zEm {k:List Int→Prop}:∀ {n:Nat} {l:List Int},l.length=n→k l→exN n k
 |0,[],_,h=>h
 |n+1,x::t,e,h=>⟨x,zEm (n:=n) (l:=t) (by simpa using e) h⟩
 |0,_::_,e,_=>by simp at e
 |_+1,[],e,_=>by simp at e
theorem zF7 {k:List Int→Prop}:∀ {n:Nat},exN n k→∃ l,l.length=n∧k l
 |0,h=>⟨[],rfl,h⟩
 |n+1,h=>by
  obtain⟨x,h⟩:=h
  obtain⟨l,e,h⟩:=zF7 (n:=n) h
  exact⟨x::l,by simp[e],h⟩
def yEx {α:Type}:List α→(α→Prop)→Prop
 |[],_=>False
 |x::t,k=>k x∨yEx t k
theorem zJq {α:Type}{k:α→Prop}:∀ {l:List α},yEx l k→∃ x∈l,k x
 |[],h=>h.elim
 |x::t,h=>by
  rcases h with h|h
  ·exact⟨x,List.mem_cons_self,h⟩
  ·obtain⟨y,h1,h2⟩:=zJq h
   exact⟨y,List.mem_cons_of_mem _ h1,h2⟩
theorem zF8 {α:Type}{k:α→Prop}:∀ {l:List α} {x:α},x∈l→k x→yEx l k
 |y::t,x,h,hk=>by
  rcases List.mem_cons.1 h with rfl|h
  ·exact .inl hk
  ·exact .inr (zF8 h hk)
def Con.readsS {β γ δ:Type}(shapes:List δ)(d:Value→Option β)(dr:List Value→Option γ)(F:List β→γ→Option δ)(enc:δ→Value):Con where
 own:=zMn d dr F enc
 w:=fun args s K=>match args with
  |v::rest=>(match yPq v with
   |true=>(match dr rest with
    |some g=>(match yFz v with
     |some n=>(match zBu s 1 n v with
      |some x=>(match yC3 d x.1 with
       |some l=>yEx shapes fun r=>F l g=some r∧K (enc r) x.2
       |none=>False)
      |none=>False)
     |none=>False)
    |none=>False)
   |false=>False)
  |[]=>False
 ok:=by
  intro args s K h
  unfold zMn
  split at h
  case h_2=>exact h.elim
  split at h
  case h_2=>exact h.elim
  rename_i h1
  split at h
  case h_2=>exact h.elim
  rename_i g h2
  split at h
  case h_2=>exact h.elim
  rename_i n h3
  split at h
  case h_2=>exact h.elim
  rename_i x h4
  split at h
  case h_2=>exact h.elim
  rename_i l h5
  obtain⟨r,hm,hr,hk⟩:=zJq h
  exact⟨enc r,x.2,by simp only[h1,h2,h3,h4,h5,hr],hk,fun K' k=>zF8 hm ⟨hr,k⟩⟩
 mono:=by
  intro args s K K' k h
  split at h
  case h_2=>exact h.elim
  split at h
  case h_2=>exact h.elim
  rename_i h1
  split at h
  case h_2=>exact h.elim
  rename_i g h2
  split at h
  case h_2=>exact h.elim
  rename_i n h3
  split at h
  case h_2=>exact h.elim
  rename_i x h4
  split at h
  case h_2=>exact h.elim
  rename_i l h5
  obtain⟨r,hm,hr,hk⟩:=zJq h
  first|exact zF8 hm ⟨hr,k _ _ hk⟩|(simp only[*];exact zF8 hm ⟨hr,k _ _ hk⟩)
def zT2:List Value→Option (ByteArray×Bool)
 |[.string t,.bool last]=>some (t,last)
 |_=>none
theorem yA1 {args:List Value}{a:ByteArray×Bool}(h:zT2 args=some a):args=[.string a.1,.bool a.2]:=by
 unfold zT2 at h
 split at h
 case h_2=>cases h
 cases h;rfl
def zP0 (F:ByteArray×Bool→Option (List Int×Bool))(e:TypeId)(args:List Value)(s:St):Option (Value×St):=
 match zT2 args with
 |some a=>(match F a with
  |some r=>(match a.1.data.toList with
   |[]=>some (.tuple #[.slice none 0 0,.bool r.2],s)
   |_::_=>(match r.1 with
    |[]=>some (.tuple #[emp,.bool r.2],s)
    |_::_=>some (.tuple #[.slice (some ⟨s.next,0,none⟩) r.1.length (zEo+1),.bool r.2],s.new (.cells (r.1.map (Value.int .u64)) (2 * e) false))))
  |none=>none)
 |none=>none
theorem yJ4 (F:ByteArray×Bool→Option (List Int×Bool))(e:TypeId)(args:List Value):Tr (zP0 F e args):=by
 cases h1:zT2 args with
 |none=>exact zBd none fun s=>by unfold zP0;simp only[h1]
 |some a=>
  cases h2:F a with
  |none=>exact zBd none fun s=>by unfold zP0;simp only[h1,h2]
  |some r=>
   cases h3:a.1.data.toList with
   |nil=>exact zBd (some (.tuple #[.slice none 0 0,.bool r.2])) fun s=>by unfold zP0;simp only[h1,h2,h3]
   |cons x t=>
    cases h4:r.1 with
    |nil=>exact zBd (some (.tuple #[emp,.bool r.2])) fun s=>by unfold zP0;simp only[h1,h2,h3,h4]
    |cons y u=>exact zLp (some (Blk.cells (r.1.map (Value.int .u64)) (2 * e) false,fun k=>.tuple #[.slice (some ⟨k,0,none⟩) r.1.length (zEo+1),.bool r.2])) fun s=>by unfold zP0;simp only[h1,h2,h3,h4]
def Con.rowS (F:ByteArray×Bool→Option (List Int×Bool))(e:TypeId)(h t:Nat):Con where
 own:=zP0 F e
 w:=fun args s K=>match zT2 args with
  |some a=>(match(match a.2 with|true=>t|false=>h) with
   |0=>a.1.data.toList=[]∧(F a=some ([],true)∧K (.tuple #[.slice none 0 0,.bool true]) s)
   |n+1=>a.1.data.toList≠[]∧exN (n+1) fun l=>F a=some (l,true)∧K (.tuple #[.slice (some ⟨s.next,0,none⟩) (n+1) (zEo+1),.bool true]) (s.new (.cells (l.map (Value.int .u64)) (2 * e) false)))
  |none=>False
 ok:=by
  intro args s K h
  unfold zP0
  split at h
  case h_2=>exact h.elim
  rename_i a h1
  split at h
  ·rename_i hn
   obtain⟨h2,h3,hk⟩:=h
   exact⟨_,_,by simp only[h1,h3,h2],hk,fun K' k=>by(try simp only[h1,hn]);exact⟨h2,h3,k⟩⟩
  ·rename_i n hn
   obtain⟨h2,h⟩:=h
   obtain⟨l,hl,h3,hk⟩:=zF7 h
   cases hl2:a.1.data.toList with
   |nil=>exact absurd hl2 h2
   |cons x u=>
    cases l with
    |nil=>simp at hl
    |cons y v=>
     refine⟨_,_,by simp only[h1,h3,hl2];rfl,by rw[hl];exact hk,fun K' k=>?_⟩
     rw[hl] at k
     try simp only[h1,hn]
     exact⟨by simp,zEm hl ⟨h3,k⟩⟩
 mono:=by
  intro args s K K' k h
  split at h
  case h_2=>exact h.elim
  rename_i a h1
  split at h
  ·rename_i hn
   try simp only[h1,hn]
   exact⟨h.1,h.2.1,k _ _ h.2.2⟩
  ·rename_i n hn
   obtain⟨h2,h⟩:=h
   obtain⟨l,hl,h3,hk⟩:=zF7 h
   try simp only[h1,hn]
   exact⟨h2,zEm hl ⟨h3,k _ _ hk⟩⟩
def Con.rowB (F:ByteArray×Bool→Option (List Int×Bool))(e:TypeId):Con where
 own:=zP0 F e
 w:=fun args s K=>match zT2 args with
  |some a=>∃ r:List Int×Bool,F a=some r∧((a.1.data.toList=[]∧K (.tuple #[.slice none 0 0,.bool r.2]) s)∨((a.1.data.toList≠[]∧(r.1=[]∧K (.tuple #[emp,.bool r.2]) s))∨(a.1.data.toList≠[]∧(r.1≠[]∧K (.tuple #[.slice (some ⟨s.next,0,none⟩) r.1.length (zEo+1),.bool r.2]) (s.new (.cells (r.1.map (Value.int .u64)) (2 * e) false))))))
  |none=>False
 ok:=by
  intro args s K h
  unfold zP0
  split at h
  case h_2=>exact h.elim
  rename_i a h1
  obtain⟨r,h2,h|h|h⟩:=h
  ·exact⟨_,_,by simp only[h1,h2,h.1],h.2,fun K' k=>by(try simp only[h1]);exact⟨r,h2,.inl ⟨h.1,k⟩⟩⟩
  ·cases hl:a.1.data.toList with
   |nil=>exact absurd hl h.1
   |cons x t=>exact⟨_,_,by simp only[h1,h2,hl,h.2.1],h.2.2,fun K' k=>by(try simp only[h1]);exact⟨r,h2,.inr (.inl ⟨by simp,h.2.1,k⟩)⟩⟩
  ·cases hl:a.1.data.toList with
   |nil=>exact absurd hl h.1
   |cons x t=>cases hr:r.1 with
    |nil=>exact absurd hr h.2.1
    |cons y u=>
     refine⟨_,_,by simp only[h1,h2,hl,hr];rfl,by rw[← hr];exact h.2.2,fun K' k=>?_⟩
     rw[← hr] at k
     try simp only[h1]
     exact⟨r,h2,.inr (.inr ⟨by simp,h.2.1,k⟩)⟩
 mono:=by
  intro args s K K' k h
  split at h
  case h_2=>exact h.elim
  rename_i a h1
  obtain⟨r,h2,h|h|h⟩:=h
  ·(try simp only[h1]);exact⟨r,h2,.inl ⟨h.1,k _ _ h.2⟩⟩
  ·(try simp only[h1]);exact⟨r,h2,.inr (.inl ⟨h.1,h.2.1,k _ _ h.2.2⟩)⟩
  ·(try simp only[h1]);exact⟨r,h2,.inr (.inr ⟨h.1,h.2.1,k _ _ h.2.2⟩)⟩
theorem zVi {P:Program}{W:World}{G:Nat}{Gd:World→Prop}{f:FuncId}{fn:Func}{c:Code}{F:ByteArray×Bool→Option (List Int×Bool)}{e:TypeId}{g:Own}
  (hW:∀ w,Later W w→Gd w) (hf:P.funcs[f]?=some fn) (hb:fn.body=some c) (hnm:(fn.name== "runtime.NumGoroutine")=false)
  (hE:zAr P W G f g) (hg:∀ last r s,F (⟨⟨[]⟩⟩,last)=some r→g [.string ⟨⟨[]⟩⟩,.bool last] s=some (.tuple #[.slice none 0 0,.bool r.2],s))
  (h:∀ t last r,F (t,last)=some r→∀ w,Gd w→Calls P f #[.string t,.bool last] w fun z w'=>∃ v,z=.returned (.tuple #[v,.bool r.2])∧(w'.os=w.os∧w'.tape=w.tape∧w'.output=w.output∧w.heap.size≤w'.heap.size∧∀ j,j < w.heap.size→w'.heap[j]?=w.heap[j]?)∧w'.ownsRow w.heap.size e 1 v r.1.length (r.1.map (Value.int .u64))):
  zAr P W G f (zP0 F e):=by
 refine⟨yJ4 F e,fun W1 k1 args s v s' ed φ w args' H hGl hA hfr hfull=>?_⟩
 unfold zP0 at ed
 split at ed
 case h_2=>cases ed
 rename_i a h1
 obtain rfl:=yA1 h1
 split at ed
 case h_2=>cases ed
 rename_i r h2
 obtain⟨t,last⟩:=a
 split at ed
 ·rename_i h3
  cases ed
  have ht:t=⟨⟨[]⟩⟩:=by
   obtain⟨⟨l⟩⟩:=t
   have:l=[]:=h3
   rw[this]
  subst ht
  exact hE.2 W1 k1 _ _ _ _ (hg last r s h2) φ w args' H hGl hA hfr hfull
 ·have kw:Later W w:=k1.trans H.later
  rw[zCf (show zCp [.string t,.bool last]=true from rfl) hA,zBj hf hb hnm]
  have hc:=h t last r h2 w (hW w kw)
  split at ed
  ·rename_i h4
   cases ed
   refine Calls.mono hc ?_
   rintro z W' ⟨v,rfl,hB,hl,ho⟩
   refine⟨_,φ,rfl,Ext.refl _ _ _,VR.tuple_of ⟨rfl,fun i=>?_⟩,H.keep ⟨hB.1,hB.2.2.1,hB.2.2.2.1,hB.2.2.2.2⟩ hB.2.1⟩
   match i with
   |0=>
    rw[h4] at ho
    rcases ho with⟨rfl,_⟩|⟨g,cap,cur,rfl,_⟩
    ·exact VR.emp none 0 (by intro x hx;cases hx)
    ·exact VR.emp _ cap (by intro x hx;cases hx;rfl)
   |1=>exact VR.bool _
   |n+2=>exact VR.any _
  ·rename_i x u h4
   cases ed
   refine Calls.mono hc ?_
   rintro z W' ⟨v,rfl,hB,hl,ho⟩
   rcases ho with⟨_,ho⟩|⟨g,cap,cur,rfl,hg',hblk,hcap,_,hsz,hcur⟩
   ·rw[h4] at ho;simp at ho
   have hnew:φ s.next=none:=hfr s.next (Nat.le_refl _) (by show s.next < Nat.max s.hi (s.next+1);exact Nat.lt_of_lt_of_le (Nat.lt_succ_self _) (Nat.le_max_right _ _))
   rw[Nat.mul_one] at hsz hl hcur
   refine⟨_,upd φ s.next (g,0,cur.size),rfl,Ext.upd hnew _,VR.tuple_of ⟨rfl,fun i=>?_⟩,?_⟩
   ·match i with
    |0=>exact VR.sliceU (φ:=upd φ s.next (g,0,cur.size)) s.next 0 g 0 cur.size r.1.length cap 1 (zBe _ _ _) (by decide) (by omega) hcap
    |1=>exact VR.bool _
    |n+2=>exact VR.any _
   ·refine H.adopt (w':=W') hnew hB.1 hB.2.2.1 hB.2.1 hB.2.2.2.1 (fun j hj _=>hB.2.2.2.2 j hj) (Nat.le_trans H.size hg') (fz:=(0,0)) (c:=cur) (by rw[zS5];exact hblk) (fun _=>rfl) ?_ rfl ?_ (fun i hi=>?_) (fun _ o _=>by simp) (fun O q=>by rw[Array.getElem?_eq_none hg'] at q;cases q)
    ·intro j cj ej rj bj sj zj _ a'
     have:=H.dom _ _ _ _ a'
     omega
    ·rw[hl,hsz];omega
    ·have hv:(r.1.map (Value.int .u64)).getD i und=cur.getD i und:=by
      rw[← hcur,List.getD_eq_getElem?_getD,Array.getD_eq_getD_getElem?,List.getElem?_take,if_pos (by rw[← hl];exact hi)]
      simp
     rw[Nat.zero_add,hv]
     refine zCi ?_ _
     rw[← hv,List.getD_eq_getElem?_getD,List.getElem?_eq_getElem hi]
     have hm:=List.getElem_mem hi
     obtain⟨y,_,hy⟩:=List.mem_map.1 hm
     simp only[Option.getD_some]
     rw[← hy];rfl
end Go.Det
namespace Go.Proofs.YtfnacgojmdbjmaaGreatDoor
open Go.Det Go.RowKit  YtfnacgojmdbjmaaGreatDoorW.PrintWords
theorem vr0 (l:Bool)(Q:Value→Prop):zBi Tryz.prog (cwC []) ox0 0 (zAd Tryz.f102) (zAn [.string ⟨⟨[]⟩⟩,.bool l] 8) (zAo [] 64) (zA7 Tryz.prog Tryz.f102 fun v _=>Q v)=(zAm (zAl (Array.toList (ByteArray.data { data:={ toList:=[] } })=Array.toList (ByteArray.data { data:=#[] }))) (Q (Value.tuple #[Value.slice Option.none 0 0,Value.bool Bool.true])) (False)):=by kernel_rfl
end Go.Proofs.YtfnacgojmdbjmaaGreatDoor
namespace Go.Proofs.YtfnacgojmdbjmaaGreatDoor
open Go.Det Go.RowKit YtfnacgojmdbjmaaGreatDoorW.PrintWords PPH
theorem zP1 {α:Type}{R:α→List Value→Prop}{enc:α→Value}(hR:∀ p c,R p c→c=[enc p]):∀ {ps:List α} {cs:List Value},Reps R 1 ps cs→cs=ps.map enc
 |[],cs,h=>by
  have:=h.1
  simp at this
  simpa using this
 |x::t,cs,h=>by
  have h0:=hR _ _ (h.2 0 x rfl)
  rw[Nat.zero_mul,List.drop_zero] at h0
  have ht:Reps R 1 t (cs.drop 1):=by
   refine⟨by rw[List.length_drop,h.1,List.length_cons,Nat.succ_mul];omega,fun j p hj=>?_⟩
   have:=h.2 (j+1) p (by simpa using hj)
   rw[List.drop_drop,show 1+j * 1=(j+1) * 1 by omega]
   exact this
  rw[List.map_cons,← zP1 hR ht]
  conv=>lhs;rw[← List.take_append_drop 1 cs,h0]
  rfl
def zBg (x:ByteArray×Bool):Option (List Int×Bool):=addr_row.f 1000 x.1 x.2
def yPr:List Value→Option Bool
 |[.string ⟨⟨[]⟩⟩,.bool l]=>some l
 |_=>none
theorem zVj {args:List Value}{a:Bool}(h:yPr args=some a):args=[.string ⟨⟨[]⟩⟩,.bool a]:=by
 unfold yPr at h
 split at h
 case h_2=>cases h
 cases h;rfl
def conD75e:Con:=Con.flat yPr (fun _=>true) fun _=>.tuple #[.slice none 0 0,.bool true]
theorem yOb {W:World}(hW:GoodW W):zAr Tryz.prog W 6 102 conD75e.own:=
 zU9 (fun l:Bool=>[.string ⟨⟨[]⟩⟩,.bool l]) (Laying.empty hW.size) hW.size (by decide) zAs (l:=[]) (zAh W 6) Tryz.func102 (fn:=Tryz.f102) (c:=zAd Tryz.f102) (by kernel_rfl) (by kernel_rfl) (fun _ _ h=>zVj h) (fun a=>⟨rfl,rfl,(by kernel_rfl)⟩) fun a _=>
  zAv (zA0 _) zE4 (by kernel_rfl) ((vr0 a _).mpr (zVe rfl rfl))
theorem ySx {l:Bool}{r:List Int×Bool}(h:zBg (⟨⟨[]⟩⟩,l)=some r):r=([],true):=by
 unfold zBg addr_row.f at h
 rw[if_pos (show ByteArray.toList ⟨⟨[]⟩⟩=[] by rw[ByteArray.toList_eq])] at h
 cases h;rfl
theorem yQ2 {W:World}(hW:GoodW W):zAr Tryz.prog W 6 102 (zP0 zBg 23):=
 zVi (fn:=Tryz.f102) (c:=zAd Tryz.f102) (Gd:=GoodW) (g:=conD75e.own) (fun w k=>hW.later k.size k.old) Tryz.func102 (by kernel_rfl) (by kernel_rfl) (yOb hW)
  (fun last r s h=>by cases ySx h;rfl)
  fun t last r h w hG=>(addr_row.calls 1000 t last r.1 r.2 w hG h).mono (by
   rintro e w' ⟨v,rfl,hR,hB⟩
   obtain⟨_,inner,ho,hreps⟩:=hR
   obtain rfl:=zP1 (enc:=Value.int .u64) (fun p c h=>h) hreps
   exact⟨v,rfl,⟨hB.os,hB.tape,hB.output,hB.size,hB.block⟩,ho⟩)
def yOc (h t:Nat):Con:=Con.rowS zBg 23 h t
def yJ5:Con:=Con.rowB zBg 23
def dU:Value→Option Int
 |.int .u64 n=>some n
 |_=>none
def dNo:List Value→Option Unit
 |[]=>some ()
 |_=>none
theorem yGs {v:Value}{b:Int}(h:dU v=some b):v=.int .u64 b:=by
 unfold dU at h
 split at h
 ·cases h;rfl
 ·cases h
theorem yA2 {r:List Value}{g:Unit}(h:dNo r=some g):r=[]:=by
 unfold dNo at h
 split at h
 ·rfl
 ·cases h
theorem zSg {w:World}{A:Option Addr}{l:List Int}(hl:l.length≤9223372036854775807)(h:yAs (Value.int .u64) w A l):Kd.C (Kd.int .u64) w A l.length l:=by
 refine⟨rfl,hl,fun h0=>?_⟩
 rcases h with rfl|⟨b,o,rfl,h⟩
 ·simp at h0
 refine⟨_,rfl,fun j p hj=>⟨[.int .u64 p],rfl,rfl,fun i u hu=>?_⟩⟩
 match i,hu with
 |0,hu=>
  cases hu
  have:=h j p hj
  unfold Addr.add
  split
  ·rename_i q
   have:j=0:=by simpa [Kd.int,Kd.scalar] using q
   subst this;simpa using ‹w.cell? _=_›
  ·simpa [Kd.int,Kd.scalar] using this
 |i+1,hu=>simp at hu
def zGe (l:List Int)(_:Unit):Option (Int×Int):=if l.length≤8 then addr_zeros.f 300 l else none
def zMr (l:List Int)(_:Unit):Option ByteArray:=if l.length≤8 then addr_text.f 300 l else none
def ySy (y:Int×Int):Value:=.tuple #[.int .i64 y.1,.int .i64 y.2]
def enS (y:ByteArray):Value:=.string y
theorem yQ3 {W:World}(hW:GoodW W):zAr Tryz.prog W 6 92 (zMn dU dNo zGe ySy):=
 own_reads (fn:=Tryz.f92) (c:=zAd Tryz.f92) (e:=Value.int .u64) (er:=fun _=>[]) (Gd:=GoodW) (fun w k=>hW.later k.size k.old) Tryz.func92 (by kernel_rfl) (by kernel_rfl) (fun v b h=>yGs h) (fun b=>⟨rfl,by intro h;cases h⟩) (fun r g h=>yA2 h) (fun _=>rfl) fun l g r hF=>⟨rfl,(by intro h;cases h),fun w A c hG hc hR=>by
  unfold zGe at hF
  split at hF
  case isFalse=>cases hF
  rename_i hl
  refine(addr_zeros.calls 300 A c l r.1 r.2 w (zSg (by omega) hR) hc hG hF).mono ?_
  rintro e w' ⟨rfl,hB⟩
  have hB:=hB.below
  exact⟨rfl,hB.os,hB.tape,hB.output,hB.size,hB.block⟩⟩
theorem yQ4 {W:World}(hW:GoodW W):zAr Tryz.prog W 6 93 (zMn dU dNo zMr enS):=
 own_reads (fn:=Tryz.f93) (c:=zAd Tryz.f93) (e:=Value.int .u64) (er:=fun _=>[]) (Gd:=GoodW) (fun w k=>hW.later k.size k.old) Tryz.func93 (by kernel_rfl) (by kernel_rfl) (fun v b h=>yGs h) (fun b=>⟨rfl,by intro h;cases h⟩) (fun r g h=>yA2 h) (fun _=>rfl) fun l g r hF=>⟨rfl,(by intro h;cases h),fun w A c hG hc hR=>by
  unfold zMr at hF
  split at hF
  case isFalse=>cases hF
  rename_i hl
  refine(addr_text.calls 300 A c l r w (zSg (by omega) hR) hc hG hF).mono ?_
  rintro e w' ⟨rfl,hB⟩
  exact⟨rfl,hB.os,hB.tape,hB.output,hB.size,hB.block⟩⟩
def zOg:List (Int×Int):=[(0,0),(0,2),(0,3),(0,4),(0,5),(0,6),(0,7),(0,8),(1,3),(1,4),(1,5),(1,6),(1,7),(1,8),(2,4),(2,5),(2,6),(2,7),(2,8),(3,5),(3,6),(3,7),(3,8),(4,6),(4,7),(4,8),(5,7),(5,8),(6,8)]
def yGt:Con:=Con.readsS zOg dU dNo zGe ySy
def yGu:Con:=Con.reads dU dNo zMr enS
def zT3 (b:Bool):Con where
 own:=conD60.own
 w:=fun args s K=>match yAu args with
  |some a=>∃ x y:ByteArray,zC2 a.1 a.2=some (x,y,b)∧K (.tuple #[.string x,.string y,.bool b]) s
  |none=>False
 ok:=by
  intro args s K h
  split at h
  ·rename_i a ha
   obtain⟨x,y,h,hk⟩:=h
   exact⟨.tuple #[.string x,.string y,.bool b],s,by unfold conD60 Con.opt zDb;simp only[ha,h],hk,fun K' k=>⟨x,y,h,k⟩⟩
  ·exact h.elim
 mono:=by
  intro args s K K' k h
  split at h
  ·obtain⟨x,y,h,hk⟩:=h
   exact⟨x,y,h,k _ _ hk⟩
  ·exact h.elim
def zAy (h t:Nat):List (Nat×Con):=[(59,zT3 true),(102,yOc h t)]
def zXr (b:Bool):List (Nat×Con):=[(59,zT3 b),(102,yJ5)]
def yJ6:Con where
 own:=zP0 zBg 23
 w:=fun args s K=>match zT2 args with
  |some a=>(a.1.data.toList=[]∧(zBg a=some ([],true)∧K (.tuple #[.slice none 0 0,.bool true]) s))∨(a.1.data.toList≠[]∧exN 8 fun l=>zBg a=some (l,true)∧K (.tuple #[.slice (some ⟨s.next,0,none⟩) 8 (zEo+1),.bool true]) (s.new (.cells (l.map (Value.int .u64)) (2 * 23) false)))
  |none=>False
 ok:=by
  intro args s K h
  split at h
  case h_2=>exact h.elim
  rename_i a ha
  rcases h with⟨h2,h3,hk⟩|⟨h2,h⟩
  ·refine⟨_,_,by unfold zP0;simp only[ha,h3,h2],hk,fun K' k=>.inl ⟨h2,h3,k⟩⟩
  ·obtain⟨l,hl,h3,hk⟩:=zF7 h
   cases hl2:a.1.data.toList with
   |nil=>exact absurd hl2 h2
   |cons x u=>
    cases l with
    |nil=>simp at hl
    |cons y v=>
     refine⟨_,_,by unfold zP0;simp only[ha,h3,hl2];rfl,by rw[hl];exact hk,fun K' k=>?_⟩
     rw[hl] at k
     exact .inr ⟨by simp,zEm hl ⟨h3,k⟩⟩
 mono:=by
  intro args s K K' k h
  split at h
  case h_2=>exact h.elim
  rename_i a ha
  rcases h with⟨h2,h3,hk⟩|⟨h2,h⟩
  ·exact .inl ⟨h2,h3,k _ _ hk⟩
  ·obtain⟨l,hl,h3,hk⟩:=zF7 h
   exact .inr ⟨h2,zEm hl ⟨h3,k _ _ hk⟩⟩
def yJ7:List (Nat×Con):=[(59,zT3 false),(102,yJ6)]
end Go.Proofs.YtfnacgojmdbjmaaGreatDoor
namespace Go.Proofs.YtfnacgojmdbjmaaGreatDoor
open Go.Det Go.RowKit  YtfnacgojmdbjmaaGreatDoorW.PrintWords
abbrev z0:Value:=.tuple #[.agg #[.int .i64 0,.int .u64 0,.int .u64 0],.bool false]
abbrev zw (a b c d:Int):Int:=orI .u64 (zD3 .u64 (orI .u64 (zD3 .u64 (orI .u64 (zD3 .u64 (orI .u64 (zD3 .u64 0 16) a) 16) b) 16) c) 16) d
abbrev z6 (a b c d e f g h:Int):Value:=.tuple #[.agg #[.int .i64 6,.int .u64 (zw a b c d),.int .u64 (zw e f g h)],.bool true]
abbrev zt (p:Prop):Prop:=true=true∧(true=true∧(true=true∧p))
abbrev zr (p:Prop):Prop:=(((0:Int)≤16)∧((((0:Int)≤0)∧(0 < (↑8:Int)))∧(((0:Int)≤16)∧((((0:Int)≤4)∧(4 < (↑8:Int)))∧((true=true)∧(((0:Int)≤16)∧((((0:Int)≤1)∧(1 < (↑8:Int)))∧(((0:Int)≤16)∧((((0:Int)≤5)∧(5 < (↑8:Int)))∧((true=true)∧(((0:Int)≤16)∧((((0:Int)≤2)∧(2 < (↑8:Int)))∧(((0:Int)≤16)∧((((0:Int)≤6)∧(6 < (↑8:Int)))∧((true=true)∧(((0:Int)≤16)∧((((0:Int)≤3)∧(3 < (↑8:Int)))∧(((0:Int)≤16)∧((((0:Int)≤7)∧(7 < (↑8:Int)))∧((true=true)∧p))))))))))))))))))))
abbrev zb (s:ByteArray)(Q:Value→Prop)(p:Prop):Prop:=zAm (zAl (s.data.toList=Array.toList (ByteArray.data { data:=#[] }))) (Q z0) p
abbrev zc (a b:Bool)(Q:Value→Prop)(p:Prop):Prop:=zAm (!a) (Q z0) (zAm (!b) (Q z0) p)
abbrev zS (l:List (Nat×Con))(s:ByteArray)(Q:Value→Prop):Prop:=zBi Tryz.prog (cwC l) (oxE [51,59,68,76]) 9 (zAd Tryz.f85) (zAn [.string s] 8) (zAo [] 64) (zA7 Tryz.prog Tryz.f85 fun v _=>Q v)
theorem yU4 (s:ByteArray)(Q:Value→Prop):zS (zAy 0 1) s Q=((∃ x0:ByteArray,(∃ x1:ByteArray,((zC2 s { data:=#[58,58] }=some (x0,x1,true))∧((x0.data.toList=[])∧((zBg (x0,!true)=some ([],true))∧((x1.data.toList≠[])∧(∃ x2:Int,((zBg (x1,true)=some ([x2],true))∧zb s Q ((zt ((zt ((zt (((true=true)∧zr (Q (z6 0 0 0 0 0 0 0 x2))))))))))))))))))):=by kernel_rfl
theorem yU5 (s:ByteArray)(Q:Value→Prop):zS (zAy 0 3) s Q=((∃ x0:ByteArray,(∃ x1:ByteArray,((zC2 s { data:=#[58,58] }=some (x0,x1,true))∧((x0.data.toList=[])∧((zBg (x0,!true)=some ([],true))∧((x1.data.toList≠[])∧(∃ x2:Int,(∃ x3:Int,(∃ x4:Int,((zBg (x1,true)=some ([x2,x3,x4],true))∧zb s Q ((zt ((zt (((true=true)∧((true=true)∧zr (Q (z6 0 0 0 0 0 x2 x3 x4)))))))))))))))))))):=by kernel_rfl
theorem yU6 (s:ByteArray)(Q:Value→Prop):zS (zAy 0 5) s Q=((∃ x0:ByteArray,(∃ x1:ByteArray,((zC2 s { data:=#[58,58] }=some (x0,x1,true))∧((x0.data.toList=[])∧((zBg (x0,!true)=some ([],true))∧((x1.data.toList≠[])∧(∃ x2:Int,(∃ x3:Int,(∃ x4:Int,(∃ x5:Int,(∃ x6:Int,((zBg (x1,true)=some ([x2,x3,x4,x5,x6],true))∧zb s Q ((zt ((zt (zr (Q (z6 0 0 0 x2 x3 x4 x5 x6)))))))))))))))))))):=by kernel_rfl
theorem yU7 (s:ByteArray)(Q:Value→Prop):zS (zAy 0 7) s Q=((∃ x0:ByteArray,(∃ x1:ByteArray,((zC2 s { data:=#[58,58] }=some (x0,x1,true))∧((x0.data.toList=[])∧((zBg (x0,!true)=some ([],true))∧((x1.data.toList≠[])∧(∃ x2:Int,(∃ x3:Int,(∃ x4:Int,(∃ x5:Int,(∃ x6:Int,(∃ x7:Int,(∃ x8:Int,((zBg (x1,true)=some ([x2,x3,x4,x5,x6,x7,x8],true))∧zb s Q ((zt (((true=true)∧zr (Q (z6 0 x2 x3 x4 x5 x6 x7 x8))))))))))))))))))))):=by kernel_rfl
theorem yU8 (s:ByteArray)(Q:Value→Prop):zS (zAy 1 1) s Q=((∃ x0:ByteArray,(∃ x1:ByteArray,((zC2 s { data:=#[58,58] }=some (x0,x1,true))∧((x0.data.toList≠[])∧(∃ x2:Int,((zBg (x0,!true)=some ([x2],true))∧((x1.data.toList≠[])∧(∃ x3:Int,((zBg (x1,true)=some ([x3],true))∧zb s Q ((zt ((zt ((zt (zr (Q (z6 x2 0 0 0 0 0 0 x3))))))))))))))))))):=by kernel_rfl
theorem yU9 (s:ByteArray)(Q:Value→Prop):zS (zAy 1 3) s Q=((∃ x0:ByteArray,(∃ x1:ByteArray,((zC2 s { data:=#[58,58] }=some (x0,x1,true))∧((x0.data.toList≠[])∧(∃ x2:Int,((zBg (x0,!true)=some ([x2],true))∧((x1.data.toList≠[])∧(∃ x3:Int,(∃ x4:Int,(∃ x5:Int,((zBg (x1,true)=some ([x3,x4,x5],true))∧zb s Q ((zt ((zt (((true=true)∧zr (Q (z6 x2 0 0 0 0 x3 x4 x5)))))))))))))))))))):=by kernel_rfl
theorem yVa (s:ByteArray)(Q:Value→Prop):zS (zAy 1 5) s Q=((∃ x0:ByteArray,(∃ x1:ByteArray,((zC2 s { data:=#[58,58] }=some (x0,x1,true))∧((x0.data.toList≠[])∧(∃ x2:Int,((zBg (x0,!true)=some ([x2],true))∧((x1.data.toList≠[])∧(∃ x3:Int,(∃ x4:Int,(∃ x5:Int,(∃ x6:Int,(∃ x7:Int,((zBg (x1,true)=some ([x3,x4,x5,x6,x7],true))∧zb s Q ((zt (((true=true)∧((true=true)∧zr (Q (z6 x2 0 0 x3 x4 x5 x6 x7))))))))))))))))))))):=by kernel_rfl
theorem yVb (s:ByteArray)(Q:Value→Prop):zS (zAy 2 0) s Q=((∃ x0:ByteArray,(∃ x1:ByteArray,((zC2 s { data:=#[58,58] }=some (x0,x1,true))∧((x0.data.toList≠[])∧(∃ x2:Int,(∃ x3:Int,((zBg (x0,!true)=some ([x2,x3],true))∧((x1.data.toList=[])∧((zBg (x1,true)=some ([],true))∧zb s Q ((zt ((zt ((zt (zr (Q (z6 x2 x3 0 0 0 0 0 0))))))))))))))))))):=by kernel_rfl
theorem yVc (s:ByteArray)(Q:Value→Prop):zS (zAy 2 2) s Q=((∃ x0:ByteArray,(∃ x1:ByteArray,((zC2 s { data:=#[58,58] }=some (x0,x1,true))∧((x0.data.toList≠[])∧(∃ x2:Int,(∃ x3:Int,((zBg (x0,!true)=some ([x2,x3],true))∧((x1.data.toList≠[])∧(∃ x4:Int,(∃ x5:Int,((zBg (x1,true)=some ([x4,x5],true))∧zb s Q ((zt ((zt (((true=true)∧zr (Q (z6 x2 x3 0 0 0 0 x4 x5)))))))))))))))))))):=by kernel_rfl
theorem yVd (s:ByteArray)(Q:Value→Prop):zS (zAy 2 4) s Q=((∃ x0:ByteArray,(∃ x1:ByteArray,((zC2 s { data:=#[58,58] }=some (x0,x1,true))∧((x0.data.toList≠[])∧(∃ x2:Int,(∃ x3:Int,((zBg (x0,!true)=some ([x2,x3],true))∧((x1.data.toList≠[])∧(∃ x4:Int,(∃ x5:Int,(∃ x6:Int,(∃ x7:Int,((zBg (x1,true)=some ([x4,x5,x6,x7],true))∧zb s Q ((zt (((true=true)∧((true=true)∧zr (Q (z6 x2 x3 0 0 x4 x5 x6 x7))))))))))))))))))))):=by kernel_rfl
theorem yVe (s:ByteArray)(Q:Value→Prop):zS (zAy 3 0) s Q=((∃ x0:ByteArray,(∃ x1:ByteArray,((zC2 s { data:=#[58,58] }=some (x0,x1,true))∧((x0.data.toList≠[])∧(∃ x2:Int,(∃ x3:Int,(∃ x4:Int,((zBg (x0,!true)=some ([x2,x3,x4],true))∧((x1.data.toList=[])∧((zBg (x1,true)=some ([],true))∧zb s Q ((zt ((zt (((true=true)∧((true=true)∧zr (Q (z6 x2 x3 x4 0 0 0 0 0)))))))))))))))))))):=by kernel_rfl
theorem yVf (s:ByteArray)(Q:Value→Prop):zS (zAy 3 2) s Q=((∃ x0:ByteArray,(∃ x1:ByteArray,((zC2 s { data:=#[58,58] }=some (x0,x1,true))∧((x0.data.toList≠[])∧(∃ x2:Int,(∃ x3:Int,(∃ x4:Int,((zBg (x0,!true)=some ([x2,x3,x4],true))∧((x1.data.toList≠[])∧(∃ x5:Int,(∃ x6:Int,((zBg (x1,true)=some ([x5,x6],true))∧zb s Q ((zt ((zt (zr (Q (z6 x2 x3 x4 0 0 0 x5 x6)))))))))))))))))))):=by kernel_rfl
theorem yVg (s:ByteArray)(Q:Value→Prop):zS (zAy 3 4) s Q=((∃ x0:ByteArray,(∃ x1:ByteArray,((zC2 s { data:=#[58,58] }=some (x0,x1,true))∧((x0.data.toList≠[])∧(∃ x2:Int,(∃ x3:Int,(∃ x4:Int,((zBg (x0,!true)=some ([x2,x3,x4],true))∧((x1.data.toList≠[])∧(∃ x5:Int,(∃ x6:Int,(∃ x7:Int,(∃ x8:Int,((zBg (x1,true)=some ([x5,x6,x7,x8],true))∧zb s Q ((zt (((true=true)∧zr (Q (z6 x2 x3 x4 0 x5 x6 x7 x8))))))))))))))))))))):=by kernel_rfl
theorem yVh (s:ByteArray)(Q:Value→Prop):zS (zAy 4 1) s Q=((∃ x0:ByteArray,(∃ x1:ByteArray,((zC2 s { data:=#[58,58] }=some (x0,x1,true))∧((x0.data.toList≠[])∧(∃ x2:Int,(∃ x3:Int,(∃ x4:Int,(∃ x5:Int,((zBg (x0,!true)=some ([x2,x3,x4,x5],true))∧((x1.data.toList≠[])∧(∃ x6:Int,((zBg (x1,true)=some ([x6],true))∧zb s Q ((zt ((zt (zr (Q (z6 x2 x3 x4 x5 0 0 0 x6)))))))))))))))))))):=by kernel_rfl
theorem yVi (s:ByteArray)(Q:Value→Prop):zS (zAy 4 3) s Q=((∃ x0:ByteArray,(∃ x1:ByteArray,((zC2 s { data:=#[58,58] }=some (x0,x1,true))∧((x0.data.toList≠[])∧(∃ x2:Int,(∃ x3:Int,(∃ x4:Int,(∃ x5:Int,((zBg (x0,!true)=some ([x2,x3,x4,x5],true))∧((x1.data.toList≠[])∧(∃ x6:Int,(∃ x7:Int,(∃ x8:Int,((zBg (x1,true)=some ([x6,x7,x8],true))∧zb s Q ((zt (((true=true)∧zr (Q (z6 x2 x3 x4 x5 0 x6 x7 x8))))))))))))))))))))):=by kernel_rfl
theorem yVj (s:ByteArray)(Q:Value→Prop):zS (zAy 5 1) s Q=((∃ x0:ByteArray,(∃ x1:ByteArray,((zC2 s { data:=#[58,58] }=some (x0,x1,true))∧((x0.data.toList≠[])∧(∃ x2:Int,(∃ x3:Int,(∃ x4:Int,(∃ x5:Int,(∃ x6:Int,((zBg (x0,!true)=some ([x2,x3,x4,x5,x6],true))∧((x1.data.toList≠[])∧(∃ x7:Int,((zBg (x1,true)=some ([x7],true))∧zb s Q ((zt (((true=true)∧((true=true)∧zr (Q (z6 x2 x3 x4 x5 x6 0 0 x7))))))))))))))))))))):=by kernel_rfl
theorem yVk (s:ByteArray)(Q:Value→Prop):zS (zAy 6 0) s Q=((∃ x0:ByteArray,(∃ x1:ByteArray,((zC2 s { data:=#[58,58] }=some (x0,x1,true))∧((x0.data.toList≠[])∧(∃ x2:Int,(∃ x3:Int,(∃ x4:Int,(∃ x5:Int,(∃ x6:Int,(∃ x7:Int,((zBg (x0,!true)=some ([x2,x3,x4,x5,x6,x7],true))∧((x1.data.toList=[])∧((zBg (x1,true)=some ([],true))∧zb s Q ((zt (((true=true)∧((true=true)∧zr (Q (z6 x2 x3 x4 x5 x6 x7 0 0))))))))))))))))))))):=by kernel_rfl
theorem yVl (s:ByteArray)(Q:Value→Prop):zS (zAy 7 0) s Q=((∃ x0:ByteArray,(∃ x1:ByteArray,((zC2 s { data:=#[58,58] }=some (x0,x1,true))∧((x0.data.toList≠[])∧(∃ x2:Int,(∃ x3:Int,(∃ x4:Int,(∃ x5:Int,(∃ x6:Int,(∃ x7:Int,(∃ x8:Int,((zBg (x0,!true)=some ([x2,x3,x4,x5,x6,x7,x8],true))∧((x1.data.toList=[])∧((zBg (x1,true)=some ([],true))∧zb s Q ((zt (((true=true)∧zr (Q (z6 x2 x3 x4 x5 x6 x7 x8 0))))))))))))))))))))):=by kernel_rfl
theorem yVm (s:ByteArray)(Q:Value→Prop):zS (zAy 0 0) s Q=((∃ x0:ByteArray,(∃ x1:ByteArray,((zC2 s { data:=#[58,58] }=some (x0,x1,true))∧((x0.data.toList=[])∧((zBg (x0,!true)=some ([],true))∧((x1.data.toList=[])∧((zBg (x1,true)=some ([],true))∧zb s Q ((zt ((zt ((zt (((true=true)∧((true=true)∧zr (Q (z6 0 0 0 0 0 0 0 0))))))))))))))))))):=by kernel_rfl
theorem yVn (s:ByteArray)(Q:Value→Prop):zS (zAy 0 2) s Q=((∃ x0:ByteArray,(∃ x1:ByteArray,((zC2 s { data:=#[58,58] }=some (x0,x1,true))∧((x0.data.toList=[])∧((zBg (x0,!true)=some ([],true))∧((x1.data.toList≠[])∧(∃ x2:Int,(∃ x3:Int,((zBg (x1,true)=some ([x2,x3],true))∧zb s Q ((zt ((zt ((zt (zr (Q (z6 0 0 0 0 0 0 x2 x3))))))))))))))))))):=by kernel_rfl
theorem yVo (s:ByteArray)(Q:Value→Prop):zS (zAy 0 4) s Q=((∃ x0:ByteArray,(∃ x1:ByteArray,((zC2 s { data:=#[58,58] }=some (x0,x1,true))∧((x0.data.toList=[])∧((zBg (x0,!true)=some ([],true))∧((x1.data.toList≠[])∧(∃ x2:Int,(∃ x3:Int,(∃ x4:Int,(∃ x5:Int,((zBg (x1,true)=some ([x2,x3,x4,x5],true))∧zb s Q ((zt ((zt (((true=true)∧zr (Q (z6 0 0 0 0 x2 x3 x4 x5)))))))))))))))))))):=by kernel_rfl
theorem yVp (s:ByteArray)(Q:Value→Prop):zS (zAy 0 6) s Q=((∃ x0:ByteArray,(∃ x1:ByteArray,((zC2 s { data:=#[58,58] }=some (x0,x1,true))∧((x0.data.toList=[])∧((zBg (x0,!true)=some ([],true))∧((x1.data.toList≠[])∧(∃ x2:Int,(∃ x3:Int,(∃ x4:Int,(∃ x5:Int,(∃ x6:Int,(∃ x7:Int,((zBg (x1,true)=some ([x2,x3,x4,x5,x6,x7],true))∧zb s Q ((zt (((true=true)∧((true=true)∧zr (Q (z6 0 0 x2 x3 x4 x5 x6 x7))))))))))))))))))))):=by kernel_rfl
theorem yVq (s:ByteArray)(Q:Value→Prop):zS (zAy 1 0) s Q=((∃ x0:ByteArray,(∃ x1:ByteArray,((zC2 s { data:=#[58,58] }=some (x0,x1,true))∧((x0.data.toList≠[])∧(∃ x2:Int,((zBg (x0,!true)=some ([x2],true))∧((x1.data.toList=[])∧((zBg (x1,true)=some ([],true))∧zb s Q ((zt ((zt ((zt (((true=true)∧zr (Q (z6 x2 0 0 0 0 0 0 0))))))))))))))))))):=by kernel_rfl
theorem yVr (s:ByteArray)(Q:Value→Prop):zS (zAy 1 2) s Q=((∃ x0:ByteArray,(∃ x1:ByteArray,((zC2 s { data:=#[58,58] }=some (x0,x1,true))∧((x0.data.toList≠[])∧(∃ x2:Int,((zBg (x0,!true)=some ([x2],true))∧((x1.data.toList≠[])∧(∃ x3:Int,(∃ x4:Int,((zBg (x1,true)=some ([x3,x4],true))∧zb s Q ((zt ((zt (((true=true)∧((true=true)∧zr (Q (z6 x2 0 0 0 0 0 x3 x4)))))))))))))))))))):=by kernel_rfl
theorem yVs (s:ByteArray)(Q:Value→Prop):zS (zAy 1 4) s Q=((∃ x0:ByteArray,(∃ x1:ByteArray,((zC2 s { data:=#[58,58] }=some (x0,x1,true))∧((x0.data.toList≠[])∧(∃ x2:Int,((zBg (x0,!true)=some ([x2],true))∧((x1.data.toList≠[])∧(∃ x3:Int,(∃ x4:Int,(∃ x5:Int,(∃ x6:Int,((zBg (x1,true)=some ([x3,x4,x5,x6],true))∧zb s Q ((zt ((zt (zr (Q (z6 x2 0 0 0 x3 x4 x5 x6)))))))))))))))))))):=by kernel_rfl
theorem yVt (s:ByteArray)(Q:Value→Prop):zS (zAy 1 6) s Q=((∃ x0:ByteArray,(∃ x1:ByteArray,((zC2 s { data:=#[58,58] }=some (x0,x1,true))∧((x0.data.toList≠[])∧(∃ x2:Int,((zBg (x0,!true)=some ([x2],true))∧((x1.data.toList≠[])∧(∃ x3:Int,(∃ x4:Int,(∃ x5:Int,(∃ x6:Int,(∃ x7:Int,(∃ x8:Int,((zBg (x1,true)=some ([x3,x4,x5,x6,x7,x8],true))∧zb s Q ((zt (((true=true)∧zr (Q (z6 x2 0 x3 x4 x5 x6 x7 x8))))))))))))))))))))):=by kernel_rfl
theorem yVu (s:ByteArray)(Q:Value→Prop):zS (zAy 2 1) s Q=((∃ x0:ByteArray,(∃ x1:ByteArray,((zC2 s { data:=#[58,58] }=some (x0,x1,true))∧((x0.data.toList≠[])∧(∃ x2:Int,(∃ x3:Int,((zBg (x0,!true)=some ([x2,x3],true))∧((x1.data.toList≠[])∧(∃ x4:Int,((zBg (x1,true)=some ([x4],true))∧zb s Q ((zt ((zt (((true=true)∧((true=true)∧zr (Q (z6 x2 x3 0 0 0 0 0 x4)))))))))))))))))))):=by kernel_rfl
theorem yVv (s:ByteArray)(Q:Value→Prop):zS (zAy 2 3) s Q=((∃ x0:ByteArray,(∃ x1:ByteArray,((zC2 s { data:=#[58,58] }=some (x0,x1,true))∧((x0.data.toList≠[])∧(∃ x2:Int,(∃ x3:Int,((zBg (x0,!true)=some ([x2,x3],true))∧((x1.data.toList≠[])∧(∃ x4:Int,(∃ x5:Int,(∃ x6:Int,((zBg (x1,true)=some ([x4,x5,x6],true))∧zb s Q ((zt ((zt (zr (Q (z6 x2 x3 0 0 0 x4 x5 x6)))))))))))))))))))):=by kernel_rfl
theorem yVw (s:ByteArray)(Q:Value→Prop):zS (zAy 2 5) s Q=((∃ x0:ByteArray,(∃ x1:ByteArray,((zC2 s { data:=#[58,58] }=some (x0,x1,true))∧((x0.data.toList≠[])∧(∃ x2:Int,(∃ x3:Int,((zBg (x0,!true)=some ([x2,x3],true))∧((x1.data.toList≠[])∧(∃ x4:Int,(∃ x5:Int,(∃ x6:Int,(∃ x7:Int,(∃ x8:Int,((zBg (x1,true)=some ([x4,x5,x6,x7,x8],true))∧zb s Q ((zt (((true=true)∧zr (Q (z6 x2 x3 0 x4 x5 x6 x7 x8))))))))))))))))))))):=by kernel_rfl
theorem yVx (s:ByteArray)(Q:Value→Prop):zS (zAy 3 1) s Q=((∃ x0:ByteArray,(∃ x1:ByteArray,((zC2 s { data:=#[58,58] }=some (x0,x1,true))∧((x0.data.toList≠[])∧(∃ x2:Int,(∃ x3:Int,(∃ x4:Int,((zBg (x0,!true)=some ([x2,x3,x4],true))∧((x1.data.toList≠[])∧(∃ x5:Int,((zBg (x1,true)=some ([x5],true))∧zb s Q ((zt ((zt (((true=true)∧zr (Q (z6 x2 x3 x4 0 0 0 0 x5)))))))))))))))))))):=by kernel_rfl
theorem yVy (s:ByteArray)(Q:Value→Prop):zS (zAy 3 3) s Q=((∃ x0:ByteArray,(∃ x1:ByteArray,((zC2 s { data:=#[58,58] }=some (x0,x1,true))∧((x0.data.toList≠[])∧(∃ x2:Int,(∃ x3:Int,(∃ x4:Int,((zBg (x0,!true)=some ([x2,x3,x4],true))∧((x1.data.toList≠[])∧(∃ x5:Int,(∃ x6:Int,(∃ x7:Int,((zBg (x1,true)=some ([x5,x6,x7],true))∧zb s Q ((zt (((true=true)∧((true=true)∧zr (Q (z6 x2 x3 x4 0 0 x5 x6 x7))))))))))))))))))))):=by kernel_rfl
theorem yVz (s:ByteArray)(Q:Value→Prop):zS (zAy 4 0) s Q=((∃ x0:ByteArray,(∃ x1:ByteArray,((zC2 s { data:=#[58,58] }=some (x0,x1,true))∧((x0.data.toList≠[])∧(∃ x2:Int,(∃ x3:Int,(∃ x4:Int,(∃ x5:Int,((zBg (x0,!true)=some ([x2,x3,x4,x5],true))∧((x1.data.toList=[])∧((zBg (x1,true)=some ([],true))∧zb s Q ((zt ((zt (((true=true)∧zr (Q (z6 x2 x3 x4 x5 0 0 0 0)))))))))))))))))))):=by kernel_rfl
theorem yV0 (s:ByteArray)(Q:Value→Prop):zS (zAy 4 2) s Q=((∃ x0:ByteArray,(∃ x1:ByteArray,((zC2 s { data:=#[58,58] }=some (x0,x1,true))∧((x0.data.toList≠[])∧(∃ x2:Int,(∃ x3:Int,(∃ x4:Int,(∃ x5:Int,((zBg (x0,!true)=some ([x2,x3,x4,x5],true))∧((x1.data.toList≠[])∧(∃ x6:Int,(∃ x7:Int,((zBg (x1,true)=some ([x6,x7],true))∧zb s Q ((zt (((true=true)∧((true=true)∧zr (Q (z6 x2 x3 x4 x5 0 0 x6 x7))))))))))))))))))))):=by kernel_rfl
theorem yV1 (s:ByteArray)(Q:Value→Prop):zS (zAy 5 0) s Q=((∃ x0:ByteArray,(∃ x1:ByteArray,((zC2 s { data:=#[58,58] }=some (x0,x1,true))∧((x0.data.toList≠[])∧(∃ x2:Int,(∃ x3:Int,(∃ x4:Int,(∃ x5:Int,(∃ x6:Int,((zBg (x0,!true)=some ([x2,x3,x4,x5,x6],true))∧((x1.data.toList=[])∧((zBg (x1,true)=some ([],true))∧zb s Q ((zt ((zt (zr (Q (z6 x2 x3 x4 x5 x6 0 0 0)))))))))))))))))))):=by kernel_rfl
theorem yV2 (s:ByteArray)(Q:Value→Prop):zS (zAy 5 2) s Q=((∃ x0:ByteArray,(∃ x1:ByteArray,((zC2 s { data:=#[58,58] }=some (x0,x1,true))∧((x0.data.toList≠[])∧(∃ x2:Int,(∃ x3:Int,(∃ x4:Int,(∃ x5:Int,(∃ x6:Int,((zBg (x0,!true)=some ([x2,x3,x4,x5,x6],true))∧((x1.data.toList≠[])∧(∃ x7:Int,(∃ x8:Int,((zBg (x1,true)=some ([x7,x8],true))∧zb s Q ((zt (((true=true)∧zr (Q (z6 x2 x3 x4 x5 x6 0 x7 x8))))))))))))))))))))):=by kernel_rfl
theorem yV3 (s:ByteArray)(Q:Value→Prop):zS (zAy 6 1) s Q=((∃ x0:ByteArray,(∃ x1:ByteArray,((zC2 s { data:=#[58,58] }=some (x0,x1,true))∧((x0.data.toList≠[])∧(∃ x2:Int,(∃ x3:Int,(∃ x4:Int,(∃ x5:Int,(∃ x6:Int,(∃ x7:Int,((zBg (x0,!true)=some ([x2,x3,x4,x5,x6,x7],true))∧((x1.data.toList≠[])∧(∃ x8:Int,((zBg (x1,true)=some ([x8],true))∧zb s Q ((zt (((true=true)∧zr (Q (z6 x2 x3 x4 x5 x6 x7 0 x8))))))))))))))))))))):=by kernel_rfl
theorem vsw (s:ByteArray)(Q:Value→Prop):zBi Tryz.prog (cwC yJ7) (oxE [51,59,68,76]) 9 (zAd Tryz.f85) (zAn [.string s] 8) (zAo [] 64) (zA7 Tryz.prog Tryz.f85 fun v _=>Q v)=((∃ x0:ByteArray,(∃ x1:ByteArray,((zC2 s { data:=#[58,58] }=some (x0,x1,false))∧(((x0.data.toList=[])∧((zBg (x0,!false)=some ([],true))∧(((x1.data.toList=[])∧((zBg (x1,true)=some ([],true))∧zb s Q (((true=true)∧Q z0))))∨((x1.data.toList≠[])∧(∃ x2:Int,(∃ x3:Int,(∃ x4:Int,(∃ x5:Int,(∃ x6:Int,(∃ x7:Int,(∃ x8:Int,(∃ x9:Int,((zBg (x1,true)=some ([x2,x3,x4,x5,x6,x7,x8,x9],true))∧zb s Q ((zt (zr (Q (z6 x2 x3 x4 x5 x6 x7 x8 x9))))))))))))))))))∨((x0.data.toList≠[])∧(∃ x2:Int,(∃ x3:Int,(∃ x4:Int,(∃ x5:Int,(∃ x6:Int,(∃ x7:Int,(∃ x8:Int,(∃ x9:Int,((zBg (x0,!false)=some ([x2,x3,x4,x5,x6,x7,x8,x9],true))∧(((x1.data.toList=[])∧((zBg (x1,true)=some ([],true))∧zb s Q ((zt (zr (Q (z6 x2 x3 x4 x5 x6 x7 x8 x9)))))))∨((x1.data.toList≠[])∧(∃ x10:Int,(∃ x11:Int,(∃ x12:Int,(∃ x13:Int,(∃ x14:Int,(∃ x15:Int,(∃ x16:Int,(∃ x17:Int,((zBg (x1,true)=some ([x10,x11,x12,x13,x14,x15,x16,x17],true))∧zb s Q (((true=true)∧Q z0)))))))))))))))))))))))))))):=by kernel_rfl
theorem yV4 (s:ByteArray)(Q:Value→Prop):zBi Tryz.prog (cwC (zXr true)) (oxE []) 0 (zAd Tryz.f85) (zAn [.string s] 8) (zAo [] 64) (zA7 Tryz.prog Tryz.f85 fun v _=>Q v)=((∃ x0:ByteArray,(∃ x1:ByteArray,((zC2 s { data:=#[58,58] }=some (x0,x1,true))∧(∃ x2:List Int×Bool,((zBg (x0,!true)=some x2)∧(((x0.data.toList=[])∧(∃ x3:List Int×Bool,((zBg (x1,true)=some x3)∧(((x1.data.toList=[])∧zc x2.2 x3.2 Q (zb s Q (zAm (zAl (8≤IntKind.wrap .i64 ((↑0:Int)+(↑0:Int)))) (Q z0) (False))))∨(((x1.data.toList≠[])∧((x3.1=[])∧zc x2.2 x3.2 Q (zb s Q (zAm (zAl (8≤IntKind.wrap .i64 ((↑0:Int)+(↑0:Int)))) (Q z0) (False)))))∨((x1.data.toList≠[])∧((x3.1≠[])∧zc x2.2 x3.2 Q (zb s Q (zAm (zAl (8≤IntKind.wrap .i64 ((↑0:Int)+(↑(List.length (x3.1)):Int)))) (Q z0) (False))))))))))∨(((x0.data.toList≠[])∧((x2.1=[])∧(∃ x3:List Int×Bool,((zBg (x1,true)=some x3)∧(((x1.data.toList=[])∧zc x2.2 x3.2 Q (zb s Q (zAm (zAl (8≤IntKind.wrap .i64 ((↑0:Int)+(↑0:Int)))) (Q z0) (False))))∨(((x1.data.toList≠[])∧((x3.1=[])∧zc x2.2 x3.2 Q (zb s Q (zAm (zAl (8≤IntKind.wrap .i64 ((↑0:Int)+(↑0:Int)))) (Q z0) (False)))))∨((x1.data.toList≠[])∧((x3.1≠[])∧zc x2.2 x3.2 Q (zb s Q (zAm (zAl (8≤IntKind.wrap .i64 ((↑0:Int)+(↑(List.length (x3.1)):Int)))) (Q z0) (False)))))))))))∨((x0.data.toList≠[])∧((x2.1≠[])∧(∃ x3:List Int×Bool,((zBg (x1,true)=some x3)∧(((x1.data.toList=[])∧zc x2.2 x3.2 Q (zb s Q (zAm (zAl (8≤IntKind.wrap .i64 ((↑(List.length (x2.1)):Int)+(↑0:Int)))) (Q z0) (False))))∨(((x1.data.toList≠[])∧((x3.1=[])∧zc x2.2 x3.2 Q (zb s Q (zAm (zAl (8≤IntKind.wrap .i64 ((↑(List.length (x2.1)):Int)+(↑0:Int)))) (Q z0) (False)))))∨((x1.data.toList≠[])∧((x3.1≠[])∧zc x2.2 x3.2 Q (zb s Q (zAm (zAl (8≤IntKind.wrap .i64 ((↑(List.length (x2.1)):Int)+(↑(List.length (x3.1)):Int)))) (Q z0) (False))))))))))))))))))):=by kernel_rfl
theorem yV5 (s:ByteArray)(Q:Value→Prop):zBi Tryz.prog (cwC (zXr false)) (oxE []) 0 (zAd Tryz.f85) (zAn [.string s] 8) (zAo [] 64) (zA7 Tryz.prog Tryz.f85 fun v _=>Q v)=((∃ x0:ByteArray,(∃ x1:ByteArray,((zC2 s { data:=#[58,58] }=some (x0,x1,false))∧(∃ x2:List Int×Bool,((zBg (x0,!false)=some x2)∧(((x0.data.toList=[])∧(∃ x3:List Int×Bool,((zBg (x1,true)=some x3)∧(((x1.data.toList=[])∧zc x2.2 x3.2 Q (zb s Q (zAm (zAl (IntKind.wrap .i64 ((↑0:Int)+(↑0:Int))≠8)) (Q z0) (False))))∨(((x1.data.toList≠[])∧((x3.1=[])∧zc x2.2 x3.2 Q (zb s Q (zAm (zAl (IntKind.wrap .i64 ((↑0:Int)+(↑0:Int))≠8)) (Q z0) (False)))))∨((x1.data.toList≠[])∧((x3.1≠[])∧zc x2.2 x3.2 Q (zb s Q (zAm (zAl (IntKind.wrap .i64 ((↑0:Int)+(↑(List.length (x3.1)):Int))≠8)) (Q z0) (False))))))))))∨(((x0.data.toList≠[])∧((x2.1=[])∧(∃ x3:List Int×Bool,((zBg (x1,true)=some x3)∧(((x1.data.toList=[])∧zc x2.2 x3.2 Q (zb s Q (zAm (zAl (IntKind.wrap .i64 ((↑0:Int)+(↑0:Int))≠8)) (Q z0) (False))))∨(((x1.data.toList≠[])∧((x3.1=[])∧zc x2.2 x3.2 Q (zb s Q (zAm (zAl (IntKind.wrap .i64 ((↑0:Int)+(↑0:Int))≠8)) (Q z0) (False)))))∨((x1.data.toList≠[])∧((x3.1≠[])∧zc x2.2 x3.2 Q (zb s Q (zAm (zAl (IntKind.wrap .i64 ((↑0:Int)+(↑(List.length (x3.1)):Int))≠8)) (Q z0) (False)))))))))))∨((x0.data.toList≠[])∧((x2.1≠[])∧(∃ x3:List Int×Bool,((zBg (x1,true)=some x3)∧(((x1.data.toList=[])∧zc x2.2 x3.2 Q (zb s Q (zAm (zAl (IntKind.wrap .i64 ((↑(List.length (x2.1)):Int)+(↑0:Int))≠8)) (Q z0) (False))))∨(((x1.data.toList≠[])∧((x3.1=[])∧zc x2.2 x3.2 Q (zb s Q (zAm (zAl (IntKind.wrap .i64 ((↑(List.length (x2.1)):Int)+(↑0:Int))≠8)) (Q z0) (False)))))∨((x1.data.toList≠[])∧((x3.1≠[])∧zc x2.2 x3.2 Q (zb s Q (zAm (zAl (IntKind.wrap .i64 ((↑(List.length (x2.1)):Int)+(↑(List.length (x3.1)):Int))≠8)) (Q z0) (False))))))))))))))))))):=by kernel_rfl
end Go.Proofs.YtfnacgojmdbjmaaGreatDoor
namespace Go.Proofs.YtfnacgojmdbjmaaGreatDoor
open Go.Det Go.RowKit YtfnacgojmdbjmaaGreatDoorW.PrintWords PPH
theorem yJ8 (k:Nat):
  (∀ x1 x6 x7 x18 x19 x20 r b,addr_row.l0 k x1 x6 x7 x18 x19 x20=some (r,b)→r.length≤x6.length+k+2∧(b=true→x6≠[]∨x20 < x19→r≠[]))∧
  (∀ x1 x6 x7 x9 x18 x19 x20 x36 r b,addr_row.j1 k x1 x6 x7 x9 x18 x19 x20 x36=some (r,b)→r.length≤x6.length+k+2∧(b=true→r≠[])):=by
 induction k with
 |zero=>exact⟨fun _ _ _ _ _ _ _ _ h=>by simp[addr_row.l0] at h,fun _ _ _ _ _ _ _ _ _ _ h=>by simp[addr_row.j1] at h⟩
 |succ k ih=>
  obtain⟨i0,i1⟩:=ih
  refine⟨fun x1 x6 x7 x18 x19 x20 r b h=>?_,fun x1 x6 x7 x9 x18 x19 x20 x36 r b h=>?_⟩
  ·unfold addr_row.l0 at h
   split at h
   ·split at h
    case isFalse=>cases h
    split at h
    case isFalse=>cases h
    split at h
    ·split at h
     ·obtain⟨t,_,h⟩:=Option.bind_eq_some_iff.1 h
      have:=i1 _ _ _ _ _ _ _ _ _ _ h
      exact⟨by omega,fun hb _=>this.2 hb⟩
     ·have:=i1 _ _ _ _ _ _ _ _ _ _ h
      exact⟨by omega,fun hb _=>this.2 hb⟩
    ·have:=i1 _ _ _ _ _ _ _ _ _ _ h
     exact⟨by omega,fun hb _=>this.2 hb⟩
   ·rename_i hn
    cases h
    exact⟨by omega,fun _ q=>by rcases q with q|q;exact q;exact absurd q hn⟩
  ·unfold addr_row.j1 at h
   split at h
   ·obtain⟨t,_,h⟩:=Option.bind_eq_some_iff.1 h
    obtain⟨u,hu,h⟩:=Option.bind_eq_some_iff.1 h
    cases hu
    split at h
    case isFalse=>cases h
    cases h
    exact⟨by(simp;try omega),fun _=>by simp⟩
   ·obtain⟨t,_,h⟩:=Option.bind_eq_some_iff.1 h
    split at h
    ·split at h
     case isFalse=>cases h
     have:=i0 _ _ _ _ _ _ _ _ h
     exact⟨by have:=this.1;simp at this;omega,fun hb=>this.2 hb (.inl (by simp))⟩
    ·cases h
     exact⟨by simp,fun hb=>by cases hb⟩
theorem yA3 (sep:ByteArray)(k:Nat)(s:ByteArray):Lib.splitB sep 0 k s≠[]:=by
 cases k with
 |zero=>simp[Lib.splitB]
 |succ k=>
  unfold Lib.splitB
  split<;>simp
theorem zF9 {s:ByteArray}{l:Bool}{r:List Int}{b:Bool}(h:zBg (s,l)=some (r,b)):r.length≤1002∧(b=true→r=[]→s.data.toList=[]):=by
 unfold zBg addr_row.f at h
 split at h
 ·rename_i h0
  cases h
  simp only[ByteArray.toList_eq] at h0
  exact⟨by simp,fun _ _=>h0⟩
 ·obtain⟨t,ht,h⟩:=Option.bind_eq_some_iff.1 h
  have q:=(yJ8 1000).1 _ _ _ _ _ _ _ _ h
  refine⟨by have:=q.1;simp at this;omega,fun hb hr=>?_⟩
  refine absurd hr (q.2 hb (.inr ?_))
  unfold strings_Split.f at ht
  split at ht
  case isFalse=>cases ht
  cases ht
  have:=List.length_pos_iff.2 (yA3 ⟨#[58]⟩ (Lib.countB s ⟨#[58]⟩) s)
  simp only
  omega
end Go.Proofs.YtfnacgojmdbjmaaGreatDoor
namespace Go.Det
variable {P:Program}
theorem zSh {W:World}{G:Nat}{l:List (Nat×Own)}{h:Heap}{f:FuncId}{fn:Func}{c:Code}{F:List Value→Option Value}(L:Laying G W h)(hGW:G≤W.heap.size)(hG64:G≤64)
  (hm:P.follows .mixedOrders=true) (hl:OwnsAll P W G l) (hf:P.funcs[f]?=some fn) (hb:fn.body=some c) (hok:zEv G fn=true)
  (hF:∀ args v,F args=some v→zCp args=true∧flat v=true∧Nat.ble args.length fn.ntmps=true∧∃ cw,CwOk (zDr l) cw∧zAx P cw c (zAn args 8) (zAo h 64) (zA7 P fn fun v' _=>v'=v)):zAr P W G f (zDb F):=by
 refine⟨zF2 F,fun W1 k1 args s v s' e φ w args' H _ hA _ _=>?_⟩
 unfold zDb at e
 split at e
 case h_2=>cases e
 rename_i r hr
 cases e
 obtain⟨h1,h2,h3,cw,ho,h4⟩:=hF args v hr
 have hn:(fn.name== "runtime.NumGoroutine")=false:=by
  unfold zEv at hok
  rw[hb] at hok
  simp only[Bool.and_eq_true,Bool.not_eq_true'] at hok
  exact hok.2
 rw[zCf h1 hA,zBj hf hb hn]
 have kw:Later W w:=k1.trans H.later
 have Lw:=L.move kw.size kw.old hGW
 refine(zIv (P:=P) (w0:=w) (φ0:=glob G w) (G:=G) ho (zHm hl kw) (zHl hl) hm (zEj G w) (fun id q=>zDu G w hG64 id q) hf hb hok h3 Lw.hr (zDl h1 _) (fun id q=>zDu G w hG64 id q) (fun id q=>Lw.top id (Nat.le_trans hG64 q)) (Nat.le_refl 64) h4).mono ?_
 rintro e W' ⟨v1,v',s1,φ',rfl,rfl,hv,H',_,_⟩
 exact⟨v',φ,rfl,Ext.refl _ _ _,zHh h2 hv,H.keep H'.kept H'.tape⟩
end Go.Det
namespace Go.Proofs.YtfnacgojmdbjmaaGreatDoor
open Go.Det Go.RowKit YtfnacgojmdbjmaaGreatDoorW.PrintWords PPH
def zT4 (a b c d:Int):Int:=orI .u64 (zD3 .u64 (orI .u64 (zD3 .u64 (orI .u64 (zD3 .u64 (orI .u64 (zD3 .u64 0 16) a) 16) b) 16) c) 16) d
def zFb:List Int→Int×Int
 |[a,b,c,d,e,f,g,h]=>(zT4 a b c d,zT4 e f g h)
 |_=>(0,0)
def zVk (s:ByteArray)(cut:Bool)(a b:List Int×Bool):Bool:=
 !a.2||(!b.2||(decide (s.data.toList=[])||(match cut with|true=>decide (8≤a.1.length+b.1.length)|false=>decide (a.1.length+b.1.length≠8))))
def zT5 (s:ByteArray):Option (Int×Int×Int×Bool):=
 (zC2 s { data:=#[58,58] }).bind fun c=>(zBg (c.1,!c.2.2)).bind fun a=>(zBg (c.2.1,true)).bind fun b=>
  if zVk s c.2.2 a b=true then some (0,0,0,false) else some (6,(zFb (a.1++List.replicate (8 - (a.1.length+b.1.length)) 0++b.1)).1,(zFb (a.1++List.replicate (8 - (a.1.length+b.1.length)) 0++b.1)).2,true)
def yC5 (y:Int×Int×Int×Bool):Value:=.tuple #[.agg #[.int .i64 y.1,.int .u64 y.2.1,.int .u64 y.2.2.1],.bool y.2.2.2]
theorem wrap_i64 {x:Int}(h:0≤x∧x < 9223372036854775808):IntKind.wrap .i64 x=x:=by
 unfold IntKind.wrap
 simp[IntKind.signed,IntKind.bits]
 omega
theorem zP2 {b2 b3:Bool}{s t:List UInt8}{p q:Nat}{Q0:Prop}(hQ:Q0)(hp:p≤1002)(hq:q≤1002)(H:b2=false∨b3=false∨s=t∨8≤p+q):
  zAm (!b2) Q0 (zAm (!b3) Q0 (zAm (zAl (s=t)) Q0 (zAm (zAl (8≤IntKind.wrap .i64 ((p:Int)+(q:Int)))) Q0 False))):=by
 rw[wrap_i64 ⟨by omega,by omega⟩]
 refine bifW_n (fun h2=>bifW_n (fun h3=>bifW_c (fun _=>hQ) fun h4=>bifW_c (fun _=>hQ) fun h5=>?_) fun _=>hQ) fun _=>hQ
 rcases H with H|H|H|H
 ·rw[H] at h2;cases h2
 ·rw[H] at h3;cases h3
 ·exact h4 H
 ·omega
theorem zP3 {b2 b3:Bool}{s t:List UInt8}{p q:Nat}{Q0:Prop}(hQ:Q0)(hp:p≤1002)(hq:q≤1002)(H:b2=false∨b3=false∨s=t∨p+q≠8):
  zAm (!b2) Q0 (zAm (!b3) Q0 (zAm (zAl (s=t)) Q0 (zAm (zAl (IntKind.wrap .i64 ((p:Int)+(q:Int))≠8)) Q0 False))):=by
 rw[wrap_i64 ⟨by omega,by omega⟩]
 refine bifW_n (fun h2=>bifW_n (fun h3=>bifW_c (fun _=>hQ) fun h4=>bifW_c (fun _=>hQ) fun h5=>?_) fun _=>hQ) fun _=>hQ
 rcases H with H|H|H|H
 ·rw[H] at h2;cases h2
 ·rw[H] at h3;cases h3
 ·exact h4 H
 ·omega
theorem zG5 {x:ByteArray}{l:Bool}{r:List Int×Bool}(hx:x.data.toList=[])(h:zBg (x,l)=some r):r=([],true):=by
 obtain⟨⟨t⟩⟩:=x
 have:t=[]:=hx
 subst this
 exact ySx h
def zGf (cw:Cw)(s:ByteArray)(y:Int×Int×Int×Bool):Prop:=zAx Tryz.prog cw (zAd Tryz.f85) (zAn [.string s] 8) (zAo [] 64) (zA7 Tryz.prog Tryz.f85 fun v' _=>v'=yC5 y)
def zCm (a b:List Int):Int×Int×Int×Bool:=(6,(zFb (a++List.replicate (8 - (a.length+b.length)) 0++b)).1,(zFb (a++List.replicate (8 - (a.length+b.length)) 0++b)).2,true)
theorem zCn {h t:Nat}{s:ByteArray}{y:Int×Int×Int×Bool}(k:zBi Tryz.prog (cwC (zAy h t)) (oxE [51,59,68,76]) 9 (zAd Tryz.f85) (zAn [.string s] 8) (zAo [] 64) (zA7 Tryz.prog Tryz.f85 fun v' _=>v'=yC5 y)):zGf (cwC (zAy h t)) s y:=zAv (zA0 _) (zFl _) (n:=9) (by kernel_rfl) k
structure SixH (s x0 x1:ByteArray) (a b:List Int):Prop where
 c:zC2 s { data:=#[58,58] }=some (x0,x1,true)
 a:zBg (x0,!true)=some (a,true)
 b:zBg (x1,true)=some (b,true)
 s:¬ s.data.toList=[]
def yJ9:List (Nat×Own):=[(59,conD60.own),(102,zP0 zBg 23)]
theorem yOd {s x0 x1:ByteArray}{a b:List Int×Bool}(hc:zC2 s { data:=#[58,58] }=some (x0,x1,true))(ha:zBg (x0,!true)=some a)(hb:zBg (x1,true)=some b)(H:zVk s true a b=true):
  zAx Tryz.prog (cwC (zXr true)) (zAd Tryz.f85) (zAn [.string s] 8) (zAo [] 64) (zA7 Tryz.prog Tryz.f85 fun v' _=>v'=yC5 (0,0,0,false)):=by
 refine zAv (zA0 _) (zFl _) (n:=0) (by kernel_rfl) ((yV4 s _).mpr ⟨x0,x1,hc,a,ha,?_⟩)
 have la:=(zF9 (r:=a.1) (b:=a.2) ha).1
 have lb:=(zF9 (r:=b.1) (b:=b.2) hb).1
 have H:a.2=false∨b.2=false∨s.data.toList=[]∨8≤a.1.length+b.1.length:=by
  unfold zVk at H
  simp only[Bool.or_eq_true,Bool.not_eq_true',decide_eq_true_eq] at H
  exact H
 by_cases h0:x0.data.toList=[]
 ·have e0:=zG5 h0 ha
  refine .inl ⟨h0,b,hb,?_⟩
  by_cases h1:x1.data.toList=[]
  ·have e1:=zG5 h1 hb
   exact .inl ⟨h1,zP2 (p:=0) (q:=0) rfl (by omega) (by omega) (by rw[e0,e1] at H ⊢;exact H)⟩
  ·by_cases h2:b.1=[]
   ·exact .inr (.inl ⟨h1,h2,zP2 (p:=0) (q:=0) rfl (by omega) (by omega) (by rw[h2,e0] at H;rw[e0];exact H)⟩)
   ·exact .inr (.inr ⟨h1,h2,zP2 (p:=0) rfl (by omega) (by omega) (by rw[e0] at H ⊢;exact H)⟩)
 ·by_cases h2:a.1=[]
  ·refine .inr (.inl ⟨h0,h2,b,hb,?_⟩)
   by_cases h1:x1.data.toList=[]
   ·have e1:=zG5 h1 hb
    exact .inl ⟨h1,zP2 (p:=0) (q:=0) rfl (by omega) (by omega) (by rw[h2,e1] at H;rw[e1];exact H)⟩
   ·by_cases h3:b.1=[]
    ·exact .inr (.inl ⟨h1,h3,zP2 (p:=0) (q:=0) rfl (by omega) (by omega) (by rw[h2,h3] at H;exact H)⟩)
    ·exact .inr (.inr ⟨h1,h3,zP2 (p:=0) rfl (by omega) (by omega) (by rw[h2] at H;exact H)⟩)
  ·refine .inr (.inr ⟨h0,h2,b,hb,?_⟩)
   by_cases h1:x1.data.toList=[]
   ·have e1:=zG5 h1 hb
    exact .inl ⟨h1,zP2 (q:=0) rfl (by omega) (by omega) (by rw[e1] at H ⊢;exact H)⟩
   ·by_cases h3:b.1=[]
    ·exact .inr (.inl ⟨h1,h3,zP2 (q:=0) rfl (by omega) (by omega) (by rw[h3] at H;exact H)⟩)
    ·exact .inr (.inr ⟨h1,h3,zP2 rfl (by omega) (by omega) H⟩)
theorem yOe {s x0 x1:ByteArray}{a b:List Int×Bool}(hc:zC2 s { data:=#[58,58] }=some (x0,x1,false))(ha:zBg (x0,!false)=some a)(hb:zBg (x1,true)=some b)(H:zVk s false a b=true):
  zAx Tryz.prog (cwC (zXr false)) (zAd Tryz.f85) (zAn [.string s] 8) (zAo [] 64) (zA7 Tryz.prog Tryz.f85 fun v' _=>v'=yC5 (0,0,0,false)):=by
 refine zAv (zA0 _) (zFl _) (n:=0) (by kernel_rfl) ((yV5 s _).mpr ⟨x0,x1,hc,a,ha,?_⟩)
 have la:=(zF9 (r:=a.1) (b:=a.2) ha).1
 have lb:=(zF9 (r:=b.1) (b:=b.2) hb).1
 have H:a.2=false∨b.2=false∨s.data.toList=[]∨a.1.length+b.1.length≠8:=by
  unfold zVk at H
  simp only[Bool.or_eq_true,Bool.not_eq_true',decide_eq_true_eq] at H
  exact H
 by_cases h0:x0.data.toList=[]
 ·have e0:=zG5 h0 ha
  refine .inl ⟨h0,b,hb,?_⟩
  by_cases h1:x1.data.toList=[]
  ·have e1:=zG5 h1 hb
   exact .inl ⟨h1,zP3 (p:=0) (q:=0) rfl (by omega) (by omega) (by rw[e0,e1] at H ⊢;exact H)⟩
  ·by_cases h2:b.1=[]
   ·exact .inr (.inl ⟨h1,h2,zP3 (p:=0) (q:=0) rfl (by omega) (by omega) (by rw[h2,e0] at H;rw[e0];exact H)⟩)
   ·exact .inr (.inr ⟨h1,h2,zP3 (p:=0) rfl (by omega) (by omega) (by rw[e0] at H ⊢;exact H)⟩)
 ·by_cases h2:a.1=[]
  ·refine .inr (.inl ⟨h0,h2,b,hb,?_⟩)
   by_cases h1:x1.data.toList=[]
   ·have e1:=zG5 h1 hb
    exact .inl ⟨h1,zP3 (p:=0) (q:=0) rfl (by omega) (by omega) (by rw[h2,e1] at H;rw[e1];exact H)⟩
   ·by_cases h3:b.1=[]
    ·exact .inr (.inl ⟨h1,h3,zP3 (p:=0) (q:=0) rfl (by omega) (by omega) (by rw[h2,h3] at H;exact H)⟩)
    ·exact .inr (.inr ⟨h1,h3,zP3 (p:=0) rfl (by omega) (by omega) (by rw[h2] at H;exact H)⟩)
  ·refine .inr (.inr ⟨h0,h2,b,hb,?_⟩)
   by_cases h1:x1.data.toList=[]
   ·have e1:=zG5 h1 hb
    exact .inl ⟨h1,zP3 (q:=0) rfl (by omega) (by omega) (by rw[e1] at H ⊢;exact H)⟩
   ·by_cases h3:b.1=[]
    ·exact .inr (.inl ⟨h1,h3,zP3 (q:=0) rfl (by omega) (by omega) (by rw[h3] at H;exact H)⟩)
    ·exact .inr (.inr ⟨h1,h3,zP3 rfl (by omega) (by omega) H⟩)
theorem ex0 {l:List Int}(h:l.length=0):l=[]:=List.eq_nil_of_length_eq_zero h
theorem ex1 {l:List Int}(h:l.length=1):∃ a0:Int,l=[a0]:=by
 match l,h with
 |[a0],_=>exact⟨a0,rfl⟩
theorem ex2 {l:List Int}(h:l.length=2):∃ a0 a1:Int,l=[a0,a1]:=by
 match l,h with
 |[a0,a1],_=>exact⟨a0,a1,rfl⟩
theorem ex3 {l:List Int}(h:l.length=3):∃ a0 a1 a2:Int,l=[a0,a1,a2]:=by
 match l,h with
 |[a0,a1,a2],_=>exact⟨a0,a1,a2,rfl⟩
theorem ex4 {l:List Int}(h:l.length=4):∃ a0 a1 a2 a3:Int,l=[a0,a1,a2,a3]:=by
 match l,h with
 |[a0,a1,a2,a3],_=>exact⟨a0,a1,a2,a3,rfl⟩
theorem ex5 {l:List Int}(h:l.length=5):∃ a0 a1 a2 a3 a4:Int,l=[a0,a1,a2,a3,a4]:=by
 match l,h with
 |[a0,a1,a2,a3,a4],_=>exact⟨a0,a1,a2,a3,a4,rfl⟩
theorem ex6 {l:List Int}(h:l.length=6):∃ a0 a1 a2 a3 a4 a5:Int,l=[a0,a1,a2,a3,a4,a5]:=by
 match l,h with
 |[a0,a1,a2,a3,a4,a5],_=>exact⟨a0,a1,a2,a3,a4,a5,rfl⟩
theorem ex7 {l:List Int}(h:l.length=7):∃ a0 a1 a2 a3 a4 a5 a6:Int,l=[a0,a1,a2,a3,a4,a5,a6]:=by
 match l,h with
 |[a0,a1,a2,a3,a4,a5,a6],_=>exact⟨a0,a1,a2,a3,a4,a5,a6,rfl⟩
theorem ex8 {l:List Int}(h:l.length=8):∃ a0 a1 a2 a3 a4 a5 a6 a7:Int,l=[a0,a1,a2,a3,a4,a5,a6,a7]:=by
 match l,h with
 |[a0,a1,a2,a3,a4,a5,a6,a7],_=>exact⟨a0,a1,a2,a3,a4,a5,a6,a7,rfl⟩
theorem zBk {x:ByteArray}{l b:Bool}{r:List Int}(hr:r≠[])(h:zBg (x,l)=some (r,b)):x.data.toList≠[]:=by
 intro hx
 have:=zG5 hx h
 cases this
 exact hr rfl
theorem zBt {x:ByteArray}{l:Bool}(h:zBg (x,l)=some ([],true)):x.data.toList=[]:=(zF9 h).2 rfl rfl
variable {s x y:ByteArray}
theorem yV6 (k:SixH s x y [] []):zGf (cwC (zAy 0 0)) s (zCm [] []):=by
 refine zCn ((yVm s _).mpr ⟨x,y,k.c,zBt k.a,k.a,zBt k.b,k.b,zBf k.s ?_⟩)
 repeat'(first|rfl|decide|refine And.intro ?_ ?_)
theorem yV7 {b0:Int}(k:SixH s x y [] [b0]):zGf (cwC (zAy 0 1)) s (zCm [] [b0]):=by
 refine zCn ((yU4 s _).mpr ⟨x,y,k.c,zBt k.a,k.a,zBk (by simp) k.b,b0,k.b,zBf k.s ?_⟩)
 repeat'(first|rfl|decide|refine And.intro ?_ ?_)
theorem yV8 {b0 b1:Int}(k:SixH s x y [] [b0,b1]):zGf (cwC (zAy 0 2)) s (zCm [] [b0,b1]):=by
 refine zCn ((yVn s _).mpr ⟨x,y,k.c,zBt k.a,k.a,zBk (by simp) k.b,b0,b1,k.b,zBf k.s ?_⟩)
 repeat'(first|rfl|decide|refine And.intro ?_ ?_)
theorem yV9 {b0 b1 b2:Int}(k:SixH s x y [] [b0,b1,b2]):zGf (cwC (zAy 0 3)) s (zCm [] [b0,b1,b2]):=by
 refine zCn ((yU5 s _).mpr ⟨x,y,k.c,zBt k.a,k.a,zBk (by simp) k.b,b0,b1,b2,k.b,zBf k.s ?_⟩)
 repeat'(first|rfl|decide|refine And.intro ?_ ?_)
theorem yWa {b0 b1 b2 b3:Int}(k:SixH s x y [] [b0,b1,b2,b3]):zGf (cwC (zAy 0 4)) s (zCm [] [b0,b1,b2,b3]):=by
 refine zCn ((yVo s _).mpr ⟨x,y,k.c,zBt k.a,k.a,zBk (by simp) k.b,b0,b1,b2,b3,k.b,zBf k.s ?_⟩)
 repeat'(first|rfl|decide|refine And.intro ?_ ?_)
theorem yWb {b0 b1 b2 b3 b4:Int}(k:SixH s x y [] [b0,b1,b2,b3,b4]):zGf (cwC (zAy 0 5)) s (zCm [] [b0,b1,b2,b3,b4]):=by
 refine zCn ((yU6 s _).mpr ⟨x,y,k.c,zBt k.a,k.a,zBk (by simp) k.b,b0,b1,b2,b3,b4,k.b,zBf k.s ?_⟩)
 repeat'(first|rfl|decide|refine And.intro ?_ ?_)
theorem yWc {b0 b1 b2 b3 b4 b5:Int}(k:SixH s x y [] [b0,b1,b2,b3,b4,b5]):zGf (cwC (zAy 0 6)) s (zCm [] [b0,b1,b2,b3,b4,b5]):=by
 refine zCn ((yVp s _).mpr ⟨x,y,k.c,zBt k.a,k.a,zBk (by simp) k.b,b0,b1,b2,b3,b4,b5,k.b,zBf k.s ?_⟩)
 repeat'(first|rfl|decide|refine And.intro ?_ ?_)
theorem yWd {b0 b1 b2 b3 b4 b5 b6:Int}(k:SixH s x y [] [b0,b1,b2,b3,b4,b5,b6]):zGf (cwC (zAy 0 7)) s (zCm [] [b0,b1,b2,b3,b4,b5,b6]):=by
 refine zCn ((yU7 s _).mpr ⟨x,y,k.c,zBt k.a,k.a,zBk (by simp) k.b,b0,b1,b2,b3,b4,b5,b6,k.b,zBf k.s ?_⟩)
 repeat'(first|rfl|decide|refine And.intro ?_ ?_)
theorem yWe {a0:Int}(k:SixH s x y [a0] []):zGf (cwC (zAy 1 0)) s (zCm [a0] []):=by
 refine zCn ((yVq s _).mpr ⟨x,y,k.c,zBk (by simp) k.a,a0,k.a,zBt k.b,k.b,zBf k.s ?_⟩)
 repeat'(first|rfl|decide|refine And.intro ?_ ?_)
theorem yWf {a0 b0:Int}(k:SixH s x y [a0] [b0]):zGf (cwC (zAy 1 1)) s (zCm [a0] [b0]):=by
 refine zCn ((yU8 s _).mpr ⟨x,y,k.c,zBk (by simp) k.a,a0,k.a,zBk (by simp) k.b,b0,k.b,zBf k.s ?_⟩)
 repeat'(first|rfl|decide|refine And.intro ?_ ?_)
theorem yWg {a0 b0 b1:Int}(k:SixH s x y [a0] [b0,b1]):zGf (cwC (zAy 1 2)) s (zCm [a0] [b0,b1]):=by
 refine zCn ((yVr s _).mpr ⟨x,y,k.c,zBk (by simp) k.a,a0,k.a,zBk (by simp) k.b,b0,b1,k.b,zBf k.s ?_⟩)
 repeat'(first|rfl|decide|refine And.intro ?_ ?_)
theorem yWh {a0 b0 b1 b2:Int}(k:SixH s x y [a0] [b0,b1,b2]):zGf (cwC (zAy 1 3)) s (zCm [a0] [b0,b1,b2]):=by
 refine zCn ((yU9 s _).mpr ⟨x,y,k.c,zBk (by simp) k.a,a0,k.a,zBk (by simp) k.b,b0,b1,b2,k.b,zBf k.s ?_⟩)
 repeat'(first|rfl|decide|refine And.intro ?_ ?_)
theorem yWi {a0 b0 b1 b2 b3:Int}(k:SixH s x y [a0] [b0,b1,b2,b3]):zGf (cwC (zAy 1 4)) s (zCm [a0] [b0,b1,b2,b3]):=by
 refine zCn ((yVs s _).mpr ⟨x,y,k.c,zBk (by simp) k.a,a0,k.a,zBk (by simp) k.b,b0,b1,b2,b3,k.b,zBf k.s ?_⟩)
 repeat'(first|rfl|decide|refine And.intro ?_ ?_)
theorem yWj {a0 b0 b1 b2 b3 b4:Int}(k:SixH s x y [a0] [b0,b1,b2,b3,b4]):zGf (cwC (zAy 1 5)) s (zCm [a0] [b0,b1,b2,b3,b4]):=by
 refine zCn ((yVa s _).mpr ⟨x,y,k.c,zBk (by simp) k.a,a0,k.a,zBk (by simp) k.b,b0,b1,b2,b3,b4,k.b,zBf k.s ?_⟩)
 repeat'(first|rfl|decide|refine And.intro ?_ ?_)
theorem yWk {a0 b0 b1 b2 b3 b4 b5:Int}(k:SixH s x y [a0] [b0,b1,b2,b3,b4,b5]):zGf (cwC (zAy 1 6)) s (zCm [a0] [b0,b1,b2,b3,b4,b5]):=by
 refine zCn ((yVt s _).mpr ⟨x,y,k.c,zBk (by simp) k.a,a0,k.a,zBk (by simp) k.b,b0,b1,b2,b3,b4,b5,k.b,zBf k.s ?_⟩)
 repeat'(first|rfl|decide|refine And.intro ?_ ?_)
theorem yWl {a0 a1:Int}(k:SixH s x y [a0,a1] []):zGf (cwC (zAy 2 0)) s (zCm [a0,a1] []):=by
 refine zCn ((yVb s _).mpr ⟨x,y,k.c,zBk (by simp) k.a,a0,a1,k.a,zBt k.b,k.b,zBf k.s ?_⟩)
 repeat'(first|rfl|decide|refine And.intro ?_ ?_)
theorem yWm {a0 a1 b0:Int}(k:SixH s x y [a0,a1] [b0]):zGf (cwC (zAy 2 1)) s (zCm [a0,a1] [b0]):=by
 refine zCn ((yVu s _).mpr ⟨x,y,k.c,zBk (by simp) k.a,a0,a1,k.a,zBk (by simp) k.b,b0,k.b,zBf k.s ?_⟩)
 repeat'(first|rfl|decide|refine And.intro ?_ ?_)
theorem yWn {a0 a1 b0 b1:Int}(k:SixH s x y [a0,a1] [b0,b1]):zGf (cwC (zAy 2 2)) s (zCm [a0,a1] [b0,b1]):=by
 refine zCn ((yVc s _).mpr ⟨x,y,k.c,zBk (by simp) k.a,a0,a1,k.a,zBk (by simp) k.b,b0,b1,k.b,zBf k.s ?_⟩)
 repeat'(first|rfl|decide|refine And.intro ?_ ?_)
theorem yWo {a0 a1 b0 b1 b2:Int}(k:SixH s x y [a0,a1] [b0,b1,b2]):zGf (cwC (zAy 2 3)) s (zCm [a0,a1] [b0,b1,b2]):=by
 refine zCn ((yVv s _).mpr ⟨x,y,k.c,zBk (by simp) k.a,a0,a1,k.a,zBk (by simp) k.b,b0,b1,b2,k.b,zBf k.s ?_⟩)
 repeat'(first|rfl|decide|refine And.intro ?_ ?_)
theorem yWp {a0 a1 b0 b1 b2 b3:Int}(k:SixH s x y [a0,a1] [b0,b1,b2,b3]):zGf (cwC (zAy 2 4)) s (zCm [a0,a1] [b0,b1,b2,b3]):=by
 refine zCn ((yVd s _).mpr ⟨x,y,k.c,zBk (by simp) k.a,a0,a1,k.a,zBk (by simp) k.b,b0,b1,b2,b3,k.b,zBf k.s ?_⟩)
 repeat'(first|rfl|decide|refine And.intro ?_ ?_)
theorem yWq {a0 a1 b0 b1 b2 b3 b4:Int}(k:SixH s x y [a0,a1] [b0,b1,b2,b3,b4]):zGf (cwC (zAy 2 5)) s (zCm [a0,a1] [b0,b1,b2,b3,b4]):=by
 refine zCn ((yVw s _).mpr ⟨x,y,k.c,zBk (by simp) k.a,a0,a1,k.a,zBk (by simp) k.b,b0,b1,b2,b3,b4,k.b,zBf k.s ?_⟩)
 repeat'(first|rfl|decide|refine And.intro ?_ ?_)
theorem yWr {a0 a1 a2:Int}(k:SixH s x y [a0,a1,a2] []):zGf (cwC (zAy 3 0)) s (zCm [a0,a1,a2] []):=by
 refine zCn ((yVe s _).mpr ⟨x,y,k.c,zBk (by simp) k.a,a0,a1,a2,k.a,zBt k.b,k.b,zBf k.s ?_⟩)
 repeat'(first|rfl|decide|refine And.intro ?_ ?_)
theorem yWs {a0 a1 a2 b0:Int}(k:SixH s x y [a0,a1,a2] [b0]):zGf (cwC (zAy 3 1)) s (zCm [a0,a1,a2] [b0]):=by
 refine zCn ((yVx s _).mpr ⟨x,y,k.c,zBk (by simp) k.a,a0,a1,a2,k.a,zBk (by simp) k.b,b0,k.b,zBf k.s ?_⟩)
 repeat'(first|rfl|decide|refine And.intro ?_ ?_)
theorem yWt {a0 a1 a2 b0 b1:Int}(k:SixH s x y [a0,a1,a2] [b0,b1]):zGf (cwC (zAy 3 2)) s (zCm [a0,a1,a2] [b0,b1]):=by
 refine zCn ((yVf s _).mpr ⟨x,y,k.c,zBk (by simp) k.a,a0,a1,a2,k.a,zBk (by simp) k.b,b0,b1,k.b,zBf k.s ?_⟩)
 repeat'(first|rfl|decide|refine And.intro ?_ ?_)
theorem yWu {a0 a1 a2 b0 b1 b2:Int}(k:SixH s x y [a0,a1,a2] [b0,b1,b2]):zGf (cwC (zAy 3 3)) s (zCm [a0,a1,a2] [b0,b1,b2]):=by
 refine zCn ((yVy s _).mpr ⟨x,y,k.c,zBk (by simp) k.a,a0,a1,a2,k.a,zBk (by simp) k.b,b0,b1,b2,k.b,zBf k.s ?_⟩)
 repeat'(first|rfl|decide|refine And.intro ?_ ?_)
theorem yWv {a0 a1 a2 b0 b1 b2 b3:Int}(k:SixH s x y [a0,a1,a2] [b0,b1,b2,b3]):zGf (cwC (zAy 3 4)) s (zCm [a0,a1,a2] [b0,b1,b2,b3]):=by
 refine zCn ((yVg s _).mpr ⟨x,y,k.c,zBk (by simp) k.a,a0,a1,a2,k.a,zBk (by simp) k.b,b0,b1,b2,b3,k.b,zBf k.s ?_⟩)
 repeat'(first|rfl|decide|refine And.intro ?_ ?_)
theorem yWw {a0 a1 a2 a3:Int}(k:SixH s x y [a0,a1,a2,a3] []):zGf (cwC (zAy 4 0)) s (zCm [a0,a1,a2,a3] []):=by
 refine zCn ((yVz s _).mpr ⟨x,y,k.c,zBk (by simp) k.a,a0,a1,a2,a3,k.a,zBt k.b,k.b,zBf k.s ?_⟩)
 repeat'(first|rfl|decide|refine And.intro ?_ ?_)
theorem yWx {a0 a1 a2 a3 b0:Int}(k:SixH s x y [a0,a1,a2,a3] [b0]):zGf (cwC (zAy 4 1)) s (zCm [a0,a1,a2,a3] [b0]):=by
 refine zCn ((yVh s _).mpr ⟨x,y,k.c,zBk (by simp) k.a,a0,a1,a2,a3,k.a,zBk (by simp) k.b,b0,k.b,zBf k.s ?_⟩)
 repeat'(first|rfl|decide|refine And.intro ?_ ?_)
theorem yWy {a0 a1 a2 a3 b0 b1:Int}(k:SixH s x y [a0,a1,a2,a3] [b0,b1]):zGf (cwC (zAy 4 2)) s (zCm [a0,a1,a2,a3] [b0,b1]):=by
 refine zCn ((yV0 s _).mpr ⟨x,y,k.c,zBk (by simp) k.a,a0,a1,a2,a3,k.a,zBk (by simp) k.b,b0,b1,k.b,zBf k.s ?_⟩)
 repeat'(first|rfl|decide|refine And.intro ?_ ?_)
theorem yWz {a0 a1 a2 a3 b0 b1 b2:Int}(k:SixH s x y [a0,a1,a2,a3] [b0,b1,b2]):zGf (cwC (zAy 4 3)) s (zCm [a0,a1,a2,a3] [b0,b1,b2]):=by
 refine zCn ((yVi s _).mpr ⟨x,y,k.c,zBk (by simp) k.a,a0,a1,a2,a3,k.a,zBk (by simp) k.b,b0,b1,b2,k.b,zBf k.s ?_⟩)
 repeat'(first|rfl|decide|refine And.intro ?_ ?_)
theorem yW0 {a0 a1 a2 a3 a4:Int}(k:SixH s x y [a0,a1,a2,a3,a4] []):zGf (cwC (zAy 5 0)) s (zCm [a0,a1,a2,a3,a4] []):=by
 refine zCn ((yV1 s _).mpr ⟨x,y,k.c,zBk (by simp) k.a,a0,a1,a2,a3,a4,k.a,zBt k.b,k.b,zBf k.s ?_⟩)
 repeat'(first|rfl|decide|refine And.intro ?_ ?_)
theorem yW1 {a0 a1 a2 a3 a4 b0:Int}(k:SixH s x y [a0,a1,a2,a3,a4] [b0]):zGf (cwC (zAy 5 1)) s (zCm [a0,a1,a2,a3,a4] [b0]):=by
 refine zCn ((yVj s _).mpr ⟨x,y,k.c,zBk (by simp) k.a,a0,a1,a2,a3,a4,k.a,zBk (by simp) k.b,b0,k.b,zBf k.s ?_⟩)
 repeat'(first|rfl|decide|refine And.intro ?_ ?_)
theorem yW2 {a0 a1 a2 a3 a4 b0 b1:Int}(k:SixH s x y [a0,a1,a2,a3,a4] [b0,b1]):zGf (cwC (zAy 5 2)) s (zCm [a0,a1,a2,a3,a4] [b0,b1]):=by
 refine zCn ((yV2 s _).mpr ⟨x,y,k.c,zBk (by simp) k.a,a0,a1,a2,a3,a4,k.a,zBk (by simp) k.b,b0,b1,k.b,zBf k.s ?_⟩)
 repeat'(first|rfl|decide|refine And.intro ?_ ?_)
theorem yW3 {a0 a1 a2 a3 a4 a5:Int}(k:SixH s x y [a0,a1,a2,a3,a4,a5] []):zGf (cwC (zAy 6 0)) s (zCm [a0,a1,a2,a3,a4,a5] []):=by
 refine zCn ((yVk s _).mpr ⟨x,y,k.c,zBk (by simp) k.a,a0,a1,a2,a3,a4,a5,k.a,zBt k.b,k.b,zBf k.s ?_⟩)
 repeat'(first|rfl|decide|refine And.intro ?_ ?_)
theorem yW4 {a0 a1 a2 a3 a4 a5 b0:Int}(k:SixH s x y [a0,a1,a2,a3,a4,a5] [b0]):zGf (cwC (zAy 6 1)) s (zCm [a0,a1,a2,a3,a4,a5] [b0]):=by
 refine zCn ((yV3 s _).mpr ⟨x,y,k.c,zBk (by simp) k.a,a0,a1,a2,a3,a4,a5,k.a,zBk (by simp) k.b,b0,k.b,zBf k.s ?_⟩)
 repeat'(first|rfl|decide|refine And.intro ?_ ?_)
theorem yW5 {a0 a1 a2 a3 a4 a5 a6:Int}(k:SixH s x y [a0,a1,a2,a3,a4,a5,a6] []):zGf (cwC (zAy 7 0)) s (zCm [a0,a1,a2,a3,a4,a5,a6] []):=by
 refine zCn ((yVl s _).mpr ⟨x,y,k.c,zBk (by simp) k.a,a0,a1,a2,a3,a4,a5,a6,k.a,zBt k.b,k.b,zBf k.s ?_⟩)
 repeat'(first|rfl|decide|refine And.intro ?_ ?_)
end Go.Proofs.YtfnacgojmdbjmaaGreatDoor
namespace Go.Proofs.YtfnacgojmdbjmaaGreatDoor
open Go.Det Go.RowKit YtfnacgojmdbjmaaGreatDoorW.PrintWords PPH
theorem yOf {s x0 x1:ByteArray}(hc:zC2 s { data:=#[58,58] }=some (x0,x1,false)):x1.data.toList=[]:=by
 unfold zC2 at hc
 split at hc
 case isFalse=>cases hc
 unfold zSw Lib.cut at hc
 split at hc
 ·cases hc
 ·cases hc;rfl
theorem yOg {s x0 x1:ByteArray}{la lb:List Int}(hc:zC2 s { data:=#[58,58] }=some (x0,x1,true))(ha:zBg (x0,!true)=some (la,true))(hb:zBg (x1,true)=some (lb,true))(hl:la.length+lb.length≤7)(hs:¬ s.data.toList=[]):
  ∃ cw,CwOk (zDr yJ9) cw∧zGf cw s (zCm la lb):=by
 obtain hh|hh|hh|hh|hh|hh|hh|hh:la.length=0∨la.length=1∨la.length=2∨la.length=3∨la.length=4∨la.length=5∨la.length=6∨la.length=7:=by omega
 ·obtain rfl:=ex0 hh
  obtain ht|ht|ht|ht|ht|ht|ht|ht:lb.length=0∨lb.length=1∨lb.length=2∨lb.length=3∨lb.length=4∨lb.length=5∨lb.length=6∨lb.length=7:=by simp only[List.length_cons,List.length_nil] at hl;omega
  ·obtain rfl:=ex0 ht
   exact⟨_,zAt (zAy 0 0),yV6 ⟨hc,ha,hb,hs⟩⟩
  ·obtain⟨b0,rfl⟩:=ex1 ht
   exact⟨_,zAt (zAy 0 1),yV7 ⟨hc,ha,hb,hs⟩⟩
  ·obtain⟨b0,b1,rfl⟩:=ex2 ht
   exact⟨_,zAt (zAy 0 2),yV8 ⟨hc,ha,hb,hs⟩⟩
  ·obtain⟨b0,b1,b2,rfl⟩:=ex3 ht
   exact⟨_,zAt (zAy 0 3),yV9 ⟨hc,ha,hb,hs⟩⟩
  ·obtain⟨b0,b1,b2,b3,rfl⟩:=ex4 ht
   exact⟨_,zAt (zAy 0 4),yWa ⟨hc,ha,hb,hs⟩⟩
  ·obtain⟨b0,b1,b2,b3,b4,rfl⟩:=ex5 ht
   exact⟨_,zAt (zAy 0 5),yWb ⟨hc,ha,hb,hs⟩⟩
  ·obtain⟨b0,b1,b2,b3,b4,b5,rfl⟩:=ex6 ht
   exact⟨_,zAt (zAy 0 6),yWc ⟨hc,ha,hb,hs⟩⟩
  ·obtain⟨b0,b1,b2,b3,b4,b5,b6,rfl⟩:=ex7 ht
   exact⟨_,zAt (zAy 0 7),yWd ⟨hc,ha,hb,hs⟩⟩
 ·obtain⟨a0,rfl⟩:=ex1 hh
  obtain ht|ht|ht|ht|ht|ht|ht:lb.length=0∨lb.length=1∨lb.length=2∨lb.length=3∨lb.length=4∨lb.length=5∨lb.length=6:=by simp only[List.length_cons,List.length_nil] at hl;omega
  ·obtain rfl:=ex0 ht
   exact⟨_,zAt (zAy 1 0),yWe ⟨hc,ha,hb,hs⟩⟩
  ·obtain⟨b0,rfl⟩:=ex1 ht
   exact⟨_,zAt (zAy 1 1),yWf ⟨hc,ha,hb,hs⟩⟩
  ·obtain⟨b0,b1,rfl⟩:=ex2 ht
   exact⟨_,zAt (zAy 1 2),yWg ⟨hc,ha,hb,hs⟩⟩
  ·obtain⟨b0,b1,b2,rfl⟩:=ex3 ht
   exact⟨_,zAt (zAy 1 3),yWh ⟨hc,ha,hb,hs⟩⟩
  ·obtain⟨b0,b1,b2,b3,rfl⟩:=ex4 ht
   exact⟨_,zAt (zAy 1 4),yWi ⟨hc,ha,hb,hs⟩⟩
  ·obtain⟨b0,b1,b2,b3,b4,rfl⟩:=ex5 ht
   exact⟨_,zAt (zAy 1 5),yWj ⟨hc,ha,hb,hs⟩⟩
  ·obtain⟨b0,b1,b2,b3,b4,b5,rfl⟩:=ex6 ht
   exact⟨_,zAt (zAy 1 6),yWk ⟨hc,ha,hb,hs⟩⟩
 ·obtain⟨a0,a1,rfl⟩:=ex2 hh
  obtain ht|ht|ht|ht|ht|ht:lb.length=0∨lb.length=1∨lb.length=2∨lb.length=3∨lb.length=4∨lb.length=5:=by simp only[List.length_cons,List.length_nil] at hl;omega
  ·obtain rfl:=ex0 ht
   exact⟨_,zAt (zAy 2 0),yWl ⟨hc,ha,hb,hs⟩⟩
  ·obtain⟨b0,rfl⟩:=ex1 ht
   exact⟨_,zAt (zAy 2 1),yWm ⟨hc,ha,hb,hs⟩⟩
  ·obtain⟨b0,b1,rfl⟩:=ex2 ht
   exact⟨_,zAt (zAy 2 2),yWn ⟨hc,ha,hb,hs⟩⟩
  ·obtain⟨b0,b1,b2,rfl⟩:=ex3 ht
   exact⟨_,zAt (zAy 2 3),yWo ⟨hc,ha,hb,hs⟩⟩
  ·obtain⟨b0,b1,b2,b3,rfl⟩:=ex4 ht
   exact⟨_,zAt (zAy 2 4),yWp ⟨hc,ha,hb,hs⟩⟩
  ·obtain⟨b0,b1,b2,b3,b4,rfl⟩:=ex5 ht
   exact⟨_,zAt (zAy 2 5),yWq ⟨hc,ha,hb,hs⟩⟩
 ·obtain⟨a0,a1,a2,rfl⟩:=ex3 hh
  obtain ht|ht|ht|ht|ht:lb.length=0∨lb.length=1∨lb.length=2∨lb.length=3∨lb.length=4:=by simp only[List.length_cons,List.length_nil] at hl;omega
  ·obtain rfl:=ex0 ht
   exact⟨_,zAt (zAy 3 0),yWr ⟨hc,ha,hb,hs⟩⟩
  ·obtain⟨b0,rfl⟩:=ex1 ht
   exact⟨_,zAt (zAy 3 1),yWs ⟨hc,ha,hb,hs⟩⟩
  ·obtain⟨b0,b1,rfl⟩:=ex2 ht
   exact⟨_,zAt (zAy 3 2),yWt ⟨hc,ha,hb,hs⟩⟩
  ·obtain⟨b0,b1,b2,rfl⟩:=ex3 ht
   exact⟨_,zAt (zAy 3 3),yWu ⟨hc,ha,hb,hs⟩⟩
  ·obtain⟨b0,b1,b2,b3,rfl⟩:=ex4 ht
   exact⟨_,zAt (zAy 3 4),yWv ⟨hc,ha,hb,hs⟩⟩
 ·obtain⟨a0,a1,a2,a3,rfl⟩:=ex4 hh
  obtain ht|ht|ht|ht:lb.length=0∨lb.length=1∨lb.length=2∨lb.length=3:=by simp only[List.length_cons,List.length_nil] at hl;omega
  ·obtain rfl:=ex0 ht
   exact⟨_,zAt (zAy 4 0),yWw ⟨hc,ha,hb,hs⟩⟩
  ·obtain⟨b0,rfl⟩:=ex1 ht
   exact⟨_,zAt (zAy 4 1),yWx ⟨hc,ha,hb,hs⟩⟩
  ·obtain⟨b0,b1,rfl⟩:=ex2 ht
   exact⟨_,zAt (zAy 4 2),yWy ⟨hc,ha,hb,hs⟩⟩
  ·obtain⟨b0,b1,b2,rfl⟩:=ex3 ht
   exact⟨_,zAt (zAy 4 3),yWz ⟨hc,ha,hb,hs⟩⟩
 ·obtain⟨a0,a1,a2,a3,a4,rfl⟩:=ex5 hh
  obtain ht|ht|ht:lb.length=0∨lb.length=1∨lb.length=2:=by simp only[List.length_cons,List.length_nil] at hl;omega
  ·obtain rfl:=ex0 ht
   exact⟨_,zAt (zAy 5 0),yW0 ⟨hc,ha,hb,hs⟩⟩
  ·obtain⟨b0,rfl⟩:=ex1 ht
   exact⟨_,zAt (zAy 5 1),yW1 ⟨hc,ha,hb,hs⟩⟩
  ·obtain⟨b0,b1,rfl⟩:=ex2 ht
   exact⟨_,zAt (zAy 5 2),yW2 ⟨hc,ha,hb,hs⟩⟩
 ·obtain⟨a0,a1,a2,a3,a4,a5,rfl⟩:=ex6 hh
  obtain ht|ht:lb.length=0∨lb.length=1:=by simp only[List.length_cons,List.length_nil] at hl;omega
  ·obtain rfl:=ex0 ht
   exact⟨_,zAt (zAy 6 0),yW3 ⟨hc,ha,hb,hs⟩⟩
  ·obtain⟨b0,rfl⟩:=ex1 ht
   exact⟨_,zAt (zAy 6 1),yW4 ⟨hc,ha,hb,hs⟩⟩
 ·obtain⟨a0,a1,a2,a3,a4,a5,a6,rfl⟩:=ex7 hh
  have ht:lb.length=0:=by simp only[List.length_cons,List.length_nil] at hl;omega
  obtain rfl:=ex0 ht
  exact⟨_,zAt (zAy 7 0),yW5 ⟨hc,ha,hb,hs⟩⟩
theorem sxw {s x0 x1:ByteArray}{a0 a1 a2 a3 a4 a5 a6 a7:Int}(hc:zC2 s { data:=#[58,58] }=some (x0,x1,false))(ha:zBg (x0,!false)=some ([a0,a1,a2,a3,a4,a5,a6,a7],true))(hb:zBg (x1,true)=some ([],true))(hs:¬ s.data.toList=[]):
  zAx Tryz.prog (cwC yJ7) (zAd Tryz.f85) (zAn [.string s] 8) (zAo [] 64) (zA7 Tryz.prog Tryz.f85 fun v' _=>v'=yC5 (6,(zFb [a0,a1,a2,a3,a4,a5,a6,a7]).1,(zFb [a0,a1,a2,a3,a4,a5,a6,a7]).2,true)):=by
 refine zAv (zA0 _) (zFl _) (n:=9) (by kernel_rfl) ((vsw s _).mpr ⟨x0,x1,hc,.inr ⟨zBk (by simp) ha,a0,a1,a2,a3,a4,a5,a6,a7,ha,.inl ⟨zBt hb,hb,zBf hs ?_⟩⟩⟩)
 repeat'(first|rfl|decide|refine And.intro ?_ ?_)
theorem yW6 (s:ByteArray)(y:Int×Int×Int×Bool)(hx:zT5 s=some y):∃ cw,CwOk (zDr yJ9) cw∧zAx Tryz.prog cw (zAd Tryz.f85) (zAn [.string s] 8) (zAo [] 64) (zA7 Tryz.prog Tryz.f85 fun v' _=>v'=yC5 y):=by
 unfold zT5 at hx
 obtain⟨⟨x0,x1,cut⟩,hc,hx⟩:=Option.bind_eq_some_iff.1 hx
 obtain⟨⟨la,oa⟩,ha,hx⟩:=Option.bind_eq_some_iff.1 hx
 obtain⟨⟨lb,ob⟩,hb,hx⟩:=Option.bind_eq_some_iff.1 hx
 simp only at ha hb hx
 split at hx
 ·rename_i H
  cases hx
  cases cut with
  |true=>exact⟨_,zAt (zXr true),yOd hc ha hb H⟩
  |false=>exact⟨_,zAt (zXr false),yOe hc ha hb H⟩
 ·rename_i H
  cases hx
  unfold zVk at H
  simp only[Bool.or_eq_true,Bool.not_eq_true',decide_eq_true_eq,not_or,Bool.not_eq_false] at H
  obtain⟨rfl,rfl,hs,H⟩:=H
  cases cut with
  |true=>exact yOg hc ha hb (by simp only[decide_eq_true_eq] at H;omega) hs
  |false=>
   have e:=zG5 (yOf hc) hb
   cases e
   simp only[decide_eq_true_eq,List.length_nil,Nat.add_zero,ne_eq,Decidable.not_not] at H
   obtain⟨a0,a1,a2,a3,a4,a5,a6,a7,rfl⟩:=ex8 H
   exact⟨_,zAt yJ7,sxw hc ha hb hs⟩
def conD52:Con:=Con.opt zXq zT5 yC5
theorem yQ5 {W:World}(hW:GoodW W):zAr Tryz.prog W 6 85 conD52.own:=by
 refine zSh (l:=yJ9) (Laying.empty hW.size) hW.size (by decide) zAs (OwnsAll.cons (yN0 hW) (OwnsAll.cons (yQ2 hW) (zAh W 6))) Tryz.func85 (fn:=Tryz.f85) (c:=zAd Tryz.f85) (by kernel_rfl) (by kernel_rfl) fun args v hv=>?_
 split at hv
 case h_2=>cases hv
 rename_i a ha
 split at hv
 case h_2=>cases hv
 rename_i b hd
 cases hv
 obtain rfl:=zF6 ha
 exact⟨rfl,rfl,by kernel_rfl,yW6 a b hd⟩
def yGv (x:Int×Int):Option (List Int):=some (zDc x.1++zDc x.2)
def yA4:Con where
 own:=conD56.own
 w:=fun args s K=>match yEw args with
  |some a=>exN 8 fun l=>yGv a=some l∧K (.slice (some ⟨s.next,0,none⟩) 8 8) (s.new (.cells (l.map (Value.int .u64)) 47 false))
  |none=>False
 ok:=by
  intro args s K h
  split at h
  ·rename_i a ha
   obtain⟨l,hl,h,hk⟩:=zF7 h
   have e:yAz a=some (l.map (Value.int .u64)):=by cases h;rfl
   exact⟨_,_,by unfold conD56 Con.made;simp only[ha,e],hk,fun K' k=>zEm hl ⟨h,k⟩⟩
  ·exact h.elim
 mono:=by
  intro args s K K' k h
  split at h
  ·obtain⟨l,hl,h,hk⟩:=zF7 h
   exact zEm hl ⟨h,k _ _ hk⟩
  ·exact h.elim
def yEy:List Value→Option Int
 |[.int .u64 n]=>some n
 |_=>none
theorem zSi {args:List Value}{a:Int}(h:yEy args=some a):args=[.int .u64 a]:=by
 unfold yEy at h
 split at h
 case h_2=>cases h
 cases h;rfl
def conD54:Con:=Con.opt yEy zKc enS
theorem yOh {W:World}(hW:GoodW W):zAr Tryz.prog W 6 71 conD54.own:=by
 refine zA5 (fn:=Tryz.f71) (c:=zAd Tryz.f71) hW Tryz.func71 (by kernel_rfl) (by kernel_rfl) fun args v h=>?_
 split at h
 case h_2=>cases h
 rename_i a ha
 split at h
 case h_2=>cases h
 rename_i b hb
 cases h
 obtain rfl:=zSi ha
 exact⟨rfl,rfl,fun w hG=>yN2 hG hb⟩
def yOi:List Value→Option (Int×Int×Int)
 |[.agg ⟨[.int .i64 a,.int .u64 b,.int .u64 c]⟩]=>some (a,b,c)
 |_=>none
theorem zP4 {args:List Value}{a:Int×Int×Int}(h:yOi args=some a):args=[.agg #[.int .i64 a.1,.int .u64 a.2.1,.int .u64 a.2.2]]:=by
 unfold yOi at h
 split at h
 case h_2=>cases h
 cases h;rfl
def okF (v h l:Int):Option Bool:=if v=6 then some true else if v=4 then(if h=0 then some (decide (l < 4294967296)) else some false) else some false
def enB (y:Bool):Value:=.bool y
def conD31:Con:=Con.opt yOi (fun x=>okF x.1 x.2.1 x.2.2) enB
def Lpr:List (Nat×Con):=[(68,conD31),(71,conD54),(90,conD55),(91,yA4),(92,yGt),(93,yGu)]
end Go.Proofs.YtfnacgojmdbjmaaGreatDoor
namespace Go.Proofs.YtfnacgojmdbjmaaGreatDoor
open Go.Det Go.RowKit  YtfnacgojmdbjmaaGreatDoorW.PrintWords
abbrev zy (Q:Value→Prop)(l:List Int)(p:Int×Int)(a b:List Int):Prop:=(zGe l PUnit.unit=some p)∧(true=true∧(∃ x:ByteArray,(zMr a PUnit.unit=some x)∧((ByteArray.size x+ByteArray.size { data:=#[58,58] }≤9223372036854775807)∧(∃ y:ByteArray,(zMr b PUnit.unit=some y)∧((ByteArray.size (x++{ data:=#[58,58] })+ByteArray.size y≤9223372036854775807)∧Q (Value.string (x++{ data:=#[58,58] }++y)))))))
theorem yW7 (v a b:Int)(Q:Value→Prop):zBi Tryz.prog (cwC []) (oxE []) 1 (zAd Tryz.f68) (zAn [.agg #[.int .i64 v,.int .u64 a,.int .u64 b]] 8) (zAo [] 64) (zA7 Tryz.prog Tryz.f68 fun v _=>Q v)=(zAm (zAl (v=6)) (Q (Value.bool true)) (zAm (zAl (v=4)) (zAm (zAl (a=0)) (Q (Value.bool (zAl (b < 4294967296)))) (Q (Value.bool false))) (Q (Value.bool false)))):=by kernel_rfl
theorem yW8 (v a b:Int)(Q:Value→Prop):zBi Tryz.prog (cwC Lpr) (oxE [17,41]) 5 (zAd Tryz.f70) (zAn [.agg #[.int .i64 v,.int .u64 a,.int .u64 b]] 8) (zAo [] 64) (zA7 Tryz.prog Tryz.f70 fun v _=>Q v)=((∃ x0:Bool,((okF v a b=some x0)∧zAm (!x0) (Q (Value.string { data:=#[] })) (zAm (zAl (v=4)) (((true=true)∧(((0:Int)≤24)∧(∃ x1:ByteArray,((zKc (zB2 .u64 (zBm .u64 b 24) 255)=some x1)∧((true=true)∧(((0:Int)≤16)∧(∃ x2:ByteArray,((zKc (zB2 .u64 (zBm .u64 b (16)) 255)=some x2)∧((true=true)∧(((0:Int)≤8)∧(∃ x3:ByteArray,((zKc (zB2 .u64 (zBm .u64 b (8)) 255)=some x3)∧((true=true)∧(((0:Int)≤0)∧(∃ x4:ByteArray,((zKc (zB2 .u64 (zBm .u64 b (0)) 255)=some x4)∧((true=true)∧(∃ x5:ByteArray,((zXp [x1,x2,x3,x4] { data:=#[46] }=some x5)∧Q (Value.string x5))))))))))))))))))))) ((∃ x1:Int,(∃ x2:Int,(∃ x3:Int,(∃ x4:Int,(∃ x5:Int,(∃ x6:Int,(∃ x7:Int,(∃ x8:Int,((yGv (a,b)=some [x1,x2,x3,x4,x5,x6,x7,x8])∧(((zGe [x1,x2,x3,x4,x5,x6,x7,x8] PUnit.unit=some (0,0))∧((true=true)∧(∃ x9:ByteArray,((zMr [x1,x2,x3,x4,x5,x6,x7,x8] PUnit.unit=some x9)∧Q (Value.string x9)))))∨((zy Q [x1,x2,x3,x4,x5,x6,x7,x8] (0,2) [] [x3,x4,x5,x6,x7,x8])∨((zy Q [x1,x2,x3,x4,x5,x6,x7,x8] (0,3) [] [x4,x5,x6,x7,x8])∨((zy Q [x1,x2,x3,x4,x5,x6,x7,x8] (0,4) [] [x5,x6,x7,x8])∨((zy Q [x1,x2,x3,x4,x5,x6,x7,x8] (0,5) [] [x6,x7,x8])∨((zy Q [x1,x2,x3,x4,x5,x6,x7,x8] (0,6) [] [x7,x8])∨((zy Q [x1,x2,x3,x4,x5,x6,x7,x8] (0,7) [] [x8])∨((zy Q [x1,x2,x3,x4,x5,x6,x7,x8] (0,8) [] [])∨((zy Q [x1,x2,x3,x4,x5,x6,x7,x8] (1,3) [x1] [x4,x5,x6,x7,x8])∨((zy Q [x1,x2,x3,x4,x5,x6,x7,x8] (1,4) [x1] [x5,x6,x7,x8])∨((zy Q [x1,x2,x3,x4,x5,x6,x7,x8] (1,5) [x1] [x6,x7,x8])∨((zy Q [x1,x2,x3,x4,x5,x6,x7,x8] (1,6) [x1] [x7,x8])∨((zy Q [x1,x2,x3,x4,x5,x6,x7,x8] (1,7) [x1] [x8])∨((zy Q [x1,x2,x3,x4,x5,x6,x7,x8] (1,8) [x1] [])∨((zy Q [x1,x2,x3,x4,x5,x6,x7,x8] (2,4) [x1,x2] [x5,x6,x7,x8])∨((zy Q [x1,x2,x3,x4,x5,x6,x7,x8] (2,5) [x1,x2] [x6,x7,x8])∨((zy Q [x1,x2,x3,x4,x5,x6,x7,x8] (2,6) [x1,x2] [x7,x8])∨((zy Q [x1,x2,x3,x4,x5,x6,x7,x8] (2,7) [x1,x2] [x8])∨((zy Q [x1,x2,x3,x4,x5,x6,x7,x8] (2,8) [x1,x2] [])∨((zy Q [x1,x2,x3,x4,x5,x6,x7,x8] (3,5) [x1,x2,x3] [x6,x7,x8])∨((zy Q [x1,x2,x3,x4,x5,x6,x7,x8] (3,6) [x1,x2,x3] [x7,x8])∨((zy Q [x1,x2,x3,x4,x5,x6,x7,x8] (3,7) [x1,x2,x3] [x8])∨((zy Q [x1,x2,x3,x4,x5,x6,x7,x8] (3,8) [x1,x2,x3] [])∨((zy Q [x1,x2,x3,x4,x5,x6,x7,x8] (4,6) [x1,x2,x3,x4] [x7,x8])∨((zy Q [x1,x2,x3,x4,x5,x6,x7,x8] (4,7) [x1,x2,x3,x4] [x8])∨((zy Q [x1,x2,x3,x4,x5,x6,x7,x8] (4,8) [x1,x2,x3,x4] [])∨((zy Q [x1,x2,x3,x4,x5,x6,x7,x8] (5,7) [x1,x2,x3,x4,x5] [x8])∨((zy Q [x1,x2,x3,x4,x5,x6,x7,x8] (5,8) [x1,x2,x3,x4,x5] [])∨((zy Q [x1,x2,x3,x4,x5,x6,x7,x8] (6,8) [x1,x2,x3,x4,x5,x6] [])∨False))))))))))))))))))))))))))))))))))))))))))):=by kernel_rfl
end Go.Proofs.YtfnacgojmdbjmaaGreatDoor
namespace Go.Proofs.YtfnacgojmdbjmaaGreatDoor
open Go.Det Go.RowKit YtfnacgojmdbjmaaGreatDoorW.PrintWords PPH
theorem yW9 (x:Int×Int×Int)(y:Bool)(hx:okF x.1 x.2.1 x.2.2=some y):zAx Tryz.prog (cwC []) (zAd Tryz.f68) (zAn [.agg #[.int .i64 x.1,.int .u64 x.2.1,.int .u64 x.2.2]] 8) (zAo [] 64) (zA7 Tryz.prog Tryz.f68 fun v' _=>v'=enB y):=by
 obtain⟨v,a,b⟩:=x
 refine zAv (zA0 _) (zFl _) (n:=1) (by kernel_rfl) ((yW7 v a b _).mpr ?_)
 unfold okF at hx
 simp only at hx
 repeat' first
  |((refine bifW_c (fun hc=>?_) (fun hc=>?_))<;>first|rw[if_pos hc] at hx|rw[if_neg hc] at hx)
  |(cases hx;rfl)
  |(cases hx;simp only[enB,zA2])
theorem yQ6 {W:World}(hW:GoodW W):zAr Tryz.prog W 6 68 conD31.own:=
 zA3 (fun x:Int×Int×Int=>[.agg #[.int .i64 x.1,.int .u64 x.2.1,.int .u64 x.2.2]]) (Laying.empty hW.size) hW.size (by decide) zAs (zAh W 6) Tryz.func68 (fn:=Tryz.f68) (c:=zAd Tryz.f68) (by kernel_rfl) (by kernel_rfl) (fun _ _ h=>zP4 h) (fun a=>⟨rfl,(by kernel_rfl)⟩) (fun b=>rfl) yW9
def grp (a b:Int):List Int:=zDc a++zDc b
def yQ7:ByteArray:={ data:=#[46] }
def yOj:ByteArray:={ data:=#[58,58] }
def pr4 (b:Int):Option ByteArray:=(zKc (zB2 .u64 (zBm .u64 b 24) 255)).bind fun x1=>(zKc (zB2 .u64 (zBm .u64 b 16) 255)).bind fun x2=>(zKc (zB2 .u64 (zBm .u64 b 8) 255)).bind fun x3=>(zKc (zB2 .u64 (zBm .u64 b 0) 255)).bind fun x4=>zXp [x1,x2,x3,x4] yQ7
def pr6 (G:List Int)(ij:Int×Int):Option ByteArray:=
 if ij=(0,0) then zMr G () else if ij∈zOg then(zMr (G.take ij.1.toNat) ()).bind fun s=>(zMr (G.drop ij.2.toNat) ()).bind fun t=>if s.size+2+t.size≤1000 then some (s++yOj++t) else none else none
def prF (v a b:Int):Option ByteArray:=
 (okF v a b).bind fun ok=>if ok=true then(if v=4 then pr4 b else(zGe (grp a b) ()).bind fun ij=>pr6 (grp a b) ij) else some ByteArray.empty
theorem yXa (x:Int×Int×Int)(y:ByteArray)(hx:prF x.1 x.2.1 x.2.2=some y):zAx Tryz.prog (cwC Lpr) (zAd Tryz.f70) (zAn [.agg #[.int .i64 x.1,.int .u64 x.2.1,.int .u64 x.2.2]] 8) (zAo [] 64) (zA7 Tryz.prog Tryz.f70 fun v' _=>v'=enS y):=by
 obtain⟨v,a,b⟩:=x
 refine zAv (zA0 _) (zFl _) (n:=5) (by kernel_rfl) ((yW8 v a b _).mpr ?_)
 unfold prF at hx
 simp only at hx
 obtain⟨ok,hok,hx⟩:=Option.bind_eq_some_iff.1 hx
 refine⟨ok,hok,bifW_n (fun h=>?_) (fun h=>?_)⟩
 rotate_left
 ·rw[if_neg h] at hx;cases hx;rfl
 rw[if_pos h] at hx
 refine bifW_c (fun h4=>?_) (fun h4=>?_)
 ·rw[if_pos h4] at hx
  unfold pr4 at hx
  obtain⟨x1,h1,hx⟩:=Option.bind_eq_some_iff.1 hx
  obtain⟨x2,h2,hx⟩:=Option.bind_eq_some_iff.1 hx
  obtain⟨x3,h3,hx⟩:=Option.bind_eq_some_iff.1 hx
  obtain⟨x4,h4,hx⟩:=Option.bind_eq_some_iff.1 hx
  exact⟨rfl,by decide,x1,h1,rfl,by decide,x2,h2,rfl,by decide,x3,h3,rfl,by decide,x4,h4,rfl,y,hx,rfl⟩
 ·rw[if_neg h4] at hx
  obtain⟨ij,hz,hx⟩:=Option.bind_eq_some_iff.1 hx
  refine⟨_,_,_,_,_,_,_,_,rfl,?_⟩
  unfold pr6 at hx
  split at hx
  ·rename_i he
   subst he
   exact .inl ⟨hz,rfl,y,hx,rfl⟩
  ·split at hx
   case isFalse=>cases hx
   rename_i h0 hm
   obtain⟨s,hs,hx⟩:=Option.bind_eq_some_iff.1 hx
   obtain⟨t,ht,hx⟩:=Option.bind_eq_some_iff.1 hx
   split at hx
   case isFalse=>cases hx
   rename_i hsz
   cases hx
   have e1:s.size+ByteArray.size { data:=#[58,58] }≤9223372036854775807:=by
    have:ByteArray.size { data:=#[58,58] }=2:=rfl
    omega
   have e2:(s++({ data:=#[58,58] }:ByteArray)).size+t.size≤9223372036854775807:=by
    have:ByteArray.size { data:=#[58,58] }=2:=rfl
    rw[ByteArray.size_append]
    omega
   simp only[zOg,List.mem_cons,List.not_mem_nil,or_false] at hm
   rcases hm with rfl|hm
   ·exact absurd rfl h0
   refine .inr ?_
   repeat'(rcases hm with rfl|hm)
   all_goals (repeat'(first|exact Or.inl ⟨hz,rfl,s,hs,e1,t,ht,e2,rfl⟩|exact⟨hz,rfl,s,hs,e1,t,ht,e2,rfl⟩|refine Or.inr ?_))
def conD26:Con:=Con.opt yOi (fun x=>prF x.1 x.2.1 x.2.2) enS
theorem yQ8 {W:World}(hW:GoodW W):OwnsAll Tryz.prog W 6 (yC2 Lpr):=
 OwnsAll.con (yQ6 hW) (OwnsAll.con (yOh hW) (OwnsAll.con (yQv hW) (OwnsAll.con (c:=yA4) (yQ1 hW) (OwnsAll.con (c:=yGt) (yQ3 hW) (OwnsAll.con (c:=yGu) (yQ4 hW) (zAh W 6))))))
theorem yQ9 {W:World}(hW:GoodW W):zAr Tryz.prog W 6 70 conD26.own:=
 zA3 (fun x:Int×Int×Int=>[.agg #[.int .i64 x.1,.int .u64 x.2.1,.int .u64 x.2.2]]) (Laying.empty hW.size) hW.size (by decide) zAs (yQ8 hW) Tryz.func70 (fn:=Tryz.f70) (c:=zAd Tryz.f70) (by kernel_rfl) (by kernel_rfl) (fun _ _ h=>zP4 h) (fun a=>⟨rfl,(by kernel_rfl)⟩) (fun b=>rfl) yXa
end Go.Proofs.YtfnacgojmdbjmaaGreatDoor
end

/- Texts of a proof, joined: words of the print (those that are named here) and printed functions. -/
import Derived.Test.YtfnacgojmdbjmaaGreatDoorQkm11
import Derived.Test.YtfnacgojmdbjmaaGreatDoorQkm10
import Derived.Test.YtfnacgojmdbjmaaGreatDoorQkm6
import Derived.Test.YtfnacgojmdbjmaaGreatDoorRows
import Derived.Test.YtfnacgojmdbjmaaGreatDoorCards
import Derived.Test.YtfnacgojmdbjmaaGreatDoorTie
import Derived.WalkKit
import Derived.ProofKit
import Derived.OpenShut
import Derived.ShutString
import Derived.ChangeOld
import Derived.Below
import Derived.SizedLaws
import Derived.Lib.SmallJoins
set_option linter.unusedSimpArgs false
set_option linter.unusedVariables false
set_option maxRecDepth 100000
noncomputable section
namespace Go.Proofs.YtfnacgojmdbjmaaGreatDoor
open Go.Det Go.RowKit PRD Go.Proofs.ZW
theorem xGm (n c:Nat)(rc lc:List Value)(te tf:TypeId)(v a b n0:Int)(lv:Value)(r0 r1 r2 r3 r4 r5 c0 m0:Int)(Q:Value→Prop):zB8 Tryz.prog (cwC L7d) (oxR Tryz.prog 55 [77]) yQt (zAa Tryz.f7) (zAg [.slice (some ⟨60,0,none⟩) n c,.int .i64 v,.int .u64 a,.int .u64 b,.int .u64 n0,lv,.agg #[.int .i64 r0,.int .u64 r1,.int .u64 r2,.int .i64 r3,.int .u64 r4,.int .u64 r5],.int .u64 c0,.int .i64 m0] 8) (zAh (zRo rc te lc tf) 64) (zA2 Tryz.prog Tryz.f7 fun v _=>Q v)=(zAd (zAf (100 < (↑n:Int))) ((∃ x0:Bool,((some true=some x0)∧Q (Value.bool x0)))) ((∃ x0:Int×Int×Int×Int×Int×Int,((YW.f v a b n0=some x0)∧(∃ x1:Int×Int×Int×Int×Int×Int,((YW.f v a (yQy .u64 b c0) n0=some x1)∧(∃ x2:Int×Int×Int×Int,((YZ.f v a b m0=some x2)∧(∃ x3:ByteArray,((zZw n rc=some x3)∧(∃ x4:ByteArray,((YJ.f x0.1 x0.2.1 x0.2.2.1 x0.2.2.2.1 x0.2.2.2.2.1 x0.2.2.2.2.2=some x4)∧(∃ x5:ByteArray,((txG v a b (Value.slice none 0 0) lc=some x5)∧((ByteArray.size x5+ByteArray.size { data:=#[45] }≤9223372036854775807)∧(∃ x6:ByteArray,((txG v a b lv lc=some x6)∧((ByteArray.size (x5++{ data:=#[45] })+ByteArray.size x6≤9223372036854775807)∧(∃ x7:ByteArray,((txG v a b lv lc=some x7)∧((true=true)∧((((0:Int)≤0)∧(0 < (↑4:Int)))∧(∃ x8:Int×Int×Int×Int×Int×Int×Bool,((YM.f x3=some x8)∧(∃ x9:P7,((zT9 x3=some x9)∧zAd (!(zAf (x8.1=x9.1)&&(zAf (x8.2.1=x9.2.1)&&(zAf (x8.2.2.1=x9.2.2.1)&&(zAf (x8.2.2.2.1=x9.2.2.2.1)&&(zAf (x8.2.2.2.2.1=x9.2.2.2.2.1)&&(zAf (x8.2.2.2.2.2.1=x9.2.2.2.2.2.1)&&true))))))) (Q (Value.bool false)) (zAd (!x8.2.2.2.2.2.2==x9.2.2.2.2.2.2) (Q (Value.bool false)) (((true=true)∧(((0≤IntKind.wrap .i64 (0+1))∧(IntKind.wrap .i64 (0+1) < (↑4:Int)))∧(∃ x10:Int×Int×Int×Int×Int×Int×Bool,((YM.f x4=some x10)∧(∃ x11:P7,((zT9 x4=some x11)∧zAd (!(zAf (x10.1=x11.1)&&(zAf (x10.2.1=x11.2.1)&&(zAf (x10.2.2.1=x11.2.2.1)&&(zAf (x10.2.2.2.1=x11.2.2.2.1)&&(zAf (x10.2.2.2.2.1=x11.2.2.2.2.1)&&(zAf (x10.2.2.2.2.2.1=x11.2.2.2.2.2.1)&&true))))))) (Q (Value.bool false)) (zAd (!x10.2.2.2.2.2.2==x11.2.2.2.2.2.2) (Q (Value.bool false)) (((true=true)∧(((0≤IntKind.wrap .i64 (IntKind.wrap .i64 (0+1)+1))∧(IntKind.wrap .i64 (IntKind.wrap .i64 (0+1)+1) < (↑4:Int)))∧(∃ x12:Int×Int×Int×Int×Int×Int×Bool,((YM.f (x5++{ data:=#[45] }++x6)=some x12)∧(∃ x13:P7,((zT9 (x5++{ data:=#[45] }++x6)=some x13)∧zAd (!(zAf (x12.1=x13.1)&&(zAf (x12.2.1=x13.2.1)&&(zAf (x12.2.2.1=x13.2.2.1)&&(zAf (x12.2.2.2.1=x13.2.2.2.1)&&(zAf (x12.2.2.2.2.1=x13.2.2.2.2.1)&&(zAf (x12.2.2.2.2.2.1=x13.2.2.2.2.2.1)&&true))))))) (Q (Value.bool false)) (zAd (!x12.2.2.2.2.2.2==x13.2.2.2.2.2.2) (Q (Value.bool false)) (((true=true)∧(((0≤IntKind.wrap .i64 (IntKind.wrap .i64 (IntKind.wrap .i64 (0+1)+1)+1))∧(IntKind.wrap .i64 (IntKind.wrap .i64 (IntKind.wrap .i64 (0+1)+1)+1) < (↑4:Int)))∧(∃ x14:Int×Int×Int×Int×Int×Int×Bool,((YM.f x7=some x14)∧(∃ x15:P7,((zT9 x7=some x15)∧zAd (!(zAf (x14.1=x15.1)&&(zAf (x14.2.1=x15.2.1)&&(zAf (x14.2.2.1=x15.2.2.1)&&(zAf (x14.2.2.2.1=x15.2.2.2.1)&&(zAf (x14.2.2.2.2.1=x15.2.2.2.2.1)&&(zAf (x14.2.2.2.2.2.1=x15.2.2.2.2.2.1)&&true))))))) (Q (Value.bool false)) (zAd (!x14.2.2.2.2.2.2==x15.2.2.2.2.2.2) (Q (Value.bool false)) (((true=true)∧(∃ x16:LqV,(((eqL [vP 65,vP 67,vS 77 3 3,vI (↑3:Int),vI 0] [vP 65,vP 67,vS 77 3 3,vI 3,vI x16.i])∧((bE (zEe x0) (zEe x16.r) 105)∧((bE (encQ x2) (encQ x16.p) 61)∧(rE ([vI r0,vU r1,vU r2,vI r3,vU r4,vU r5,vI x0.1,vU x0.2.1,vU x0.2.2.1,vI x0.2.2.2.1,vU x0.2.2.2.2.1,vU x0.2.2.2.2.2,vI x1.1,vU x1.2.1,vU x1.2.2.1,vI x1.2.2.2.1,vU x1.2.2.2.2.1,vU x1.2.2.2.2.2]) (List.flatMap zEe x16.t) 105))))∧(∃ x17:LqV,((Star zP0 x16 x17)∧((true=true)∧((zAf (x17.i < 3)=false)∧(∃ x18:Bool,((some true=some x18)∧Q (Value.bool x18)))))))))))))))))))))))))))))))))))))))))))))))))))))))))))))):=by kernel_rfl
theorem yXx (rc lc:List Value)(te tf:TypeId)(v a b n0:Int)(lv:Value)(r0 r1 r2 r3 r4 r5 c0 m0:Int)(Q:Value→Prop):zB8 Tryz.prog (cwC L7d) (oxE [77]) yQt (zAa Tryz.f7) (zAg [.float .f64 1,.int .i64 v,.int .u64 a,.int .u64 b,.int .u64 n0,lv,.agg #[.int .i64 r0,.int .u64 r1,.int .u64 r2,.int .i64 r3,.int .u64 r4,.int .u64 r5],.int .u64 c0,.int .i64 m0] 8) (zAh (zRo rc te lc tf) 64) (zA2 Tryz.prog Tryz.f7 fun v _=>Q v)=(zAd (zAf (100 < (↑0:Int))) ((∃ x0:Bool,((some true=some x0)∧Q (Value.bool x0)))) ((∃ x0:Int×Int×Int×Int×Int×Int,((YW.f v a b n0=some x0)∧(∃ x1:Int×Int×Int×Int×Int×Int,((YW.f v a (yQy .u64 b c0) n0=some x1)∧(∃ x2:Int×Int×Int×Int,((YZ.f v a b m0=some x2)∧(∃ x3:ByteArray,((YJ.f x0.1 x0.2.1 x0.2.2.1 x0.2.2.2.1 x0.2.2.2.2.1 x0.2.2.2.2.2=some x3)∧(∃ x4:ByteArray,((txG v a b (Value.slice none 0 0) lc=some x4)∧((ByteArray.size x4+ByteArray.size { data:=#[45] }≤9223372036854775807)∧(∃ x5:ByteArray,((txG v a b lv lc=some x5)∧((ByteArray.size (x4++{ data:=#[45] })+ByteArray.size x5≤9223372036854775807)∧(∃ x6:ByteArray,((txG v a b lv lc=some x6)∧((true=true)∧((((0:Int)≤0)∧(0 < (↑4:Int)))∧(∃ x7:Int×Int×Int×Int×Int×Int×Bool,((YM.f { data:={ toList:=[] } }=some x7)∧(∃ x8:P7,((zT9 { data:={ toList:=[] } }=some x8)∧zAd (!(zAf (x7.1=x8.1)&&(zAf (x7.2.1=x8.2.1)&&(zAf (x7.2.2.1=x8.2.2.1)&&(zAf (x7.2.2.2.1=x8.2.2.2.1)&&(zAf (x7.2.2.2.2.1=x8.2.2.2.2.1)&&(zAf (x7.2.2.2.2.2.1=x8.2.2.2.2.2.1)&&true))))))) (Q (Value.bool false)) (zAd (!x7.2.2.2.2.2.2==x8.2.2.2.2.2.2) (Q (Value.bool false)) (((true=true)∧(((0≤IntKind.wrap .i64 (0+1))∧(IntKind.wrap .i64 (0+1) < (↑4:Int)))∧(∃ x9:Int×Int×Int×Int×Int×Int×Bool,((YM.f x3=some x9)∧(∃ x10:P7,((zT9 x3=some x10)∧zAd (!(zAf (x9.1=x10.1)&&(zAf (x9.2.1=x10.2.1)&&(zAf (x9.2.2.1=x10.2.2.1)&&(zAf (x9.2.2.2.1=x10.2.2.2.1)&&(zAf (x9.2.2.2.2.1=x10.2.2.2.2.1)&&(zAf (x9.2.2.2.2.2.1=x10.2.2.2.2.2.1)&&true))))))) (Q (Value.bool false)) (zAd (!x9.2.2.2.2.2.2==x10.2.2.2.2.2.2) (Q (Value.bool false)) (((true=true)∧(((0≤IntKind.wrap .i64 (IntKind.wrap .i64 (0+1)+1))∧(IntKind.wrap .i64 (IntKind.wrap .i64 (0+1)+1) < (↑4:Int)))∧(∃ x11:Int×Int×Int×Int×Int×Int×Bool,((YM.f (x4++{ data:=#[45] }++x5)=some x11)∧(∃ x12:P7,((zT9 (x4++{ data:=#[45] }++x5)=some x12)∧zAd (!(zAf (x11.1=x12.1)&&(zAf (x11.2.1=x12.2.1)&&(zAf (x11.2.2.1=x12.2.2.1)&&(zAf (x11.2.2.2.1=x12.2.2.2.1)&&(zAf (x11.2.2.2.2.1=x12.2.2.2.2.1)&&(zAf (x11.2.2.2.2.2.1=x12.2.2.2.2.2.1)&&true))))))) (Q (Value.bool false)) (zAd (!x11.2.2.2.2.2.2==x12.2.2.2.2.2.2) (Q (Value.bool false)) (((true=true)∧(((0≤IntKind.wrap .i64 (IntKind.wrap .i64 (IntKind.wrap .i64 (0+1)+1)+1))∧(IntKind.wrap .i64 (IntKind.wrap .i64 (IntKind.wrap .i64 (0+1)+1)+1) < (↑4:Int)))∧(∃ x13:Int×Int×Int×Int×Int×Int×Bool,((YM.f x6=some x13)∧(∃ x14:P7,((zT9 x6=some x14)∧zAd (!(zAf (x13.1=x14.1)&&(zAf (x13.2.1=x14.2.1)&&(zAf (x13.2.2.1=x14.2.2.1)&&(zAf (x13.2.2.2.1=x14.2.2.2.1)&&(zAf (x13.2.2.2.2.1=x14.2.2.2.2.1)&&(zAf (x13.2.2.2.2.2.1=x14.2.2.2.2.2.1)&&true))))))) (Q (Value.bool false)) (zAd (!x13.2.2.2.2.2.2==x14.2.2.2.2.2.2) (Q (Value.bool false)) (((true=true)∧(∃ x15:LqV,(((eqL [vP 65,vP 67,vS 77 3 3,vI (↑3:Int),vI 0] [vP 65,vP 67,vS 77 3 3,vI 3,vI x15.i])∧((bE (zEe x0) (zEe x15.r) 105)∧((bE (encQ x2) (encQ x15.p) 61)∧(rE ([vI r0,vU r1,vU r2,vI r3,vU r4,vU r5,vI x0.1,vU x0.2.1,vU x0.2.2.1,vI x0.2.2.2.1,vU x0.2.2.2.2.1,vU x0.2.2.2.2.2,vI x1.1,vU x1.2.1,vU x1.2.2.1,vI x1.2.2.2.1,vU x1.2.2.2.2.1,vU x1.2.2.2.2.2]) (List.flatMap zEe x15.t) 105))))∧(∃ x16:LqV,((Star zP0 x15 x16)∧((true=true)∧((zAf (x16.i < 3)=false)∧(∃ x17:Bool,((some true=some x17)∧Q (Value.bool x17)))))))))))))))))))))))))))))))))))))))))))))))))))))))))))):=by kernel_rfl
theorem U6H {q:Nat}(h:q < zB1):U6 (H q):=by
 have:=yDy h
 unfold H U6
 exact⟨xI6 _,PRD.toI this⟩
theorem U6L (q:Nat):U6 (L q):=by
 have:=zUh q
 unfold L U6
 exact⟨xI6 _,PRD.toI this⟩
theorem yIu {q n:Nat}(hq:q < zB1)(hn:n < 18446744073709551616):YN.f (H q) (L q) 0 (n:Int)=if q+n < zB1 then some (H (q+n),L (q+n),true) else some (0,0,false):=by
 have h1:=xId q M64
 have l1:=zUh q
 have x1:=yDy hq
 have h2:=xId (q+n) M64
 have l2:=zUh (q+n)
 have hM:M64=18446744073709551616:=rfl
 have hM2:zB1=340282366920938463463374607431768211456:=by decide
 unfold YN.f H L
 generalize q / M64=x at *
 generalize q % M64=z at *
 generalize (q+n) / M64=x' at *
 generalize (q+n) % M64=z' at *
 rw[hM] at h1 h2
 rw[hM2]
 simp only[IntKind.wrap_u64]
 by_cases c:z+n < 18446744073709551616
 ·rw[xGr (by omega),xGr (by omega),xGr (by omega),xGq (by omega)]
  simp only[xGu,xG5,and_true]
  omega
 ·rw[xGq (by omega),xGr (by omega)]
  by_cases c2:q+n < 340282366920938463463374607431768211456
  ·rw[xGr (by omega),xGq c2]
   simp only[xGu,xG5,and_true]
   omega
  ·rw[xGq (by omega),xGr c2]
theorem yXy {n s:Int}(h0:0≤n)(h1:n < 18446744073709551616):∃ N:Nat,N < 18446744073709551616∧Go.Det.shrI .u64 n s=(N:Int):=by
 unfold Go.Det.shrI
 have hp:(0:Int) < 2 ^ min s.toNat IntKind.u64.bits:=Int.pow_pos (by decide)
 rw[Int.fdiv_eq_ediv_of_nonneg _ (by omega)]
 have a:=Int.ediv_nonneg h0 (Int.le_of_lt hp)
 have b:=Int.ediv_le_self (2 ^ min s.toNat IntKind.u64.bits) h0
 exact⟨(n / 2 ^ min s.toNat IntKind.u64.bits).toNat,by omega,by omega⟩
abbrev R6':Type:=Int×Int×Int×Int×Int×Int
def Fit (x:R6'):Prop:=U6 x.2.1∧U6 x.2.2.1∧U6 x.2.2.2.2.1∧U6 x.2.2.2.2.2
theorem YD0 {v a b n:Int}(ha:U6 a)(hb:U6 b)(hn:U6 n):∃ x:R6',YW.f v a b n=some x∧Fit x:=by
 obtain⟨V,B,q,h,hq,e1⟩:=YE0 (k:=300) (by decide) v a b ha.1 ha.2 hb.1 hb.2
 obtain⟨N,hN,eN⟩:=yXy (s:=IntKind.u64.wrap (Go.Det.andI .i64 (Go.Det.shrI .i64 v 9) 63)) hn.1 hn.2
 have e2:=yIu (h.pow hq) hN
 have same:Fit (V,H q,L q,V,H q,L q):=⟨U6H (h.pow hq),U6L q,U6H (h.pow hq),U6L q⟩
 unfold YW.f
 rw[e1,xGp]
 simp only
 rw[eN,e2]
 by_cases c:q+N < zB1
 ·rw[xGq c,xGp]
  simp only
  rw[xGq trivial,zH5,yWf h c,xGp]
  by_cases c2:q+N < 2 ^ B
  ·rw[xGq (xGx c2)]
   exact⟨_,rfl,U6H (h.pow hq),U6L q,U6H c,U6L _⟩
  ·rw[xGr (by simpa using c2)]
   exact⟨_,rfl,same⟩
 ·rw[xGr c,xGp]
  exact⟨_,rfl,same⟩
theorem yIv {v a b:Int}(ha:U6 a)(hb:U6 b):∃ s,PT s∧PPPT.Yf.f 300 v a b []=some ⟨⟨s⟩⟩:=by
 obtain⟨V,B,q,h,hq,e⟩:=PRD.YE0 (k:=300) (by decide) v a b ha.1 ha.2 hb.1 hb.2
 have e':PPPT.Ye.f v a b=some (V,H q,L q):=e
 obtain⟨s,hs,_,hp⟩:=zLn h hq (k:=300) (xGv _)
 refine⟨s,hs,?_⟩
 unfold PPPT.Yf.f
 rw[e',xGp,hp,xGp]
 unfold PPPT.Yf.l0
 rw[xGr (by simp)]
 unfold PPPT.Yf.j1
 rw[xGr (by decide)]
theorem toL (a b:ByteArray):(a++b).data.toList=a.data.toList++b.data.toList:=by simp
theorem zKg {s:List UInt8}(hs:PT s){y:ByteArray}(hy:y.size≤200):∃ r,YM.f ((⟨⟨s⟩⟩:ByteArray)++({ data:=#[45] }:ByteArray)++y)=some r∧zT9 ((⟨⟨s⟩⟩:ByteArray)++({ data:=#[45] }:ByteArray)++y)=some r:=by
 have hl:=hs.len
 have hyl:y.data.toList.length=y.size:=rfl
 have e1:((⟨⟨s⟩⟩:ByteArray)++({ data:=#[45] }:ByteArray)++y).data.toList=s++45::y.data.toList:=by
  rw[toL,toL];simp
 refine zUa (a:=s) (b:=y.data.toList) ?_ e1 hs.da (by omega) (by omega)
 rw[xHi,xHi,show(⟨⟨s⟩⟩:ByteArray).size=s.length from bsz s,show ByteArray.size ({ data:=#[45] }:ByteArray)=1 from rfl];omega
theorem zN7 {r:ByteArray}(h:r={ data:=#[] }∨∃ x y,PT x∧PT y∧r=(⟨⟨x⟩⟩:ByteArray)++({ data:=#[45] }:ByteArray)++⟨⟨y⟩⟩):∃ z,YM.f r=some z∧zT9 r=some z:=by
 rcases h with rfl|⟨x,y,hx,hy,rfl⟩
 ·exact zJs (by decide)
 ·have:=hy.len
  exact zKg hx (by rw[show(⟨⟨y⟩⟩:ByteArray).size=y.length from bsz y];omega)
theorem yTr {x:R6'}(h:Fit x):(crF x=some []∧cgF x=some [])∨∃ t:List Q4,t≠[]∧t.length≤254∧crF x=some t∧cgF x=some t:=by
 obtain⟨V,h1,h2,W,h4,h5⟩:=x
 rcases YH0 (V:=V) (W:=W) h.1 h.2.1 h.2.2.1 h.2.2.2 with⟨e1,e2⟩|⟨B,p,q,hk,hp,hq,e1,e2,rfl,e4,e5,hle,_,_⟩
 ·refine .inl ⟨?_,?_⟩
  ·unfold crF YI.f
   simp only
   rw[e1,xGp,xGr (by decide)]
   rfl
  ·unfold cgF cvF cvO
   simp only
   rw[e2,xGp,xGr (by decide)]
   rfl
 ·subst e1 e2 e4 e5
  obtain⟨t,t1,t2,t3,t4⟩:=yIq hk hq hle
  refine .inr ⟨t.map p4,by simpa using t1,by rw[xHm];exact t2,?_,?_⟩
  ·unfold crF
   simp only
   rw[t3,xGp,xGq (by omega)]
  ·unfold cgF
   simp only
   rw[t4,xGp,xGq (by rw[xHm];omega)]
end Go.Proofs.YtfnacgojmdbjmaaGreatDoor
namespace Go.Proofs.YtfnacgojmdbjmaaGreatDoor
open Go.Det Go.RowKit PRD Go.Proofs.ZW
theorem zDq {b:Bool}{A B:Prop}(h:b=false)(k:B):zAd b A B:=by rw[h];exact k
theorem sB (x:Bool):(!(x==x))=false:=by cases x<;>rfl
theorem cT {α:Type}(a:α):zAf (a=a)=true:=zBy.2 rfl
theorem sT {α:Type}(a:α):(!zAf (a=a))=false:=by rw[cT];rfl
theorem s3 (a b c:Int):(!(zAf (a=a)&&(zAf (b=b)&&(zAf (c=c)&&true))))=false:=by rw[cT,cT,cT];rfl
theorem s4 (a b c d:Int):(!(zAf (a=a)&&(zAf (b=b)&&(zAf (c=c)&&(zAf (d=d)&&true)))))=false:=by rw[cT,cT,cT,cT];rfl
theorem yTs {v a b:Int}{lv:Value}{lc:List Value}{t:List Int}(ha:U6 a)(hb:U6 b)(ht:tOf lv lc=some t)(hl:t.length≤9223372036854775807):∃ r,txG v a b lv lc=some r∧r.size≤196:=by
 obtain⟨r,hr,hs⟩:=yIh (v:=v) (l:=t) ha.1 ha.2 hb.1 hb.2
 refine⟨r,?_,hs⟩
 unfold txG
 rw[ht]
 simp only
 rw[xGq hl]
 exact hr
theorem yKc (v a b n:Int)(ha:U6 a)(hb:U6 b):∃ q:P4,YZ.f v a b n=some q∧U6 q.2.1∧U6 q.2.2.1:=by
 obtain⟨V,B,q,m,hk,hq,_,_,e⟩:=ySy v a b n ha.1 ha.2 hb.1 hb.2
 exact⟨_,e,U6H (hk.pow hq),U6L q⟩
theorem yKd (x y:Int):U6 (yQy .u64 x y):=by
 obtain⟨n,hn,e⟩:=zZt .xor x y
 have e':yQy .u64 x y=(n:Int):=e
 rw[e']
 exact⟨xI6 _,toI hn⟩
theorem s6 (a b c d e f:Int):(!(zAf (a=a)&&(zAf (b=b)&&(zAf (c=c)&&(zAf (d=d)&&(zAf (e=e)&&(zAf (f=f)&&true)))))))=false:=by rw[cT,cT,cT,cT,cT,cT];rfl
theorem nT {α:Type}(a:α):zAf (a≠a)=false:=zCm.2 fun h=>h rfl
theorem yQu {v:LqV}{p:Q4}(h0:0≤v.j)(h1:v.j < (v.f.length:Int))(hg:v.g=v.f)(hp:v.f[v.j.toNat]?=some p):zX0 v { v with j:=wrap64 (v.j+1) }:=by
 obtain⟨r,q,t,i,f,g,j⟩:=v
 obtain rfl:g=f:=hg
 refine(xGl ⟨r,q,t,i,g,g,j⟩ ⟨r,q,t,i,g,g,wrap64 (j+1)⟩ False).mpr ⟨rfl,zBy.2 h1,⟨h0,h1⟩,rfl,g,rfl,j.toNat,by show 0+j.toNat * 4=_;omega,p,hp,⟨h0,h1⟩,rfl,g,rfl,j.toNat,by show 0+j.toNat * 4=_;omega,p,hp,zDq (s4 _ _ _ _) ?_⟩
 repeat'(first|rfl|exact xHo|exact congrArg (Value.int .i64) (zBn _)|refine xGy ?_ ?_)
theorem yQv {r:R6}{q:Q4}{t:List R6}{i:Int}{f:List Q4}(hf:f.length≤1000):∀ (d j:Nat),j+d=f.length→Star zX0 ⟨r,q,t,i,f,f,(j:Int)⟩ ⟨r,q,t,i,f,f,(f.length:Int)⟩:=by
 intro d
 induction d with
 |zero=>
  intro j h
  obtain rfl:j=f.length:=by omega
  exact .refl _
 |succ d ih=>
  intro j h
  have:=yQu (v:=⟨r,q,t,i,f,f,(j:Int)⟩) (p:=f[j]'(by omega)) (by show 0≤(j:Int);omega) (by show(j:Int) < (f.length:Int);omega) rfl (by show f[((j:Int)).toNat]?=_;rw[xG7,xGz])
  simp only at this
  rw[w64 (by omega) (by omega)] at this
  exact .step this (ih (j+1) (by omega))
def zX1 (v:LqV):LqV:=⟨v.r,v.p,v.t,wrap64 (v.i+1),v.f,v.g,v.j⟩
theorem yQw {v:LqV}{y:R6}(h0:0≤v.i)(h3:v.i < 3)(hp:v.t[v.i.toNat]?=some y)(fy:Fit y)(q1:U6 v.p.2.1)(q2:U6 v.p.2.2.1):zP0 v (zX1 v):=by
 obtain⟨s,w1,w2,_⟩:=zN1 (V:=y.1) (W:=y.2.2.2.1) fy.1 fy.2.1 fy.2.2.1 fy.2.2.2
 obtain⟨o,k1,k2⟩:=Yt0 y.1 y.2.1 y.2.2.1 y.2.2.2.1 y.2.2.2.2.1 y.2.2.2.2.2
 obtain⟨ha,a1,a2⟩:=yTk (V:=y.1) (W:=y.2.2.2.1) (P1:=v.p.1) (P4:=v.p.2.2.2) fy.1 fy.2.1 fy.2.2.1 fy.2.2.2 q1 q2
 obtain⟨ov,v1,v2⟩:=yIo y.1 y.2.1 y.2.2.1 y.2.2.2.1 y.2.2.2.2.1 y.2.2.2.2.2 v.r.1 v.r.2.1 v.r.2.2.1 v.r.2.2.2.1 v.r.2.2.2.2.1 v.r.2.2.2.2.2
 obtain⟨le,e1,e2⟩:=yIp y.1 y.2.1 y.2.2.1 y.2.2.2.1 y.2.2.2.2.1 y.2.2.2.2.2 v.r.1 v.r.2.1 v.r.2.2.1 v.r.2.2.2.1 v.r.2.2.2.2.1 v.r.2.2.2.2.2
 rcases yTr fy with⟨c1,c2⟩|⟨t,hne,hlen,c1,c2⟩
 ·refine .inr ((yXw v (zX1 v) False).mpr ⟨rfl,zBy.2 h3,⟨h0,h3⟩,rfl,v.t,rfl,v.i.toNat,by omega,y,hp,s,w1,s,w2,zDq (sT _) ⟨o,k1,o,k2,zDq (sB _) ⟨ha,a1,ha,a2,zDq (sB _) ⟨ov,v1,ov,v2,zDq (sB _) ⟨le,e1,le,e2,zDq (sB _) ⟨c1,c2,zDq (nT _) ⟨rfl,?_⟩⟩⟩⟩⟩⟩⟩)
  repeat'(first|rfl|exact xHo|exact congrArg (Value.int .i64) (zBn _)|refine xGy ?_ ?_)
 ·refine .inl ((yXv v (zX1 v) False).mpr ⟨rfl,zBy.2 h3,⟨h0,h3⟩,rfl,v.t,rfl,v.i.toNat,by omega,y,hp,s,w1,s,w2,zDq (sT _) ⟨o,k1,o,k2,zDq (sB _) ⟨ha,a1,ha,a2,zDq (sB _) ⟨ov,v1,ov,v2,zDq (sB _) ⟨le,e1,le,e2,zDq (sB _)
   ⟨t,c1,hne,t,c2,hne,zDq (nT _) ⟨⟨v.r,v.p,v.t,v.i,t,t,0⟩,?_,⟨v.r,v.p,v.t,v.i,t,t,(t.length:Int)⟩,yQv (by omega) t.length 0 (by omega),rfl,zCm.2 (Int.lt_irrefl _),?_⟩⟩⟩⟩⟩⟩⟩)
  ·repeat'(first|rfl|exact xHo|refine xGy ?_ ?_)
  ·repeat'(first|rfl|exact xHo|exact congrArg (Value.int .i64) (zBn _)|refine xGy ?_ ?_)
theorem yFq {x r s:R6}{q:Q4}(hx:Fit x)(hr:Fit r)(hs:Fit s)(q1:U6 q.2.1)(q2:U6 q.2.2.1):Star zP0 ⟨r,q,[x,r,s],0,[],[],0⟩ ⟨r,q,[x,r,s],3,[],[],0⟩:=by
 have st:∀ (i:Nat) (y:R6),i < 3→[x,r,s][i]?=some y→Fit y→zP0 ⟨r,q,[x,r,s],(i:Int),[],[],0⟩ ⟨r,q,[x,r,s],((i+1:Nat):Int),[],[],0⟩:=by
  intro i y hi hy fy
  have:=yQw (v:=⟨r,q,[x,r,s],(i:Int),[],[],0⟩) (y:=y) (by show 0≤(i:Int);omega) (by show(i:Int) < 3;omega) (by show[x,r,s][((i:Int)).toNat]?=some y;rw[xG7];exact hy) fy q1 q2
  unfold zX1 at this
  simp only at this
  rw[w64 (by omega) (by omega)] at this
  exact this
 exact .step (st 0 x (by decide) rfl hx) (.step (st 1 r (by decide) rfl hr) (.step (st 2 s (by decide) rfl hs) (.refl _)))
theorem yKe {v a b:Int}{lc:List Value}(ha:U6 a)(hb:U6 b):∃ s,PT s∧txG v a b (.slice none 0 0) lc=some ⟨⟨s⟩⟩:=by
 obtain⟨s,hs,e⟩:=yIv (v:=v) ha hb
 refine⟨s,hs,?_⟩
 unfold txG tOf
 simp only
 rw[xGq (by decide)]
 exact e
theorem yY1 (x r s:R6):[Value.int IntKind.i64 x.1,Value.int IntKind.u64 x.2.1,Value.int IntKind.u64 x.2.2.1,Value.int IntKind.i64 x.2.2.2.1,Value.int IntKind.u64 x.2.2.2.2.1,Value.int IntKind.u64 x.2.2.2.2.2,
  Value.int IntKind.i64 r.1,Value.int IntKind.u64 r.2.1,Value.int IntKind.u64 r.2.2.1,Value.int IntKind.i64 r.2.2.2.1,Value.int IntKind.u64 r.2.2.2.2.1,Value.int IntKind.u64 r.2.2.2.2.2,
  Value.int IntKind.i64 s.1,Value.int IntKind.u64 s.2.1,Value.int IntKind.u64 s.2.2.1,Value.int IntKind.i64 s.2.2.2.1,Value.int IntKind.u64 s.2.2.2.2.1,Value.int IntKind.u64 s.2.2.2.2.2]=List.flatMap zEe [x,r,s]:=by
 simp[zEe]
theorem yTt {n c:Nat}{rc lc:List Value}{te tf:TypeId}{v a b n0:Int}{lv:Value}{r0 r1 r2 r3 r4 r5 c0 m0:Int}{raw:ByteArray}{t:List Int}(ha:U6 a)(hb:U6 b)(hn0:U6 n0)(hr1:U6 r1)(hr2:U6 r2)(hr4:U6 r4)(hr5:U6 r5)
  (hraw:zZw n rc=some raw) (hn:raw.size=n) (ht:tOf lv lc=some t) (hl:t.length≤9223372036854775807):
  zAo Tryz.prog (cwC L7d) (zAa Tryz.f7) (zAg [.slice (some ⟨60,0,none⟩) n c,.int .i64 v,.int .u64 a,.int .u64 b,.int .u64 n0,lv,.agg #[.int .i64 r0,.int .u64 r1,.int .u64 r2,.int .i64 r3,.int .u64 r4,.int .u64 r5],.int .u64 c0,.int .i64 m0] 8) (zAh (zRo rc te lc tf) 64) (zA2 Tryz.prog Tryz.f7 fun v _=>v=.bool true):=by
 refine zAr (zAp L7d) (yJ1 55 [77]) _ yFp ((xGm n c rc lc te tf v a b n0 lv r0 r1 r2 r3 r4 r5 c0 m0 _).mpr (bifW_c (fun _=>⟨true,rfl,rfl⟩) fun h100=>?_))
 obtain⟨r,er,fr⟩:=YD0 (v:=v) ha hb hn0
 obtain⟨s,es,fs⟩:=YD0 (v:=v) ha (yKd b c0) hn0
 obtain⟨q,eq_,q1,q2⟩:=yKc v a b m0 ha hb
 obtain⟨w,_,w2,wf⟩:=zN1 (V:=r.1) (W:=r.2.2.2.1) fr.1 fr.2.1 fr.2.2.1 fr.2.2.2
 obtain⟨tx,etx,htx⟩:=yTs (v:=v) ha hb ht hl
 obtain⟨t0,ht0,et0⟩:=yKe (v:=v) (lc:=lc) ha hb
 have hz0:(⟨⟨t0⟩⟩:ByteArray).size=t0.length:=bsz t0
 have hl0:=ht0.len
 have one:ByteArray.size ({ data:=#[45] }:ByteArray)=1:=rfl
 obtain⟨y1,a1,b1⟩:=zJs (s:=raw) (by omega)
 obtain⟨y2,a2,b2⟩:=zN7 wf
 obtain⟨y3,a3,b3⟩:=zKg ht0 (y:=tx) (by omega)
 obtain⟨y4,a4,b4⟩:=zJs (s:=tx) (by omega)
 refine⟨r,er,s,es,q,eq_,raw,hraw,w,w2,⟨⟨t0⟩⟩,et0,by omega,tx,etx,by rw[xHi];omega,tx,etx,rfl,by decide,
  y1,a1,y1,b1,zDq (s6 _ _ _ _ _ _) (zDq (sB _) ⟨rfl,by decide,y2,a2,y2,b2,zDq (s6 _ _ _ _ _ _) (zDq (sB _) ⟨rfl,by decide,y3,a3,y3,b3,zDq (s6 _ _ _ _ _ _) (zDq (sB _) ⟨rfl,by decide,y4,a4,y4,b4,zDq (s6 _ _ _ _ _ _) (zDq (sB _)
  ⟨rfl,⟨r,q,[(r0,r1,r2,r3,r4,r5),r,s],0,[],[],0⟩,?_,⟨r,q,[(r0,r1,r2,r3,r4,r5),r,s],3,[],[],0⟩,yFq (x:=(r0,r1,r2,r3,r4,r5)) ⟨hr1,hr2,hr4,hr5⟩ fr fs q1 q2,rfl,zCm.2 (show ¬ (3:Int) < 3 by decide),true,rfl,rfl⟩)⟩)⟩)⟩)⟩
 repeat'(first|rfl|exact xHo|exact yY1 (r0,r1,r2,r3,r4,r5) _ _|refine xGy ?_ ?_)
theorem yTu {rc lc:List Value}{te tf:TypeId}{v a b n0:Int}{lv:Value}{r0 r1 r2 r3 r4 r5 c0 m0:Int}{t:List Int}(ha:U6 a)(hb:U6 b)(hn0:U6 n0)(hr1:U6 r1)(hr2:U6 r2)(hr4:U6 r4)(hr5:U6 r5)
  (ht:tOf lv lc=some t) (hl:t.length≤9223372036854775807):
  zAo Tryz.prog (cwC L7d) (zAa Tryz.f7) (zAg [.float .f64 1,.int .i64 v,.int .u64 a,.int .u64 b,.int .u64 n0,lv,.agg #[.int .i64 r0,.int .u64 r1,.int .u64 r2,.int .i64 r3,.int .u64 r4,.int .u64 r5],.int .u64 c0,.int .i64 m0] 8) (zAh (zRo rc te lc tf) 64) (zA2 Tryz.prog Tryz.f7 fun v _=>v=.bool true):=by
 refine zAr (zAp L7d) (zEc [77]) _ yFp ((yXx rc lc te tf v a b n0 lv r0 r1 r2 r3 r4 r5 c0 m0 _).mpr (bifW_c (fun h=>absurd h (by decide)) fun _=>?_))
 obtain⟨r,er,fr⟩:=YD0 (v:=v) ha hb hn0
 obtain⟨s,es,fs⟩:=YD0 (v:=v) ha (yKd b c0) hn0
 obtain⟨q,eq_,q1,q2⟩:=yKc v a b m0 ha hb
 obtain⟨w,_,w2,wf⟩:=zN1 (V:=r.1) (W:=r.2.2.2.1) fr.1 fr.2.1 fr.2.2.1 fr.2.2.2
 obtain⟨tx,etx,htx⟩:=yTs (v:=v) ha hb ht hl
 obtain⟨t0,ht0,et0⟩:=yKe (v:=v) (lc:=lc) ha hb
 have hz0:(⟨⟨t0⟩⟩:ByteArray).size=t0.length:=bsz t0
 have hl0:=ht0.len
 have one:ByteArray.size ({ data:=#[45] }:ByteArray)=1:=rfl
 obtain⟨y1,a1,b1⟩:=zJs (s:=ByteArray.empty) (by decide)
 obtain⟨y2,a2,b2⟩:=zN7 wf
 obtain⟨y3,a3,b3⟩:=zKg ht0 (y:=tx) (by omega)
 obtain⟨y4,a4,b4⟩:=zJs (s:=tx) (by omega)
 refine⟨r,er,s,es,q,eq_,w,w2,⟨⟨t0⟩⟩,et0,by omega,tx,etx,by rw[xHi];omega,tx,etx,rfl,by decide,
  y1,a1,y1,b1,zDq (s6 _ _ _ _ _ _) (zDq (sB _) ⟨rfl,by decide,y2,a2,y2,b2,zDq (s6 _ _ _ _ _ _) (zDq (sB _) ⟨rfl,by decide,y3,a3,y3,b3,zDq (s6 _ _ _ _ _ _) (zDq (sB _) ⟨rfl,by decide,y4,a4,y4,b4,zDq (s6 _ _ _ _ _ _) (zDq (sB _)
  ⟨rfl,⟨r,q,[(r0,r1,r2,r3,r4,r5),r,s],0,[],[],0⟩,?_,⟨r,q,[(r0,r1,r2,r3,r4,r5),r,s],3,[],[],0⟩,yFq (x:=(r0,r1,r2,r3,r4,r5)) ⟨hr1,hr2,hr4,hr5⟩ fr fs q1 q2,rfl,zCm.2 (show ¬ (3:Int) < 3 by decide),true,rfl,rfl⟩)⟩)⟩)⟩)⟩
 repeat'(first|rfl|exact xHo|exact yY1 (r0,r1,r2,r3,r4,r5) _ _|refine xGy ?_ ?_)
def yFr (k:IntKind)(w:World)(a:Option Addr)(len cap:Nat)(zs:List Int):Prop:=
 (a=none∧len=0∧cap=0∧zs=[])∨
 ∃ x,a=some x∧len≤cap∧cap≤maxLen∧zs.length=cap∧(∀ i,i < zs.length→w.cell? (x.add i)=some (.int k (zs.getD i 0)))∧∀ n∈zs,(Lit.int k n).wf=true
theorem yIw:maxLen < zBa:=by unfold maxLen zBa;decide
theorem yQx {k:IntKind}{W:World}{a:Option Addr}{len cap:Nat}{zs:List Int}(h:yFr k W a len cap zs)(h0:0 < len):
  ∃ b o c t fz,a=some ⟨b,o,none⟩∧W.heap[b]?=some (.cells c t fz)∧len≤cap∧cap < zBa∧len≤9223372036854775807∧len≤zs.length∧o+len≤c.size∧∀ i,i < len→c.getD (o+i) und=.int k (zs.getD i 0):=by
 rcases h with⟨_,rfl,_⟩|⟨⟨b,o,sp⟩,rfl,hle,hm,hz,hcell,_⟩
 ·omega
 have hsp:sp=none:=by simpa [Addr.add] using World.cell?_spot (hcell 0 (by omega))
 subst hsp
 have hM:maxLen=9223372036854775807:=by decide
 have at_:∀ i,i < len→∃ c t fz,W.heap[b]?=some (.cells c t fz)∧o+i < c.size∧c.getD (o+i) und=.int k (zs.getD i 0):=by
  intro i hi
  have h1:=hcell i (by omega)
  rw[Addr.add_lit] at h1
  unfold World.cell? at h1
  split at h1
  case h_2=>cases h1
  rename_i c t fz hb
  simp only[Option.isSome_none,xHz,if_false] at h1
  obtain⟨h2,h3⟩:=Array.getElem?_eq_some_iff.1 h1
  refine⟨c,t,fz,hb,h2,?_⟩
  rw[xHb,h1];rfl
 obtain⟨c,t,fz,hb,_,_⟩:=at_ 0 h0
 refine⟨b,o,c,t,fz,rfl,hb,hle,xH7 hm yIw,by omega,by omega,?_,fun i hi=>?_⟩
 ·obtain⟨c',t',fz',hb',h2,_⟩:=at_ (len - 1) (by omega)
  rw[hb] at hb';cases hb'
  omega
 ·obtain⟨c',t',fz',hb',_,h3⟩:=at_ i hi
  rw[hb] at hb';cases hb'
  exact h3
theorem yIx {W:World}(hW:GoodW W):∃ (b:Nat) (c:Array Value) (t:TypeId) (fz:Nat×Nat),W.heap[b]?=some (Obj.cells c t fz):=by
 obtain⟨t0,t2,t5,L⟩:=hW.lay
 have h:(match(zNa t0 t2 t5).get 1 with|some (Blk.cells _ _ _)=>true|_=>false)=true:=by kernel_rfl
 split at h
 case h_2=>cases h
 rename_i cs e ro hg
 obtain⟨b,sh,sz,c,fz,q⟩:=L.hr.cells 1 _ _ _ hg
 exact⟨b,c,_,fz,q.blk⟩
theorem yFs (k:IntKind)(zs:List Int)(n i:Nat)(h:i < ((zs.take n).map (Value.int k)).length):((zs.take n).map (Value.int k)).getD i und=.int k (zs.getD i 0):=by
 rw[xHm,xHn] at h
 rw[xGw,xIe,xIh,xGq (by omega),xGw,xGz (by omega)]
 rfl
def two (W:World)(x y:Nat×Nat×Nat):Ren:=upd (upd (glob 6 W) 60 x) 61 y
theorem yKf (W:World)(x y:Nat×Nat×Nat):two W x y 60=some x:=by unfold two;rw[zA7 _ _ (by decide),zBd]
theorem yKg (W:World)(x y:Nat×Nat×Nat):two W x y 61=some y:=by unfold two;rw[zBd]
theorem yTv {W:World}(hW:GoodW W){b1 o1 b2 o2:Nat}{c1 c2:Array Value}{t1 t2:TypeId}{f1 f2:Nat×Nat}{rc lc:List Value}(h1:W.heap[b1]?=some (.cells c1 t1 f1))(h2:W.heap[b2]?=some (.cells c2 t2 f2))
  (s1:o1+rc.length≤c1.size) (s2:o2+lc.length≤c2.size)
  (v1:∀ i,i < rc.length→VR (two W (b1,o1,c1.size) (b2,o2,c2.size)) (rc.getD i und) (c1.getD (o1+i) und)) (v2:∀ i,i < lc.length→VR (two W (b1,o1,c1.size) (b2,o2,c2.size)) (lc.getD i und) (c2.getD (o2+i) und)):
  HR (two W (b1,o1,c1.size) (b2,o2,c2.size)) (zRo rc (2 * t1) lc (2 * t2)) W W:=by
 have get:∀ id B,(zRo rc (2 * t1) lc (2 * t2)).get id=some B→(id=60∧B=.cells rc (2 * t1) true)∨(id=61∧B=.cells lc (2 * t2) true):=by
  intro id B h
  obtain⟨x,hx,e1,e2⟩:=zCn _ id B h
  simp only[xG6,xHh,or_false] at hx
  rcases hx with rfl|rfl
  ·exact .inl ⟨e1.symm,e2⟩
  ·exact .inr ⟨e1.symm,e2⟩
 refine⟨rfl,rfl,rfl,xGv _,fun _ _=>rfl,fun id b sh sz q=>?_,fun id cs e ro q=>?_,fun i j ci ei cj ej r bi si zi bj sj zj _ gi _ _ _=>?_,fun id o q=>?_,fun i j ei ej bi si zi bj sj zj _ gi _ _ _=>?_⟩
 ·unfold two at q
  by_cases e61:id=61
  ·subst e61
   rw[zBd] at q;cases q
   exact zQs h2
  ·rw[zA7 _ _ e61] at q
   by_cases e60:id=60
   ·subst e60
    rw[zBd] at q;cases q
    exact zQs h1
   ·rw[zA7 _ _ e60] at q
    exact(Laying.empty (G:=6) hW.size).hr.dom _ _ _ _ q
 ·rcases get _ _ q with⟨rfl,e⟩|⟨rfl,e⟩
  ·cases e
   exact⟨b1,o1,c1.size,c1,f1,yKf _ _ _,by rw[zSa];exact h1,fun h=>absurd h (yAd t1),rfl,s1,v1,fun h=>by cases h⟩
  ·cases e
   exact⟨b2,o2,c2.size,c2,f2,yKg _ _ _,by rw[zSa];exact h2,fun h=>absurd h (yAd t2),rfl,s2,v2,fun h=>by cases h⟩
 ·rcases get _ _ gi with⟨_,e⟩|⟨_,e⟩<;>cases e
 ·rcases get _ _ q with⟨_,e⟩|⟨_,e⟩<;>cases e
 ·rcases get _ _ gi with⟨_,e⟩|⟨_,e⟩<;>cases e
theorem yIy (W:World)(x y:Nat×Nat×Nat):Glob 6 (two W x y):=fun g hg=>by
 obtain⟨z,hz⟩:=zD4 6 W g hg
 refine⟨z,?_⟩
 unfold two
 rw[zA7 _ _ (by omega),zA7 _ _ (by omega)]
 exact hz
theorem yFt (W:World)(x y:Nat×Nat×Nat)(id:Nat)(h:64≤id):two W x y id=none:=by
 unfold two
 rw[zA7 _ _ (by omega),zA7 _ _ (by omega)]
 exact zC6 6 W (by decide) id h
theorem yFu (rc:List Value)(te:TypeId)(lc:List Value)(tf:TypeId)(id:Nat)(h:64≤id):(zRo rc te lc tf).get id=none:=by
 cases e:(zRo rc te lc tf).get id with
 |none=>rfl
 |some B=>
  obtain⟨x,hx,e1,_⟩:=zCn _ id B e
  simp only[xG6,xHh,or_false] at hx
  rcases hx with rfl|rfl<;>(simp only at e1;omega)
theorem yFv {k:IntKind}{W:World}(hW:GoodW W){a:Option Addr}{len cap:Nat}{zs:List Int}(h:yFr k W a len cap zs)(hs:∀ x,a=some x→x.spot=none)(id:Nat):
  ∃ (b o:Nat) (c:Array Value) (t:TypeId) (fz:Nat×Nat) (cs:List Value) (rv:Value),W.heap[b]?=some (.cells c t fz)∧o+cs.length≤c.size∧(∀ φ i,i < cs.length→VR φ (cs.getD i und) (c.getD (o+i) und))∧
   (∀ φ,φ id=some (b,o,c.size)→VR φ rv (.slice a len cap))∧cs=(zs.take len).map (Value.int k)∧cs.length=len∧
   ((len=0∧rv=.float .f64 1)∨(0 < len∧rv=.slice (some ⟨id,0,none⟩) len cap∧len≤cap∧len≤9223372036854775807)):=by
 by_cases h0:len=0
 ·subst h0
  obtain⟨b,c,t,fz,hb⟩:=yIx hW
  exact⟨b,0,c,t,fz,[],.float .f64 1,hb,xIc _,fun φ i hi=>absurd hi (Nat.not_lt_zero _),fun φ _=>VR.emp a cap hs,rfl,rfl,.inl ⟨rfl,rfl⟩⟩
 ·obtain⟨b,o,c,t,fz,rfl,hb,h1,h2,h3,h4,h5,h6⟩:=yQx h (by omega)
  have hlen:((zs.take len).map (Value.int k)).length=len:=by rw[xHm,xHn];omega
  refine⟨b,o,c,t,fz,(zs.take len).map (Value.int k),.slice (some ⟨id,0,none⟩) len cap,hb,by rw[hlen];exact h5,fun φ i hi=>?_,fun φ hφ=>VR.slice id 0 b o c.size len cap hφ h2,rfl,hlen,.inr ⟨by omega,rfl,h1,h3⟩⟩
  rw[yFs k zs len i hi,h6 i (by omega)]
  exact VR.int _ _
theorem zUd:∀ (zs:List Int),∃ bs:List UInt8,zIp (zs.map (Value.int .u8))=some bs∧bs.length=zs.length
 |[]=>⟨[],rfl,rfl⟩
 |z::t=>by
  obtain⟨bs,h1,h2⟩:=zUd t
  exact⟨UInt8.ofNat z.toNat::bs,by show(match zIp (t.map (Value.int .u8)) with|some r=>some (UInt8.ofNat z.toNat::r)|none=>none)=_;rw[h1],by rw[xG4,xG4,h2]⟩
theorem yTw {n:Nat}{zs:List Int}(h:((zs.take n).map (Value.int .u8)).length=n):∃ raw,zZw n ((zs.take n).map (Value.int .u8))=some raw∧raw.size=n:=by
 obtain⟨bs,h1,h2⟩:=zUd (zs.take n)
 refine⟨⟨bs.toArray⟩,?_,?_⟩
 ·unfold zZw
  rw[zDy (xI0 h.symm),xIu (xI0 h)]
  simp only[h1]
 ·show(List.toArray bs).size=n
  rw[xIv,h2]
  rw[xHm] at h
  exact h
theorem zX2:∀ (zs:List Int),yFx dI (zs.map (Value.int .i64))=some zs
 |[]=>rfl
 |z::t=>by
  have e:dI (Value.int .i64 z)=some z:=rfl
  rw[xHx,yFx,e]
  simp only[zX2 t]
theorem xGn {lv:Value}{len cap:Nat}{zs:List Int}(hl:((zs.take len).map (Value.int .i64)).length=len)(h:(len=0∧lv=.float .f64 1)∨(0 < len∧lv=.slice (some ⟨61,0,none⟩) len cap∧len≤cap∧len≤9223372036854775807)):
  ∃ t,tOf lv ((zs.take len).map (Value.int .i64))=some t∧t.length≤9223372036854775807:=by
 rcases h with⟨_,rfl⟩|⟨_,rfl,h1,h2⟩
 ·exact⟨[],rfl,by decide⟩
 ·refine⟨zs.take len,?_,by rw[xHm] at hl;omega⟩
  have e1:Nat.ble len cap=true:=xH0 h1
  show(match Nat.ble len cap with|true=>(match zEm len ((zs.take len).map (Value.int .i64)) with|some r=>yFx dI r|none=>none)|false=>none)=_
  rw[e1]
  simp only
  rw[zDy (xI0 hl.symm),xIu (xI0 hl)]
  exact zX2 _
theorem xGo {φ:Ren}{u0 u1 u2 u3 u4 u5 u6 u7 u8 v0 v1 v2 v3 v4 v5 v6 v7 v8:Value}(h0:VR φ u0 v0)(h1:VR φ u1 v1)(h2:VR φ u2 v2)(h3:VR φ u3 v3)(h4:VR φ u4 v4)(h5:VR φ u5 v5)(h6:VR φ u6 v6)(h7:VR φ u7 v7)(h8:VR φ u8 v8):
  VRL φ [u0,u1,u2,u3,u4,u5,u6,u7,u8] [v0,v1,v2,v3,v4,v5,v6,v7,v8]:=by
 refine⟨rfl,fun i=>?_⟩
 match i with
 |0=>exact h0
 |1=>exact h1
 |2=>exact h2
 |3=>exact h3
 |4=>exact h4
 |5=>exact h5
 |6=>exact h6
 |7=>exact h7
 |8=>exact h8
 |n+9=>exact VR.any _
theorem zN8 {W:World}(hW:GoodW W){aR aL:Option Addr}{nR cR nL cL:Nat}{zR zL:List Int}(hR:yFr .u8 W aR nR cR zR)(hL:yFr .i64 W aL nL cL zL)(sR:∀ x,aR=some x→x.spot=none)(sL:∀ x,aL=some x→x.spot=none)
  {v a b n0 r0 r1 r2 r3 r4 r5 c0 m0:Int} (ha:U6 a) (hb:U6 b) (hn:U6 n0) (hr1:U6 r1) (hr2:U6 r2) (hr4:U6 r4) (hr5:U6 r5):
  Calls Tryz.prog 7 #[.slice aR nR cR,.int .i64 v,.int .u64 a,.int .u64 b,.int .u64 n0,.slice aL nL cL,.agg #[.int .i64 r0,.int .u64 r1,.int .u64 r2,.int .i64 r3,.int .u64 r4,.int .u64 r5],.int .u64 c0,.int .i64 m0] W
   fun e W'=>e=.returned (.bool true)∧Below W.heap.size W W':=by
 obtain⟨b1,o1,c1,t1,f1,rc,rv,g1,g2,g3,g4,g5,g6,g7⟩:=yFv hW hR sR 60
 obtain⟨b2,o2,c2,t2,f2,lc,lv,l1,l2,l3,l4,l5,l6,l7⟩:=yFv hW hL sL 61
 have H:=yTv hW g1 l1 g2 l2 (fun i hi=>g3 _ i hi) (fun i hi=>l3 _ i hi)
 have hA:VRL (two W (b1,o1,c1.size) (b2,o2,c2.size)) [rv,.int .i64 v,.int .u64 a,.int .u64 b,.int .u64 n0,lv,.agg #[.int .i64 r0,.int .u64 r1,.int .u64 r2,.int .i64 r3,.int .u64 r4,.int .u64 r5],.int .u64 c0,.int .i64 m0]
   [.slice aR nR cR,.int .i64 v,.int .u64 a,.int .u64 b,.int .u64 n0,.slice aL nL cL,.agg #[.int .i64 r0,.int .u64 r1,.int .u64 r2,.int .i64 r3,.int .u64 r4,.int .u64 r5],.int .u64 c0,.int .i64 m0]:=
  xGo (g4 _ (yKf _ _ _)) (VR.int _ _) (VR.int _ _) (VR.int _ _) (VR.int _ _) (l4 _ (yKg _ _ _)) (zCp rfl _) (VR.int _ _) (VR.int _ _)
 obtain⟨t,ht,hl⟩:=xGn (lv:=lv) (zs:=zL) (len:=nL) (cap:=cL) (by rw[← l5];exact l6) l7
 rw[← l5] at ht
 have main:zAo Tryz.prog (cwC L7d) (zAa Tryz.f7) (zAg [rv,.int .i64 v,.int .u64 a,.int .u64 b,.int .u64 n0,lv,.agg #[.int .i64 r0,.int .u64 r1,.int .u64 r2,.int .i64 r3,.int .u64 r4,.int .u64 r5],.int .u64 c0,.int .i64 m0] 8) (zAh (zRo rc (2 * t1) lc (2 * t2)) 64) (zA2 Tryz.prog Tryz.f7 fun v _=>v=.bool true):=by
  rcases g7 with⟨_,rfl⟩|⟨_,rfl,_,_⟩
  ·exact yTu ha hb hn hr1 hr2 hr4 hr5 ht hl
  ·obtain⟨raw,q1,q2⟩:=yTw (n:=nR) (zs:=zR) (by rw[← g5];exact g6)
   rw[← g5] at q1
   exact yTt ha hb hn hr1 hr2 hr4 hr5 q1 q2 ht hl
 refine(zHd (P:=Tryz.prog) (w0:=W) (φ0:=two W (b1,o1,c1.size) (b2,o2,c2.size)) (G:=6) (fn:=Tryz.f7) (c:=zAa Tryz.f7) (zAq L7d) (zFx (yYy hW) (Later.refl W)) (zFw (yYy hW)) zAl (yIy _ _ _) (yFt _ _ _) Tryz.func7 (by kernel_rfl) (by kernel_rfl) (by kernel_rfl) H hA (yFt _ _ _) (yFu _ _ _ _) (xGv 64) main).mono ?_
 rintro e W' ⟨v1,v',s1,φ',rfl,rfl,hv,H',_,_⟩
 rw[zHn hv]
 exact⟨rfl,H'.os,H'.tape,H'.output,H'.size,fun j hj=>H'.old j hj⟩
end Go.Proofs.YtfnacgojmdbjmaaGreatDoor
section
namespace Go.Proofs.YtfnacgojmdbjmaaGreatDoor
open Go.ChangeShapes Go.WideShapes Go.ChangeAt Go.RowKit Go.Det
theorem zRt:laidOutB Tryz.prog=true:=by kernel_rfl
theorem zV7 {n:Int}(h:(Lit.int .u64 n).wf=true):U6 n:=by
 simp[Lit.wf,IntKind.min,IntKind.max,IntKind.signed,IntKind.bits] at h
 exact⟨by omega,by omega⟩
theorem zP1 {P:Program}{w:World}{r:Reach}{base:Nat}{t e:TypeId}{a:Option Addr}{len cap:Nat}(ht:P.underlying t=some (.slice e))(h:Value.okWide P w r base t (.slice a len cap)):∀ x,a=some x→x.spot=none:=by
 rintro x rfl
 simp only[Value.okWide,ht,Cell.okWide,Cell.ok,World.has] at h
 exact h.2.2.2.1
section
variable {H:Type} {enc:TypeId×Value→H} {w:World} {base:Nat} {spare:Nat→Bool} {held:Bool}
theorem c30:Tryz.prog.cellsOf 30=4:=by kernel_rfl
theorem c28:Tryz.prog.cellsOf 28=3:=by kernel_rfl
theorem c26:Tryz.prog.cellsOf 26=2:=by kernel_rfl
theorem c23:Tryz.prog.cellsOf 23=1:=by kernel_rfl
theorem c3:Tryz.prog.cellsOf 3=1:=by kernel_rfl
theorem zUe {n:Nat}{u0 u1 u2:Value}{y:DataW H×List MemPlace}(h:DataW.trod enc Tryz.prog w base spare held n 28 [u0,u1,u2]=some y):
  ∃ a b c:Int,u0=.int .i64 a∧u1=.int .u64 b∧u2=.int .u64 c∧(Lit.int .u64 b).wf=true∧(Lit.int .u64 c).wf=true:=by
 obtain⟨y0,y1,m,_,_,h0,h1⟩:=trod_struct2 Tryz.underlying28 h
 simp only[c3,c26] at h0 h1
 have h0:DataW.trod enc Tryz.prog w base spare held m 3 [u0]=some y0:=h0
 have h1:DataW.trod enc Tryz.prog w base spare held m 26 [u1,u2]=some y1:=h1
 obtain⟨z0,z1,k,_,_,g0,g1⟩:=trod_struct2 Tryz.underlying26 h1
 simp only[c23] at g0 g1
 have g0:DataW.trod enc Tryz.prog w base spare held k 23 [u1]=some z0:=g0
 have g1:DataW.trod enc Tryz.prog w base spare held k 23 [u2]=some z1:=g1
 obtain⟨a,e0,_,_⟩:=DataW.trod_int Tryz.underlying3 h0
 obtain⟨b,e1,_,wb⟩:=DataW.trod_int Tryz.underlying23 g0
 obtain⟨c,e2,_,wc⟩:=DataW.trod_int Tryz.underlying23 g1
 simp only[List.cons.injEq,and_true] at e0 e1 e2
 exact⟨a,b,c,e0,e1,e2,wb,wc⟩
theorem zX3 {W:World}{k:IntKind}{t e:TypeId}{a:Option Addr}{len cap:Nat}{d:DataW H}{p:List MemPlace}(ht:Tryz.prog.underlying t=some (.slice e))(he:Tryz.prog.underlying e=some (.int k))(hc:Tryz.prog.cellsOf e=1)
  (h:DataW.Trod enc Tryz.prog W 0 (fun _=>true) true t (.slice a len cap) d p):∃ zs,yFr k W a len cap zs:=by
 obtain⟨fuel,hf⟩:=h
 rcases open_ints ht he hc hf with⟨hcs,_⟩|⟨x,l,c,zs,hcs,_,hl,hm,hz,_,hcell,hwz⟩
 ·simp[Value.cells] at hcs
  obtain⟨rfl,rfl,rfl⟩:=hcs
  exact⟨[],.inl ⟨rfl,rfl,rfl,rfl⟩⟩
 ·simp[Value.cells] at hcs
  obtain⟨rfl,rfl,rfl⟩:=hcs
  exact⟨zs,.inr ⟨_,rfl,hl,hm,by simpa using hz,hcell,hwz⟩⟩
end
end Go.Proofs.YtfnacgojmdbjmaaGreatDoor
end
section
namespace Go.Proofs.YtfnacgojmdbjmaaGreatDoor
open Go.ChangeShapes Go.WideShapes Go.ChangeAt Go.RowKit Go.Det
section
variable {H:Type} {enc:TypeId×Value→H} {w:World} {base:Nat} {spare:Nat→Bool} {held:Bool}
theorem c52:Tryz.prog.cellsOf 52=6:=by kernel_rfl
theorem yTx {α:Type}{cs:Array α}(h:cs.size=6):∃ c0 c1 c2 c3 c4 c5,cs=#[c0,c1,c2,c3,c4,c5]:=by
 obtain⟨l⟩:=cs
 match l,h with
 |[a,b,c,d,e,f],_=>exact⟨a,b,c,d,e,f,rfl⟩
theorem yFw {r:Reach}{b0:Nat}{v:Value}{d:DataW H}{p:List MemPlace}(hv:Value.okWide Tryz.prog w r b0 52 v)(h:DataW.Trod enc Tryz.prog w base spare held 52 v d p):
  ∃ a b c a' b' c':Int,v=.agg #[.int .i64 a,.int .u64 b,.int .u64 c,.int .i64 a',.int .u64 b',.int .u64 c']∧(Lit.int .u64 b).wf=true∧(Lit.int .u64 c).wf=true∧(Lit.int .u64 b').wf=true∧(Lit.int .u64 c').wf=true:=by
 obtain⟨cs,rfl,hsz⟩:=okWide_struct Tryz.underlying52 hv
 obtain⟨u0,u1,u2,u3,u4,u5,rfl⟩:=yTx (hsz.trans c52)
 obtain⟨fuel,hf⟩:=h
 have hf:DataW.trod enc Tryz.prog w base spare held fuel 52 [u0,u1,u2,u3,u4,u5]=some (d,p):=by simpa [Value.cells] using hf
 obtain⟨y0,y1,m,_,_,h0,h1⟩:=trod_struct2 Tryz.underlying52 hf
 rw[c28] at h0 h1
 have h0:DataW.trod enc Tryz.prog w base spare held m 28 [u0,u1,u2]=some y0:=h0
 have h1:DataW.trod enc Tryz.prog w base spare held m 28 [u3,u4,u5]=some y1:=h1
 obtain⟨a,b,c,rfl,rfl,rfl,wb,wc⟩:=zUe h0
 obtain⟨a',b',c',rfl,rfl,rfl,wb',wc'⟩:=zUe h1
 exact⟨a,b,c,a',b',c',rfl,wb,wc,wb',wc'⟩
end
theorem zK5 (os:Os)(started:os.Started)(H:Type)(enc:TypeId×Value→H):
  ReturnsInHanded {} Tryz.checked os 7 .any (fun w args=>(Rows.rangTellsSpec.pre enc Tryz.prog Tryz.f7 [] false w args∧laidMetH Tryz.prog Rows.rangTellsRow.laid w)∧sizedMet enc Tryz.prog Tryz.f7 (OpenSpec.ofChange Rows.rangTellsSpec) false w args)
   (Rows.rangTellsSpec.post enc Tryz.prog Tryz.f7 false true false false):=by
 refine zVg (C:=Tryz.checked) (X:=fun w _=>laidMetH Tryz.prog Rows.rangTellsRow.laid w) (fun _ _ _ hh h=>h.of_heap hh) yRp started (by kernel_rfl) Tryz.func7
  (ChangeSpec.witness_shaped (enc:=enc) (C:=Tryz.checked) (os:=os) (X:=fun w _=>laidMetH Tryz.prog Rows.rangTellsRow.laid w) false (World.laidAll Tryz.prog os yG7) #[.slice none 0 0,.int .i64 0,.int .u64 0,.int .u64 0,.int .u64 0,.slice none 0 0,.agg #[.int .i64 0,.int .u64 0,.int .u64 0,.int .i64 0,.int .u64 0,.int .u64 0],.int .u64 0,.int .i64 0] 8 (World.laidAll_os _ _ _) (World.shaped_of_ZipB (by kernel_rfl) (by kernel_rfl)) (by kernel_rfl) (by kernel_rfl) (by kernel_rfl) (yB6 os _)) ?_
 intro W base args ds gs before hval0 hW hL hsh
 obtain⟨t0,t2,t5,L,hs⟩:=yG8 hL
 have hG:GoodW W:=⟨⟨t0,t2,t5,L⟩,hs,Len.of_shape hsh hs⟩
 have hval:∀ (j:Nat) t v,Tryz.f7.params[j]?=some t→args[j]?=some v→Value.okWide Tryz.prog W .any base t v:=hval0
 have hW':=hW
 obtain⟨p,q,hA0,hV,rfl,hfz,hnd⟩:=hW
 have hA:DataW.TrodAll enc Tryz.prog W 0 (fun _=>true) true Tryz.f7.params.toList args.toList ds p:=hA0
 rw[Tryz.params7] at hA hval
 obtain⟨v0,vs0,d0,ds0,p0,q0,hargs,rfl,rfl,h0,r0⟩:=trodAll_cons hA
 obtain⟨v1,vs1,d1,ds1,p1,q1,rfl,rfl,rfl,h1,r1⟩:=trodAll_cons r0
 obtain⟨v2,vs2,d2,ds2,p2,q2,rfl,rfl,rfl,h2,r2⟩:=trodAll_cons r1
 obtain⟨v3,vs3,d3,ds3,p3,q3,rfl,rfl,rfl,h3,r3⟩:=trodAll_cons r2
 obtain⟨v4,vs4,d4,ds4,p4,q4,rfl,rfl,rfl,h4,r4⟩:=trodAll_cons r3
 obtain⟨v5,vs5,d5,ds5,p5,q5,rfl,rfl,rfl,h5,r5⟩:=trodAll_cons r4
 obtain⟨v6,vs6,d6,ds6,p6,q6,rfl,rfl,rfl,h6,r6⟩:=trodAll_cons r5
 obtain⟨v7,vs7,d7,ds7,p7,q7,rfl,rfl,rfl,h7,r7⟩:=trodAll_cons r6
 obtain⟨v8,vs8,d8,ds8,p8,q8,rfl,rfl,rfl,h8,r8⟩:=trodAll_cons r7
 obtain⟨rfl,rfl,rfl⟩:=trodAll_nil r8
 obtain rfl:args=#[v0,v1,v2,v3,v4,v5,v6,v7,v8]:=by cases args;simp_all
 obtain⟨rfl,rfl⟩:=trodVars_none hV
 obtain⟨a0,len0,cap0,rfl⟩:=okWide_slice Tryz.underlying22 (hval 0 22 v0 rfl rfl)
 obtain⟨n1,rfl,rfl,rfl,w1⟩:=open_int Tryz.underlying3 (hval 1 3 v1 rfl rfl) h1
 obtain⟨n2,rfl,rfl,rfl,w2⟩:=open_int Tryz.underlying23 (hval 2 23 v2 rfl rfl) h2
 obtain⟨n3,rfl,rfl,rfl,w3⟩:=open_int Tryz.underlying23 (hval 3 23 v3 rfl rfl) h3
 obtain⟨n4,rfl,rfl,rfl,w4⟩:=open_int Tryz.underlying23 (hval 4 23 v4 rfl rfl) h4
 obtain⟨a5,len5,cap5,rfl⟩:=okWide_slice Tryz.underlying24 (hval 5 24 v5 rfl rfl)
 obtain⟨e0,e1,e2,e3,e4,e5,rfl,we1,we2,we4,we5⟩:=yFw (hval 6 52 v6 rfl rfl) h6
 obtain⟨n7,rfl,rfl,rfl,w7⟩:=open_int Tryz.underlying23 (hval 7 23 v7 rfl rfl) h7
 obtain⟨n8,rfl,rfl,rfl,w8⟩:=open_int Tryz.underlying3 (hval 8 3 v8 rfl rfl) h8
 have lt:∀ (t:TypeId) (v:Value) (d:DataW H) (pp:List MemPlace),DataW.Trod enc Tryz.prog W 0 (fun _=>true) true t v d pp→∀ x∈pp,x.block < W.heap.size:=by
  intro t v d pp h
  obtain⟨m,hm⟩:=h
  exact DataW.trod_lt m _ _ _ hm
 obtain⟨z0,y0⟩:=zX3 Tryz.underlying22 Tryz.underlying5 (by kernel_rfl) h0
 obtain⟨z5,y5⟩:=zX3 Tryz.underlying24 Tryz.underlying3 (by kernel_rfl) h5
 refine(zN8 hG y0 y5 (zP1 Tryz.underlying22 (hval 0 22 _ rfl rfl)) (zP1 Tryz.underlying24 (hval 5 24 _ rfl rfl)) (zV7 w2) (zV7 w3) (zV7 w4) (zV7 we1) (zV7 we2) (zV7 we4) (zV7 we5)).mono fun e W' ⟨he,bel⟩=>?_
 subst he
 exact⟨_,rfl,_,_,_,[],_,[],hW',trodAll_mk1 (shut_bool Tryz.underlying4 _),(trodAll_cons_mk (Below.trod zRt (by kernel_rfl) (xGt (by kernel_rfl)) h0 bel (lt _ _ _ _ h0)) (trodAll_cons_mk (shut_int Tryz.underlying3 w1) (trodAll_cons_mk (shut_int Tryz.underlying23 w2) (trodAll_cons_mk (shut_int Tryz.underlying23 w3) (trodAll_cons_mk (shut_int Tryz.underlying23 w4)
  (trodAll_cons_mk (Below.trod zRt (by kernel_rfl) (xGt (by kernel_rfl)) h5 bel (lt _ _ _ _ h5)) (trodAll_cons_mk (Below.trod zRt (by kernel_rfl) (xGt (by kernel_rfl)) h6 bel (lt _ _ _ _ h6)) (trodAll_cons_mk (shut_int Tryz.underlying23 w7) (trodAll_cons_mk (shut_int Tryz.underlying3 w8) trodAll_mk0))))))))),rfl,bel.frame _,fun h=>by cases h⟩
theorem rangTells_holds:Rows.RangTellsSaid:=
 OpenClaim.holds_of_wide 7 Tryz.f7 rfl rfl rfl rfl rfl rfl rfl ⟨rfl,rfl,rfl,rfl,rfl⟩ rfl rfl rfl rfl rfl (by kernel_rfl) Tryz.func7 (by kernel_rfl)
  (xGt (by kernel_rfl)) (by unfold Func.isWrapper;first|(rw[xGq (by decide +kernel)];kernel_rfl)|(rw[xGr (by decide +kernel)];exact⟨rfl,rfl⟩))
  (fun os started H enc _=>zK5 os started H enc)
theorem rangTells_card_holds:Rows.RangTellsCardSaid:=
 Claim7.holds_tied_plain_at .later [] [.data,.data,.data,.data,.pinned] true (true,"1c36de9660843907b8c3e0895a467f8eef6e8407a06d415001d0f361211703f3") false
  rangTells_holds (fun _ h=>by cases h) (by kernel_rfl) (fun _ h=>by cases h) rangTells_row_tie rfl ⟨rfl,rfl⟩ (by kernel_rfl) rfl
  (fun f fn hf hfn=>by
   obtain rfl:f=7:=xHc ((show Tryz.prog.funcNamed "glebe/glebelaw4.RangTells"=some 7 by kernel_rfl).symm.trans hf) |>.symm
   obtain rfl:fn=Tryz.f7:=(xHc (Tryz.func7.symm.trans hfn)).symm
   exact⟨by kernel_rfl,fun j t ht=>by
    rw[Tryz.params7] at ht
    have h3:t=3∨t=22∨t=23∨t=24∨t=52:=by
     match j,ht with
     |0,ht=>simp at ht;subst ht;exact .inr (.inl rfl)
     |1,ht=>simp at ht;subst ht;exact .inl rfl
     |2,ht=>simp at ht;subst ht;exact .inr (.inr (.inl rfl))
     |3,ht=>simp at ht;subst ht;exact .inr (.inr (.inl rfl))
     |4,ht=>simp at ht;subst ht;exact .inr (.inr (.inl rfl))
     |5,ht=>simp at ht;subst ht;exact .inr (.inr (.inr (.inl rfl)))
     |6,ht=>simp at ht;subst ht;exact .inr (.inr (.inr (.inr rfl)))
     |7,ht=>simp at ht;subst ht;exact .inr (.inr (.inl rfl))
     |8,ht=>simp at ht;subst ht;exact .inl rfl
     |j+9,ht=>simp at ht
    rcases h3 with rfl|rfl|rfl|rfl|rfl
    ·exact(show Tryz.prog.wantsStandIn 3=false by kernel_rfl)
    ·exact(show Tryz.prog.wantsStandIn 22=false by kernel_rfl)
    ·exact(show Tryz.prog.wantsStandIn 23=false by kernel_rfl)
    ·exact(show Tryz.prog.wantsStandIn 24=false by kernel_rfl)
    ·exact(show Tryz.prog.wantsStandIn 52=false by kernel_rfl)⟩)
  (by kernel_rfl)
#print axioms rangTells_card_holds
end Go.Proofs.YtfnacgojmdbjmaaGreatDoor
end
end

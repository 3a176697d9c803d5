/- Texts of a proof, joined: words of the print (those that are named here) and printed functions. -/
import Derived.Test.YtfnacgojmdbjmaaGreatDoorPkm7
import Derived.Test.YtfnacgojmdbjmaaGreatDoorPkm3
import Derived.Lib.TrailingZeros
import Derived.Test.YtfnacgojmdbjmaaGreatDoorPkm9
set_option linter.unusedSimpArgs false
set_option linter.unusedVariables false
set_option maxRecDepth 100000
noncomputable section
namespace Go.Proofs.YtfnacgojmdbjmaaGreatDoor.PRD
open Go.RowKit YtfnacgojmdbjmaaGreatDoorW.PrintWords YtfnacgojmdbjmaaGreatDoorW.PrintLast YtfnacgojmdbjmaaGreatDoorW.PrintMore
attribute [local go_sem] zEz zE0 zG2 zG3 zDy zDz zE1 zE2
open Go.Det (inQ M64 zCh qn zXk zJo zFk)
end Go.Proofs.YtfnacgojmdbjmaaGreatDoor.PRD
namespace Go.Proofs.YtfnacgojmdbjmaaGreatDoor
open Go.Det Go.RowKit PRD YtfnacgojmdbjmaaGreatDoorW.PrintWords
def yS1:List Value:=[.int .i64 0,.int .u64 0,.int .u64 0,.int .i64 0]
def oxN (_:Nat):Option OpX:=none
theorem zOh {cw:Cw}:zXo Tryz.prog cw oxN:=fun _ _ h=>by cases h
def lxM (_:Nat):Option LpX:=none
theorem zOi {cw:Cw}(l:List Code):yGm Tryz.prog cw lxM l:=fun _ _ _ h=>by cases h
end Go.Proofs.YtfnacgojmdbjmaaGreatDoor
namespace Go.Proofs.YtfnacgojmdbjmaaGreatDoor
open Go.Det Go.RowKit PRD YtfnacgojmdbjmaaGreatDoorW.PrintWords
theorem wdT {p:Prop}{A B:Prop}(h:p)(k:A):zAm (zAl p) A B:=bifW_c (fun _=>k) (fun q=>absurd h q)
theorem wdF {p:Prop}{A B:Prop}(h:¬ p)(k:B):zAm (zAl p) A B:=bifW_c (fun q=>absurd q h) (fun _=>k)
end Go.Proofs.YtfnacgojmdbjmaaGreatDoor
namespace Go.Proofs.YtfnacgojmdbjmaaGreatDoor.PRD
open Go.Det Go.RowKit Go.Proofs.YtfnacgojmdbjmaaGreatDoor YtfnacgojmdbjmaaGreatDoorW.PrintWords
end Go.Proofs.YtfnacgojmdbjmaaGreatDoor.PRD
section
end
namespace Go.Proofs.YtfnacgojmdbjmaaGreatDoor.PRD
open Go.RowKit YtfnacgojmdbjmaaGreatDoorW.PrintWords YtfnacgojmdbjmaaGreatDoorW.PrintLast YtfnacgojmdbjmaaGreatDoorW.PrintMore
attribute [local go_sem] zEz zE0 zG2 zG3 zDy zDz zE1 zE2
open Go.Det (inQ M64 zCh qn zXk zJo zFk)
end Go.Proofs.YtfnacgojmdbjmaaGreatDoor.PRD
namespace Go.Proofs.YtfnacgojmdbjmaaGreatDoor.PRD
open Go Go.RowKit YtfnacgojmdbjmaaGreatDoorW.PrintWords YtfnacgojmdbjmaaGreatDoorW.PrintLast YtfnacgojmdbjmaaGreatDoorW.PrintMore
open Go.Det (inQ inU M64 zCh qn zXk zJo zFk zB9 yEa yHy)
def H (q : Nat) : Int := ((q / M64 : Nat) : Int)
def L (q:Nat):Int:=((q % M64:Nat):Int)
theorem m64:M64=2 ^ 64:=rfl
theorem yOk:zCh=2 ^ 128:=rfl
theorem yGw {a b:Nat}(h1:H a=H b)(h2:L a=L b):a=b:=by
 unfold H at h1;unfold L at h2
 have e1:a / M64=b / M64:=by exact_mod_cast h1
 have e2:a % M64=b % M64:=by exact_mod_cast h2
 rw[← Nat.div_add_mod a M64,← Nat.div_add_mod b M64,e1,e2]
theorem yKm (r:Nat):(H r==0&&L r==0)=decide (r=0):=by
 rw[Bool.eq_iff_iff,Bool.and_eq_true,beq_iff_eq,beq_iff_eq,decide_eq_true_eq]
 constructor
 ·rintro⟨a,b⟩;exact yGw (b:=0) a b
 ·rintro rfl;exact⟨rfl,rfl⟩
theorem yKn {q:Nat}(h:q < zCh):q / M64 < 18446744073709551616:=by
 have:zCh=M64 * M64:=by decide
 rw[this] at h
 exact Nat.div_lt_of_lt_mul h
theorem yKo (q:Nat):q % M64 < 18446744073709551616:=Nat.mod_lt _ (by decide)
theorem zVl {a b:Nat}(ha:a < zCh)(hb:b < zCh):Go.bits .and .u64 (H a) (H b)=H (a &&& b)∧Go.bits .and .u64 (L a) (L b)=L (a &&& b):=by
 unfold H L
 rw[Go.bits_and_u64_nat _ _ (yKn ha) (yKn hb),Go.bits_and_u64_nat _ _ (yKo a) (yKo b),m64,← Nat.and_div_two_pow,← Nat.and_mod_two_pow]
 exact⟨rfl,rfl⟩
theorem yKp {a b:Nat}(ha:a < zCh)(hb:b < zCh):Go.bits .or .u64 (H a) (H b)=H (a ||| b)∧Go.bits .or .u64 (L a) (L b)=L (a ||| b):=by
 unfold H L
 rw[Go.bits_or_u64_nat _ _ (yKn ha) (yKn hb),Go.bits_or_u64_nat _ _ (yKo a) (yKo b),m64,← Nat.or_div_two_pow,← Nat.or_mod_two_pow]
 exact⟨rfl,rfl⟩
theorem yPs {a b:Nat}(ha:a < zCh)(hb:b < zCh):quad_And.f (H a) (L a) (H b) (L b)=some (H (a &&& b),L (a &&& b)):=by
 unfold quad_And.f;rw[(zVl ha hb).1,(zVl ha hb).2]
theorem yEz {a b:Nat}(ha:a < zCh)(hb:b < zCh):gleberef1_And.f (H a) (L a) (H b) (L b)=some (H (a &&& b),L (a &&& b)):=by
 unfold gleberef1_And.f;rw[(zVl ha hb).1,(zVl ha hb).2]
theorem qOr {a b:Nat}(ha:a < zCh)(hb:b < zCh):quad_Or.f (H a) (L a) (H b) (L b)=some (H (a ||| b),L (a ||| b)):=by
 unfold quad_Or.f;rw[(yKp ha hb).1,(yKp ha hb).2]
theorem toI {x:Nat}(h:x < 18446744073709551616):((x:Nat):Int) < 18446744073709551616:=by omega
theorem zVm {a:Nat}(ha:a < zCh):Go.bits .xor .u64 18446744073709551615 (H a)=H (zCh - 1 - a)∧Go.bits .xor .u64 18446744073709551615 (L a)=L (zCh - 1 - a):=by
 have hM:M64=18446744073709551616:=rfl
 have hM2:zCh=340282366920938463463374607431768211456:=by decide
 have x1:=yKn ha
 have l1:=yKo a
 have i1:Go.Det.inU (H a)=true:=Go.Det.inU_iff.2 ⟨Int.natCast_nonneg _,toI x1⟩
 have i2:Go.Det.inU (L a)=true:=Go.Det.inU_iff.2 ⟨Int.natCast_nonneg _,toI l1⟩
 have n1:Go.bits .xor .u64 18446744073709551615 (H a)=18446744073709551615 - H a:=Go.Det.notI_u64 i1
 have n2:Go.bits .xor .u64 18446744073709551615 (L a)=18446744073709551615 - L a:=Go.Det.notI_u64 i2
 rw[n1,n2]
 unfold H L
 have h1:=Nat.div_add_mod a M64
 generalize hx:a / M64=x at *
 generalize hz:a % M64=z at *
 rw[hM] at h1 ⊢
 rw[hM2] at ha ⊢
 constructor<;>omega
theorem yRa {a:Nat}(ha:a < zCh):quad_Not.f (H a) (L a)=some (H (zCh - 1 - a),L (zCh - 1 - a)):=by
 unfold quad_Not.f;rw[(zVm ha).1,(zVm ha).2]
theorem yPt {a:Nat}(ha:a < zCh):gleberef1_Not.f (H a) (L a)=some (H (zCh - 1 - a),L (zCh - 1 - a)):=by
 unfold gleberef1_Not.f;rw[(zVm ha).1,(zVm ha).2]
theorem yA9 {p:Nat→Bool}{n:Nat}(h:(List.range n).all p=true)(k:Nat)(hk:k < n):p k=true:=List.all_eq_true.1 h k (List.mem_range.2 hk)
theorem yE0:(List.range 129).all (fun n=>decide (quad_Mask.f (n:Nat)=some (H (zB9 n),L (zB9 n))∧gleberef1_Mask.f 300 (n:Nat)=some (H (zB9 n),L (zB9 n))∧zB9 n < zCh∧zCh - 1 - zB9 n=2 ^ (128 - n) - 1))=true:=by decide +kernel
theorem zJr {n:Nat}(h:n≤128):quad_Mask.f (n:Nat)=some (H (zB9 n),L (zB9 n))∧gleberef1_Mask.f 300 (n:Nat)=some (H (zB9 n),L (zB9 n))∧zB9 n < zCh∧zCh - 1 - zB9 n=2 ^ (128 - n) - 1:=
 of_decide_eq_true (yA9 yE0 n (by omega))
def Kd' (V:Int)(B:Nat):Prop:=(V=4∧B=32)∨(V=6∧B=128)
theorem Kd'.le {V:Int}{B:Nat}(h:Kd' V B):B≤128:=by rcases h with⟨_,rfl⟩|⟨_,rfl⟩<;>decide
theorem Kd'.bits {V:Int}{B:Nat}(h:Kd' V B):addr_Bits.f V=some (B:Int):=by rcases h with⟨rfl,rfl⟩|⟨rfl,rfl⟩<;>rfl
theorem Kd'.rbits {V:Int}{B:Nat}(h:Kd' V B):gleberef1_Bits.f V=some (B:Int):=by rcases h with⟨rfl,rfl⟩|⟨rfl,rfl⟩<;>rfl
theorem Kd'.pow {V:Int}{B:Nat}(h:Kd' V B){q:Nat}(hq:q < 2 ^ B):q < zCh:=by rcases h with⟨rfl,rfl⟩|⟨rfl,rfl⟩<;>(rw[yOk];omega)
theorem w64 {n:Int}(h0:-1000≤n)(h1:n≤1000):wrap64 n=n:=by unfold wrap64;omega
theorem yE1 {V:Int}{B n:Nat}(h:Kd' V B)(hn:n≤B):pref_mask.f V (n:Int)=some (H (zB9 (128 - B+n)),L (zB9 (128 - B+n))):=by
 have hB:=h.le
 unfold pref_mask.f
 rw[h.bits,Option.bind_some,w64 (n:=128 - (B:Int)) (by omega) (by omega),w64 (by omega) (by omega),show(128 - (B:Int)+(n:Int))=((128 - B+n:Nat):Int) by omega,(zJr (n:=128 - B+n) (by omega)).1,Option.bind_some]
theorem okA {V:Int}{B q:Nat}(h:Kd' V B)(hq:q < 2 ^ B):addr_Ok.f V (H q) (L q)=some true:=by
 rcases h with⟨rfl,rfl⟩|⟨rfl,rfl⟩
 ·unfold addr_Ok.f
  have h1:q / M64=0:=Nat.div_eq_of_lt (by rw[m64];omega)
  have h2:q % M64=q:=Nat.mod_eq_of_lt (by rw[m64];omega)
  have e1:H q=0:=by unfold H;rw[h1];rfl
  have e2:L q=(q:Int):=by unfold L;rw[h2]
  rw[if_neg (by decide),if_pos rfl,e1,if_pos rfl,e2]
  rw[decide_eq_true (show(q:Int) < 4294967296 by omega)]
 ·rfl
theorem yKq (q j:Nat):q &&& (2 ^ j - 1)=q % 2 ^ j:=Nat.and_two_pow_sub_one_eq_mod q j
theorem pOk {V:Int}{B q n:Nat}(h:Kd' V B)(hq:q < 2 ^ B)(hn:n≤B):pref_Ok.f V (H q) (L q) (n:Int)=some (decide (q % 2 ^ (B - n)=0)):=by
 have hB:=h.le
 have hq':=h.pow hq
 obtain⟨_,_,hm,hm2⟩:=zJr (n:=128 - B+n) (by omega)
 have hlt:zCh - 1 - zB9 (128 - B+n) < zCh:=by have:0 < zCh:=(by decide);omega
 have e1:=yRa hm
 have e2:=yPs hq' hlt
 rw[hm2,show 128 - (128 - B+n)=B - n by omega] at e1 e2
 rw[yKq] at e2
 generalize q % 2 ^ (B - n)=r at e2 ⊢
 generalize 2 ^ (B - n) - 1=z at e1 e2
 unfold pref_Ok.f
 rw[okA h hq,Option.bind_some,if_pos rfl,if_neg (by omega),h.bits,Option.bind_some,if_neg (by omega),yE1 h hn,Option.bind_some,e1,Option.bind_some,e2,Option.bind_some,yKm]
theorem yGx (q j:Nat)(h:q % 2 ^ j=0):q ||| (2 ^ j - 1)=q+(2 ^ j - 1):=by
 obtain⟨m,rfl⟩:=Nat.dvd_of_mod_eq_zero h
 have:2 ^ j - 1 < 2 ^ j:=by have:=Nat.pow_pos (n:=j) (show 0 < 2 by decide);omega
 rw[← Nat.two_pow_add_eq_or_of_lt this]
theorem yE2 (i j:Nat)(h:i≤j):(2 ^ i - 1) &&& (2 ^ j - 1)=2 ^ i - 1:=by
 rw[Nat.and_two_pow_sub_one_eq_mod]
 have h1:=Nat.pow_pos (n:=i) (show 0 < 2 by decide)
 have h2:2 ^ i≤2 ^ j:=Nat.pow_le_pow_right (by decide) h
 exact Nat.mod_eq_of_lt (by omega)
theorem yRb {V:Int}{B q n:Nat}(h:Kd' V B)(hq:q < 2 ^ B)(hn:n≤B)(ha:q % 2 ^ (B - n)=0):
  pref_Last.f V (H q) (L q) (n:Int)=some (V,H (q+(2 ^ (B - n) - 1)),L (q+(2 ^ (B - n) - 1))):=by
 have hB:=h.le
 have hq':=h.pow hq
 obtain⟨_,_,hm,hm2⟩:=zJr (n:=128 - B+n) (by omega)
 obtain⟨hm3,_,hm4,hm5⟩:=zJr (n:=128 - B) (by omega)
 have hlt:zCh - 1 - zB9 (128 - B+n) < zCh:=by have:0 < zCh:=(by decide);omega
 have hlt2:zCh - 1 - zB9 (128 - B) < zCh:=by have:0 < zCh:=(by decide);omega
 have e1:=yRa hm
 have e2:=yRa hm4
 have e3:=yPs hlt hlt2
 rw[hm2,show 128 - (128 - B+n)=B - n by omega] at e1 e3
 rw[hm5,show 128 - (128 - B)=B by omega] at e2 e3
 rw[yE2 _ _ (by omega)] at e3
 have hlt3:2 ^ (B - n) - 1 < zCh:=by rw[hm2,show 128 - (128 - B+n)=B - n by omega] at hlt;exact hlt
 have e4:=qOr hq' hlt3
 rw[yGx _ _ ha] at e4
 have e0:=pOk h hq hn
 rw[decide_eq_true ha] at e0
 have w:=w64 (n:=128 - (B:Int)) (by omega) (by omega)
 have hM:quad_Mask.f (128 - (B:Int))=some (H (zB9 (128 - B)),L (zB9 (128 - B))):=by
  rw[show(128 - (B:Int))=((128 - B:Nat):Int) by omega];exact hm3
 generalize 2 ^ (B - n) - 1=z at *
 generalize 2 ^ B - 1=y at *
 unfold pref_Last.f
 rw[e0,Option.bind_some,if_pos rfl,h.bits,Option.bind_some,w,hM,Option.bind_some,yE1 h hn,Option.bind_some,e1,Option.bind_some,e2,Option.bind_some,e3,Option.bind_some,e4,Option.bind_some]
theorem zOj {α:Type}{f:Nat→Option α}(h:∀ k,LeO (f k) (f (k+1))){k0:Nat}{r:α}(h0:f k0=some r):∀ k,k0≤k→f k=some r:=by
 intro k hk
 induction hk with
 |refl=>exact h0
 |step _ ih=>exact h _ _ ih
theorem yOl {k n:Nat}(hk:300≤k)(h:n≤128):gleberef1_Mask.f k (n:Nat)=some (H (zB9 n),L (zB9 n)):=
 zOj (f:=fun k=>gleberef1_Mask.f k (n:Nat)) (fun k=>gleberef1_Mask.mono _ k) (zJr h).2.1 k hk
theorem yKr:[32,128].all (fun B=>(List.range (B+1)).all (fun j=>decide (zB9 (128 - j) &&& (zCh - 1 - zB9 (128 - B))=2 ^ B - 2 ^ j∧(zCh - 1 - (2 ^ B - 2 ^ j)) &&& (zCh - 1 - zB9 (128 - B))=2 ^ j - 1∧2 ^ B - 2 ^ j < zCh∧zCh - 1 - (2 ^ B - 2 ^ j) < zCh∧zCh - 1 - zB9 (128 - B) < zCh∧2 ^ j - 1 < zCh)))=true:=by decide +kernel
theorem zGa {V:Int}{B j:Nat}(h:Kd' V B)(hj:j≤B):zB9 (128 - j) &&& (zCh - 1 - zB9 (128 - B))=2 ^ B - 2 ^ j∧(zCh - 1 - (2 ^ B - 2 ^ j)) &&& (zCh - 1 - zB9 (128 - B))=2 ^ j - 1∧2 ^ B - 2 ^ j < zCh∧zCh - 1 - (2 ^ B - 2 ^ j) < zCh∧zCh - 1 - zB9 (128 - B) < zCh∧2 ^ j - 1 < zCh:=by
 have hB:B∈[32,128]:=by rcases h with⟨_,rfl⟩|⟨_,rfl⟩<;>simp
 exact of_decide_eq_true (yA9 (List.all_eq_true.1 yKr B hB) j (by omega))
theorem yE3 (a j m:Nat):a &&& (2 ^ j * m)=2 ^ j * ((a / 2 ^ j) &&& m):=by
 apply Nat.eq_of_testBit_eq
 intro i
 rw[Nat.testBit_and,Nat.testBit_two_pow_mul,Nat.testBit_two_pow_mul,Nat.testBit_and]
 by_cases h:i ≥ j
 ·have:(a / 2 ^ j).testBit (i - j)=a.testBit i:=by rw[Nat.testBit_div_two_pow];congr 1;omega
  rw[this]
  simp[h]
 ·simp[h]
theorem zGb (a N j:Nat)(hj:j≤N)(ha:a < 2 ^ N):a &&& (2 ^ N - 2 ^ j)=2 ^ j * (a / 2 ^ j):=by
 have e:2 ^ N - 2 ^ j=2 ^ j * (2 ^ (N - j) - 1):=by
  rw[Nat.mul_sub,← Nat.pow_add,Nat.mul_one];congr 2;omega
 rw[e,yE3,Nat.and_two_pow_sub_one_eq_mod]
 congr 1
 refine Nat.mod_eq_of_lt (Nat.div_lt_of_lt_mul ?_)
 rw[← Nat.pow_add]
 rwa [show j+(N - j)=N by omega]
theorem yGy {V:Int}{B n k:Nat}(h:Kd' V B)(hn:n≤B)(hk:300≤k):gleberef1_Mask.f k (wrap64 (wrap64 (128 - (B:Int))+(n:Int)))=some (H (zB9 (128 - (B - n))),L (zB9 (128 - (B - n)))):=by
 have hB:=h.le
 rw[w64 (n:=128 - (B:Int)) (by omega) (by omega),w64 (by omega) (by omega),show(128 - (B:Int)+(n:Int))=((128 - (B - n):Nat):Int) by omega]
 exact yOl hk (by omega)
theorem yBa {V:Int}{B k:Nat}(h:Kd' V B)(hk:300≤k):gleberef1_Mask.f k (wrap64 (128 - (B:Int)))=some (H (zB9 (128 - B)),L (zB9 (128 - B))):=by
 have hB:=h.le
 rw[w64 (n:=128 - (B:Int)) (by omega) (by omega),show(128 - (B:Int))=((128 - B:Nat):Int) by omega]
 exact yOl hk (by omega)
theorem mask_lt {n:Nat} (h:n≤128):zB9 n < zCh:=(zJr h).2.2.1
theorem yKs {V:Int}{B n:Nat}(h:Kd' V B)(hn:n≤B):gleberef1_all.f V (n:Int)=some (H (2 ^ B - 2 ^ (B - n)),L (2 ^ B - 2 ^ (B - n))):=by
 have hB:=h.le
 obtain⟨f1,_,_,_,f5,_⟩:=zGa h (j:=B - n) (by omega)
 have e2:=yEz (mask_lt (n:=128 - (B - n)) (by omega)) f5
 rw[f1] at e2
 unfold gleberef1_all.f
 rw[h.rbits,Option.bind_some,yGy h hn (Nat.le_refl 300),Option.bind_some,Option.bind_some,yBa h (Nat.le_refl 300),Option.bind_some,yPt (mask_lt (by omega)),Option.bind_some,e2,Option.bind_some]
theorem zI1 (V a b:Int):gleberef1_Ok.f V a b=addr_Ok.f V a b:=rfl
theorem yGz (a b:Nat):(H a==H b&&L a==L b)=decide (a=b):=by
 rw[Bool.eq_iff_iff,Bool.and_eq_true,beq_iff_eq,beq_iff_eq,decide_eq_true_eq]
 constructor
 ·rintro⟨x,y⟩;exact yGw x y
 ·rintro rfl;exact⟨rfl,rfl⟩
theorem yS2 {V:Int}{B q n:Nat}(h:Kd' V B)(hq:q < 2 ^ B)(hn:n≤B)(ha:q % 2 ^ (B - n)=0):gleberef1_OkPrefix.f V (H q) (L q) (n:Int)=some true:=by
 obtain⟨_,_,f3,_,_,_⟩:=zGa h (j:=B - n) (by omega)
 have e2:=yEz (h.pow hq) f3
 rw[zGb q B (B - n) (by omega) hq,Nat.mul_div_cancel' (Nat.dvd_of_mod_eq_zero ha)] at e2
 have e1:=yKs h hn
 generalize 2 ^ B - 2 ^ (B - n)=c at *
 unfold gleberef1_OkPrefix.f
 rw[zI1,okA h hq,Option.bind_some,if_pos rfl,if_pos (by omega),h.rbits,Option.bind_some,if_pos (by omega),e1,Option.bind_some,e2,Option.bind_some,yGz,decide_eq_true rfl]
theorem yRc {V:Int}{B q n:Nat}(h:Kd' V B)(hq:q < 2 ^ B)(hn:n≤B)(ha:q % 2 ^ (B - n)=0):
  gleberef1_Last.f V (H q) (L q) (n:Int)=some (V,H (q+(2 ^ (B - n) - 1)),L (q+(2 ^ (B - n) - 1))):=by
 have hB:=h.le
 obtain⟨_,f2,f3,f4,f5,f6⟩:=zGa h (j:=B - n) (by omega)
 have e1:=yKs h hn
 have e2:=yPt f3
 have e3:=yEz f4 f5
 rw[f2] at e3
 have e4:=yKp (h.pow hq) f6
 rw[yGx _ _ ha] at e4
 have e5:=yPt (mask_lt (n:=128 - B) (by omega))
 have e0:=yS2 h hq hn ha
 generalize 2 ^ (B - n) - 1=z at *
 generalize 2 ^ B - 2 ^ (B - n)=c at *
 unfold gleberef1_Last.f
 rw[e0,Option.bind_some,if_pos rfl,e1,Option.bind_some,e2,Option.bind_some,h.rbits,Option.bind_some,yBa h (Nat.le_refl 300),Option.bind_some,e5,Option.bind_some,e3,Option.bind_some]
 simp only
 rw[e4.1,e4.2]
theorem zFm (x:Int):0≤IntKind.u64.wrap x:=(wrap_within .u64 x).1
theorem yKt (v:Int):∀ (d k:Nat) (h l:Int),d≤8→d < k→0≤h→h < 18446744073709551616→0≤l→l < 18446744073709551616→
  ∃ h' l',glebelaw2_Addr.l0 k v (8 - (d:Int)) h l=some (6,h',l')∧0≤h'∧h' < 18446744073709551616∧0≤l'∧l' < 18446744073709551616:=by
 intro d
 induction d with
 |zero=>
  intro k h l _ hk h1 h2 h3 h4
  obtain⟨k,rfl⟩:∃ m,k=m+1:=⟨k - 1,by omega⟩
  refine⟨h,l,?_,h1,h2,h3,h4⟩
  rw[glebelaw2_Addr.l0,if_neg (by omega)]
 |succ d ih=>
  intro k h l hd hk h1 h2 h3 h4
  obtain⟨k,rfl⟩:∃ m,k=m+1:=⟨k - 1,by omega⟩
  have hx:((8:Int) - ((d+1:Nat):Int)) < 8:=by omega
  have hw:wrap64 ((8:Int) - ((d+1:Nat):Int)+1)=8 - (d:Int):=by unfold wrap64;omega
  have b0:∀ op (x y:Int),0≤Go.bits op .u64 x y:=fun op x y=>bits_lo_u64 op x y
  have b1:∀ op (x y:Int),Go.bits op .u64 x y < 18446744073709551616:=fun op x y=>by have:=bits_hi_u64 op x y;omega
  rw[glebelaw2_Addr.l0,if_pos hx,if_pos (zFm _)]
  split
  ·split
   ·rw[if_pos (zFm _),hw]
    exact ih k _ l (by omega) (by omega) (b0 _ _ _) (b1 _ _ _) h3 h4
   ·rw[if_pos (zFm _),hw]
    exact ih k h _ (by omega) (by omega) h1 h2 (b0 _ _ _) (b1 _ _ _)
  ·rw[hw]
   exact ih k h l (by omega) (by omega) h1 h2 h3 h4
theorem yE4 (a:Int)(h0:0≤a)(h1:a < 18446744073709551616):0≤Go.bits .and .u64 a 4294967295∧Go.bits .and .u64 a 4294967295≤4294967295:=by
 obtain⟨A,rfl⟩:=Int.eq_ofNat_of_zero_le h0
 rw[show(4294967295:Int)=((4294967295:Nat):Int) from rfl,Go.bits_and_u64_nat A 4294967295 (by omega) (by decide)]
 have:A &&& 4294967295≤4294967295:=Nat.and_le_right
 omega
theorem yKu {h l:Int}(h0:0≤h)(h1:h < 18446744073709551616)(l0:0≤l)(l1:l < 18446744073709551616):∃ q,q < 2 ^ 128∧H q=h∧L q=l:=by
 obtain⟨x,rfl⟩:=Int.eq_ofNat_of_zero_le h0
 obtain⟨z,rfl⟩:=Int.eq_ofNat_of_zero_le l0
 have hM:M64=18446744073709551616:=rfl
 have d1:(x * 18446744073709551616+z) / 18446744073709551616=x:=by omega
 have d2:(x * 18446744073709551616+z) % 18446744073709551616=z:=by omega
 refine⟨x * 18446744073709551616+z,by omega,?_,?_⟩
 ·unfold H;rw[hM,d1]
 ·unfold L;rw[hM,d2]
theorem addr_at {k:Nat}(hk:9≤k)(v a b:Int)(ha:0≤a)(ha2:a < 18446744073709551616)(hb:0≤b)(hb2:b < 18446744073709551616):∃ V B q,Kd' V B∧q < 2 ^ B∧glebelaw2_Addr.f k v a b=some (V,H q,L q):=by
 unfold glebelaw2_Addr.f
 split
 ·rw[if_pos (zFm _)]
  obtain⟨h0,h1⟩:=yE4 a ha ha2
  have hr:0≤shr .u64 (Go.bits .and .u64 a 4294967295) (IntKind.u64.wrap (wrap64 (Go.bits .and .i64 (v / 2) 3 * 8)))∧shr .u64 (Go.bits .and .u64 a 4294967295) (IntKind.u64.wrap (wrap64 (Go.bits .and .i64 (v / 2) 3 * 8)))≤4294967295:=by
   unfold shr
   have hp:(0:Int) < 2 ^ min (IntKind.u64.wrap (wrap64 (Go.bits .and .i64 (v / 2) 3 * 8))).toNat IntKind.u64.bits:=Int.pow_pos (by decide)
   refine⟨Int.ediv_nonneg h0 (by omega),?_⟩
   have:=Int.ediv_le_self (2 ^ min (IntKind.u64.wrap (wrap64 (Go.bits .and .i64 (v / 2) 3 * 8))).toNat IntKind.u64.bits) h0
   omega
  obtain⟨Q,hQ⟩:=Int.eq_ofNat_of_zero_le hr.1
  rw[hQ] at hr ⊢
  have d1:Q / M64=0:=Nat.div_eq_of_lt (by rw[m64];omega)
  have d2:Q % M64=Q:=Nat.mod_eq_of_lt (by rw[m64];omega)
  refine⟨4,32,Q,.inl ⟨rfl,rfl⟩,by omega,?_⟩
  unfold H L
  rw[d1,d2]
  rfl
 ·obtain⟨h',l',e,q0,q1,q2,q3⟩:=yKt v 8 k a b (by omega) (by omega) ha ha2 hb hb2
  obtain⟨Q,hQ,e1,e2⟩:=yKu q0 q1 q2 q3
  refine⟨6,128,Q,.inr ⟨rfl,rfl⟩,hQ,?_⟩
  rw[e1,e2]
  exact e
theorem yKv (x:Int){B:Nat}(hB:B≤128):∃ n:Nat,n≤B∧Int.tmod (Go.bits .and .i64 x 255) ((B:Int)+1)=(n:Int):=by
 have h:0≤Go.bits .and .i64 x 255∧Go.bits .and .i64 x 255≤255:=by
  show 0≤IntKind.i64.wrap ((BitVec.ofInt 64 x &&& BitVec.ofInt 64 255).toNat:Int)∧IntKind.i64.wrap ((BitVec.ofInt 64 x &&& BitVec.ofInt 64 255).toNat:Int)≤255
  have h:(BitVec.ofInt 64 x &&& BitVec.ofInt 64 255).toNat≤255:=by
   rw[BitVec.toNat_and]
   exact Nat.le_trans Nat.and_le_right (by decide)
  rw[IntKind.wrap_i64]
  omega
 rw[Int.tmod_eq_emod_of_nonneg h.1]
 have h1:=Int.emod_nonneg (Go.bits .and .i64 x 255) (show(B:Int)+1≠0 by omega)
 have h2:=Int.emod_lt_of_pos (Go.bits .and .i64 x 255) (show 0 < (B:Int)+1 by omega)
 exact⟨(Go.bits .and .i64 x 255 % ((B:Int)+1)).toNat,by omega,by omega⟩
theorem yRd {v a b n V h l t r M1 M2 K1 K2 N1 N2 c1 c2 x y:Int}(h0:glebelaw2_Addr.f 300 v a b=some (V,h,l))(hb:gleberef1_Bits.f V=some t)(hw:wrap64 (t+1)=r)(hr:r≠0){m:Int}(hm0:Int.tmod (Go.bits .and .i64 n 255) r=m)
  (hm:gleberef1_Mask.f 300 (wrap64 (wrap64 (128 - t)+m))=some (M1,M2)) (hk:gleberef1_Mask.f 300 (wrap64 (128 - t))=some (K1,K2)) (hn:gleberef1_Not.f K1 K2=some (N1,N2))
  (ha:gleberef1_And.f M1 M2 N1 N2=some (c1,c2)) (hx:gleberef1_And.f h l c1 c2=some (x,y)):glebelaw3_Pre.f v a b n=some (V,x,y,m):=by
 unfold glebelaw3_Pre.f
 rw[h0,Option.bind_some]
 simp only[hb,Option.bind_some,hw,if_neg hr,hm0,hm,hk,hn,ha,hx]
theorem yKw {V:Int}{B m:Nat}(h:Kd' V B):gleberef1_And.f (H (zB9 (128 - (B - m)))) (L (zB9 (128 - (B - m)))) (H (zCh - 1 - zB9 (128 - B))) (L (zCh - 1 - zB9 (128 - B)))=some (H (2 ^ B - 2 ^ (B - m)),L (2 ^ B - 2 ^ (B - m))):=by
 have hB:=h.le
 obtain⟨f1,_,f3,_,f5,_⟩:=zGa h (j:=B - m) (by omega)
 have e2:=yEz (mask_lt (n:=128 - (B - m)) (by omega)) f5
 rw[f1] at e2
 exact e2
theorem yKx {V:Int}{B q m:Nat}(h:Kd' V B)(hq:q < 2 ^ B):gleberef1_And.f (H q) (L q) (H (2 ^ B - 2 ^ (B - m))) (L (2 ^ B - 2 ^ (B - m)))=some (H (2 ^ (B - m) * (q / 2 ^ (B - m))),L (2 ^ (B - m) * (q / 2 ^ (B - m)))):=by
 obtain⟨_,_,f3,_,_,_⟩:=zGa h (j:=B - m) (by omega)
 have e3:=yEz (h.pow hq) f3
 rw[zGb q B (B - m) (by omega) hq] at e3
 exact e3
theorem yRe {V:Int}{B q m:Nat}(h:Kd' V B)(hq:q < 2 ^ B)(hm:m≤B):∃ u u2 u3 y c:Nat,(∀ k,300≤k→gleberef1_Mask.f k (wrap64 (wrap64 (128 - (B:Int))+(m:Int)))=some (H u,L u))∧(∀ k,300≤k→gleberef1_Mask.f k (wrap64 (128 - (B:Int)))=some (H u2,L u2))∧
  gleberef1_Not.f (H u2) (L u2)=some (H u3,L u3)∧gleberef1_And.f (H u) (L u) (H u3) (L u3)=some (H y,L y)∧gleberef1_And.f (H q) (L q) (H y) (L y)=some (H c,L c)∧c≤q∧c % 2 ^ (B - m)=0:=
 ⟨zB9 (128 - (B - m)),zB9 (128 - B),zCh - 1 - zB9 (128 - B),2 ^ B - 2 ^ (B - m),2 ^ (B - m) * (q / 2 ^ (B - m)),fun _ hk=>yGy h hm hk,fun _ hk=>yBa h hk,yPt (mask_lt (by omega)),yKw h,yKx h hq,Nat.mul_div_le _ _,Nat.mul_mod_right _ _⟩
theorem yOm (v a b n:Int)(ha:0≤a)(ha2:a < 18446744073709551616)(hb:0≤b)(hb2:b < 18446744073709551616):
  ∃ V B q m,Kd' V B∧q < 2 ^ B∧m≤B∧q % 2 ^ (B - m)=0∧glebelaw3_Pre.f v a b n=some (V,H q,L q,((m:Nat):Int)):=by
 obtain⟨V,B,q,h,hq,e1⟩:=addr_at (k:=300) (by omega) v a b ha ha2 hb hb2
 have hB:=h.le
 have hne:(B:Int)+1≠0:=by clear e1;omega
 have w1:wrap64 ((B:Int)+1)=(B:Int)+1:=by clear e1;exact w64 (by omega) (by omega)
 obtain⟨m,hm,em⟩:=yKv n hB
 obtain⟨u,u2,u3,y,c,e4,e5,e6,e2,e3,hcut,hmod⟩:=yRe h hq hm
 exact⟨V,B,c,m,h,Nat.lt_of_le_of_lt hcut hq,hm,hmod,yRd e1 h.rbits w1 hne em (e4 300 (Nat.le_refl _)) (e5 300 (Nat.le_refl _)) e6 e2 e3⟩
end Go.Proofs.YtfnacgojmdbjmaaGreatDoor.PRD
section
end
namespace Go.Proofs.YtfnacgojmdbjmaaGreatDoor
open Go.Det Go.RowKit YtfnacgojmdbjmaaGreatDoorW.PrintWords PPH PRD
def ZP (l:List Int)(f t:Nat):Prop:=(f=0∧t=0)∨(f+2≤t∧t≤8∧∀ k,f≤k→k < t→l.getD k 0=0)
def yS3 (k:Nat)(l:List Int)(f t i e:Nat):Option (Int×Int):=
 if(wrap64 ((e:Int) - (i:Int))) > (wrap64 ((t:Int) - (f:Int))) then(if(wrap64 ((e:Int) - (i:Int))) > 1 then(addr_zeros.l0 k l (i:Int) (e:Int) 8 (wrap64 ((i:Int)+1))) else(addr_zeros.l0 k l (f:Int) (t:Int) 8 (wrap64 ((i:Int)+1)))) else(addr_zeros.l0 k l (f:Int) (t:Int) 8 (wrap64 ((i:Int)+1)))
theorem yBb {k:Nat}{l:List Int}{f t i e:Nat}(h:ZP l f t)(hi:i≤e)(he:e≤8)(hi8:i < 8)(hz:∀ k,i≤k→k < e→l.getD k 0=0)
  (ih:∀ f t,ZP l f t→∃ f' t':Nat,ZP l f' t'∧addr_zeros.l0 k l (f:Int) (t:Int) 8 ((i+1:Nat):Int)=some ((f':Int),(t':Int))):
  ∃ f' t':Nat,ZP l f' t'∧yS3 k l f t i e=some ((f':Int),(t':Int)):=by
 have ht:t≤8:=by rcases h with⟨_,rfl⟩|h;omega;omega
 have hf:f≤t:=by rcases h with⟨rfl,rfl⟩|h;omega;omega
 have w1:wrap64 ((e:Int) - (i:Int))=((e - i:Nat):Int):=by rw[w64 (by omega) (by omega)];omega
 have w2:wrap64 ((t:Int) - (f:Int))=((t - f:Nat):Int):=by rw[w64 (by omega) (by omega)];omega
 have w3:wrap64 ((i:Int)+1)=((i+1:Nat):Int):=by rw[w64 (by omega) (by omega)];omega
 unfold yS3
 rw[w1,w2,w3]
 split
 ·split
  ·exact ih i e (.inr ⟨by omega,he,hz⟩)
  ·exact ih f t h
 ·exact ih f t h
theorem yOn {l:List Int}(hl:l.length=8){i:Nat}(hi8:i < 8){K:Nat}(ih:∀ k,K≤k→∀ f t,ZP l f t→∃ f' t':Nat,ZP l f' t'∧addr_zeros.l0 k l (f:Int) (t:Int) 8 ((i+1:Nat):Int)=some ((f':Int),(t':Int))):
  ∀ (m e k f t:Nat),e+m=8→i≤e→(∀ k,i≤k→k < e→l.getD k 0=0)→m+1+K≤k→ZP l f t→∃ f' t':Nat,ZP l f' t'∧addr_zeros.l1 k l (f:Int) (t:Int) (i:Int) (e:Int) 8 (i:Int)=some ((f':Int),(t':Int)):=by
 intro m
 induction m with
 |zero=>
  intro e k f t he hi hz hk h
  obtain⟨k,rfl⟩:∃ j,k=j+1:=⟨k - 1,by omega⟩
  unfold addr_zeros.l1
  rw[if_neg (by rw[hl];omega)]
  exact yBb h hi (by omega) hi8 hz (ih k (by omega))
 |succ m im=>
  intro e k f t he hi hz hk h
  obtain⟨k,rfl⟩:∃ j,k=j+1:=⟨k - 1,by omega⟩
  unfold addr_zeros.l1
  rw[if_pos (by rw[hl];omega),if_pos (by omega)]
  have w:wrap64 ((e:Int)+1)=((e+1:Nat):Int):=by rw[w64 (by omega) (by omega)];omega
  split
  ·rename_i hr
   rw[w]
   refine im (e+1) k f t (by omega) (by omega) (fun j h1 h2=>?_) (by omega) h
   by_cases hj:j=e
   ·subst hj
    unfold rd at hr
    rwa [Int.toNat_natCast] at hr
   ·exact hz j h1 (by omega)
  ·exact yBb h hi (by omega) hi8 hz (ih k (by omega))
theorem yOo {l:List Int}(hl:l.length=8):∀ (d i k f t:Nat),i+d=8→12 * d+2≤k→ZP l f t→∃ f' t':Nat,ZP l f' t'∧addr_zeros.l0 k l (f:Int) (t:Int) 8 (i:Int)=some ((f':Int),(t':Int)):=by
 intro d
 induction d with
 |zero=>
  intro i k f t hi hk h
  obtain⟨k,rfl⟩:∃ j,k=j+1:=⟨k - 1,by omega⟩
  unfold addr_zeros.l0
  rw[if_neg (by omega)]
  exact⟨f,t,h,rfl⟩
 |succ d ih=>
  intro i k f t hi hk h
  obtain⟨k,rfl⟩:∃ j,k=j+1:=⟨k - 1,by omega⟩
  unfold addr_zeros.l0
  rw[if_pos (by omega)]
  exact yOn hl (i:=i) (by omega) (K:=12 * d+2) (fun k hk f t h=>ih (i+1) k f t (by omega) hk h) (8 - i) i k f t (by omega) (Nat.le_refl _) (fun j h1 h2=>by omega) (by omega) h
theorem zXs {f t:Nat}(h:(f=0∧t=0)∨(f+2≤t∧t≤8)):((f:Int),(t:Int))∈zOg:=by
 have key:∀ f:Fin 9,∀ t:Fin 9,((f.val=0∧t.val=0)∨(f.val+2≤t.val∧t.val≤8))→((f.val:Int),(t.val:Int))∈zOg:=by decide +kernel
 exact key ⟨f,by omega⟩ ⟨t,by omega⟩ h
theorem zVn {l:List Int}(hl:l.length=8):∃ f t:Nat,zGe l ()=some ((f:Int),(t:Int))∧((f:Int),(t:Int))∈zOg∧ZP l f t:=by
 obtain⟨f,t,h,e⟩:=yOo hl 8 0 300 0 0 (by omega) (by omega) (.inl ⟨rfl,rfl⟩)
 refine⟨f,t,?_,zXs ?_,h⟩
 ·unfold zGe addr_zeros.f
  rw[if_pos (by omega),hl]
  exact e
 ·rcases h with h|h
  ·exact .inl h
  ·exact .inr ⟨h.1,h.2.1⟩
def zQh (n:Nat):ByteArray:=⟨⟨Txt.hexT n⟩⟩
theorem yOp {n:Nat}(h:n < 65536):strconv_FormatUint.f (n:Int) 16=some (zQh n):=by
 unfold strconv_FormatUint.f yAw
 rw[if_pos ⟨rfl,by omega,by omega⟩,Int.toNat_natCast];rfl
theorem yKy {ns:List Nat}(hn:∀ n∈ns,n < 65536)(hl:ns.length≤8):∀ (d i k:Nat) (acc:List ByteArray),i+d=ns.length→d+2≤k→acc.length≤i→
  addr_text.l0 k acc (ns.map fun(n:Nat)=>(n:Int)) (ns.length:Int) (i:Int)=((strings_Join.f (acc++(ns.drop i).map zQh) ⟨#[58]⟩).bind fun t=>some t):=by
 intro d
 induction d with
 |zero=>
  intro i k acc hi hk ha
  obtain⟨k,rfl⟩:∃ j,k=j+1:=⟨k - 1,by omega⟩
  unfold addr_text.l0
  rw[if_neg (by omega),List.drop_eq_nil_of_le (by omega),List.map_nil,List.append_nil]
 |succ d ih=>
  intro i k acc hi hk ha
  obtain⟨k,rfl⟩:∃ j,k=j+1:=⟨k - 1,by omega⟩
  have hlt:i < ns.length:=by omega
  have e1:rd (ns.map fun(n:Nat)=>(n:Int)) (i:Int)=((ns[i]:Nat):Int):=by
   unfold rd
   rw[Int.toNat_natCast,List.getD_eq_getElem?_getD,List.getElem?_map,List.getElem?_eq_getElem hlt];rfl
  unfold addr_text.l0
  rw[if_pos (by omega),if_pos (by omega),if_pos (by rw[List.length_map];omega),e1,yOp (hn _ (List.getElem_mem hlt)),Option.bind_some,if_pos (by omega),w64 (by omega) (by omega)]
  have:=ih (i+1) k (acc++[zQh ns[i]]) (by omega) (by omega) (by rw[List.length_append,List.length_singleton];omega)
  rw[show((i:Int)+1)=((i+1:Nat):Int) by omega,this,List.append_assoc]
  conv=>rhs;rw[List.drop_eq_getElem_cons hlt]
  rfl
theorem zVo:∀ ns:List Nat,Lib.lens (ns.map Txt.hexT)≤4 * ns.length
 |[]=>by simp[Lib.lens]
 |n::t=>by
  have:=zVo t
  have h:=(Txt.hexT_len n).2
  simp only[Lib.lens,List.map_cons,List.sum_cons,List.length_cons] at this ⊢
  omega
theorem zBy {ns:List Nat}(hl:ns.length≤8):(Lib.join (ns.map Txt.hexT) [58]).length≤40:=by
 cases ns with
 |nil=>simp[Lib.join_nil]
 |cons n t=>
  have:=zVo (n::t)
  rw[List.map_cons,Lib.join_length,← List.map_cons]
  simp only[List.length_cons,List.length_nil,List.length_map] at this hl ⊢
  omega
theorem yBc {ns:List Nat}(hl:ns.length≤8):strings_Join.f (ns.map zQh) ⟨#[58]⟩=some ⟨⟨Lib.join (ns.map Txt.hexT) [58]⟩⟩:=by
 have e:zMj (ns.map zQh) ⟨#[58]⟩=⟨⟨Lib.join (ns.map Txt.hexT) [58]⟩⟩:=by
  unfold zMj
  rw[List.map_map]
  rfl
 unfold strings_Join.f
 rw[e,if_pos ⟨by rw[zFa];have:=zBy hl;omega,by rw[List.length_map];omega⟩]
theorem zJs {ns:List Nat}(hn:∀ n∈ns,n < 65536)(hl:ns.length≤8):zMr (ns.map fun(n:Nat)=>(n:Int)) ()=some ⟨⟨Lib.join (ns.map Txt.hexT) [58]⟩⟩:=by
 unfold zMr addr_text.f
 rw[if_pos (by rw[List.length_map];exact hl),List.length_map]
 have:=yKy hn hl ns.length 0 300 [] (by omega) (by omega) (Nat.zero_le _)
 rw[show((0:Nat):Int)=0 from rfl] at this
 rw[this,List.nil_append,List.drop_zero,yBc hl];rfl
theorem yOq:∀ k:Fin 16,yM3 dig16 (orI .u8 ((Txt.dg k.val).toNat:Int) 32)=some (k.val:Int)∧¬ ((Txt.dg k.val).toNat:Int) < 48:=by decide +kernel
theorem zGc {n k:Nat}(hn:n < 4096)(hk:k < 16)(t:List UInt8):zMq (n:Int) (Txt.dg k::t)=zMq ((n * 16+k:Nat):Int) t:=by
 obtain⟨h1,h2⟩:=yOq ⟨k,hk⟩
 simp only at h1 h2
 rw[zMq,h1,Option.bind_some,if_neg (by omega),if_neg h2]
 have e1:zD3 .u64 (n:Int) 4=((n * 2 ^ 4:Nat):Int):=yAv 4 (by decide) (by omega)
 rw[e1,Go.Det.wrapU ⟨by omega,by omega⟩,zPy 4 (by omega) (by omega)]
theorem zI2 {k:Nat}(hk:k < 16)(t:List UInt8):zMq 0 (Txt.dg k::t)=zMq (k:Int) t:=by
 have:=zGc (n:=0) (by omega) hk t
 simpa using this
theorem yOr {n:Nat}(h:n < 65536):addr_hex.f (zQh n)=some ((n:Int),true):=by
 unfold addr_hex.f zPz zQh
 rw[yC4]
 have hl:=Txt.hexT_len n
 rw[if_neg (by omega)]
 unfold Txt.hexT
 split
 ·rw[zI2 (by omega)];rfl
 ·split
  ·rw[zI2 (by omega),zGc (by omega) (by omega),zMq]
   congr 2;omega
  ·split
   ·rw[zI2 (by omega),zGc (by omega) (by omega),zGc (by omega) (by omega),zMq]
    congr 2;omega
   ·rw[zI2 (by omega),zGc (by omega) (by omega),zGc (by omega) (by omega),zGc (by omega) (by omega),zMq]
    congr 2;omega
theorem yOs {ns:List Nat}(hn:∀ n∈ns,n < 65536)(hl:ns.length≤8)(last:Bool):∀ (d i k:Nat) (acc:List Int),i+d=ns.length→2 * d+2≤k→acc.length≤i→
  addr_row.l0 k last acc (ns.map zQh) (ns.map zQh) (ns.length:Int) (i:Int)=some (acc++(ns.drop i).map (fun(n:Nat)=>(n:Int)),true):=by
 intro d
 induction d with
 |zero=>
  intro i k acc hi hk ha
  obtain⟨k,rfl⟩:∃ j,k=j+1:=⟨k - 1,by omega⟩
  unfold addr_row.l0
  rw[if_neg (by omega),List.drop_eq_nil_of_le (by omega),List.map_nil,List.append_nil]
 |succ d ih=>
  intro i k acc hi hk ha
  obtain⟨k,rfl⟩:∃ j,k=j+2:=⟨k - 2,by omega⟩
  have hlt:i < ns.length:=by omega
  have hni:=hn _ (List.getElem_mem hlt)
  have e1:zB5 ByteArray.empty (ns.map zQh) (i:Int)=zQh ns[i]:=by
   unfold zB5
   rw[Int.toNat_natCast,List.getD_eq_getElem?_getD,List.getElem?_map,List.getElem?_eq_getElem hlt];rfl
  have ec:strings_Contains.f (zQh ns[i]) ⟨#[46]⟩=some false:=by
   unfold strings_Contains.f
   have hs:(zQh ns[i]).size < 4294967281:=by
    have:=(Txt.hexT_len ns[i]).2
    unfold zQh
    rw[zFa];omega
   rw[if_pos hs]
   exact congrArg some (Txt.contains_no (Txt.hexT_sgn hni (by decide)))
  have ej:∀ x36,x36=false→addr_row.j1 (k+1) last acc (ns.map zQh) (zQh ns[i]) (ns.map zQh) (ns.length:Int) (i:Int) x36=some (acc++(ns.drop i).map (fun(n:Nat)=>(n:Int)),true):=by
   rintro _ rfl
   unfold addr_row.j1
   rw[if_neg (by decide),yOr hni,Option.bind_some,if_pos rfl,if_pos (by omega),w64 (by omega) (by omega),show((i:Int)+1)=((i+1:Nat):Int) by omega,
    ih (i+1) k (acc++[((ns[i]:Nat):Int)]) (by omega) (by omega) (by rw[List.length_append,List.length_singleton];omega),List.append_assoc]
   conv=>rhs;rw[List.drop_eq_getElem_cons hlt]
   rfl
  unfold addr_row.l0
  rw[if_pos (by omega),if_pos (by omega),if_pos (by rw[List.length_map];omega),e1]
  split
  ·split
   ·rw[ec,Option.bind_some];exact ej _ rfl
   ·exact ej _ rfl
  ·exact ej _ rfl
theorem zT6 {ns:List Nat}(h:ns≠[]):Lib.join (ns.map Txt.hexT) [58]≠[]:=by
 cases ns with
 |nil=>exact absurd rfl h
 |cons n t=>
  rw[List.map_cons,Lib.join_cons]
  intro e
  exact Txt.hexT_ne n (List.append_eq_nil_iff.1 e).1
theorem zVp {ns:List Nat}(hn:∀ n∈ns,n < 65536)(hl:ns.length≤8)(last:Bool):zBg (⟨⟨Lib.join (ns.map Txt.hexT) [58]⟩⟩,last)=some (ns.map (fun(n:Nat)=>(n:Int)),true):=by
 unfold zBg addr_row.f
 cases hns:ns with
 |nil=>
  rw[if_pos (by rw[ByteArray.toList_eq];rfl)]
  rfl
 |cons n0 t0=>
  rw[← hns]
  have hne:ns≠[]:=by rw[hns];simp
  rw[if_neg (by rw[ByteArray.toList_eq];exact zT6 hne)]
  have es:strings_Split.f ⟨⟨Lib.join (ns.map Txt.hexT) [58]⟩⟩ ⟨#[58]⟩=some (ns.map zQh):=by
   unfold strings_Split.f
   rw[if_pos ⟨by rw[zFa];have:=zBy hl;omega,by decide⟩]
   have:=Txt.splitB_join (c:=58) (ns.map Txt.hexT) (by simpa using hne) (fun p hp=>by
    obtain⟨m,hm,rfl⟩:=List.mem_map.1 hp
    exact Txt.hexT_sgn (hn m hm) (by decide))
   rw[List.map_map] at this
   exact congrArg some this
  simp only
  rw[es,Option.bind_some,List.length_map]
  have:=yOs hn hl last ns.length 0 1000 [] (by omega) (by omega) (Nat.zero_le _)
  rw[show((0:Nat):Int)=0 from rfl] at this
  rw[this,List.nil_append,List.drop_zero]
def zDj (n:Nat):ByteArray:=⟨⟨Txt.decT n⟩⟩
theorem zVq {n:Nat}(h:n < 256):zKc (n:Int)=some (zDj n):=by
 unfold zKc
 rw[if_pos ⟨by omega,by omega⟩,Int.toNat_natCast];rfl
theorem yKz:∀ n:Fin 256,zKd (zDj n.val) 255=some ((n.val:Int),true):=by decide +kernel
theorem yOt {n:Nat}(h:n < 256):date_Num.f (zDj n) 255=some ((n:Int),true):=yKz ⟨n,h⟩
theorem zKu (n:Nat):(Txt.decT n).length≤3:=by
 unfold Txt.decT
 split
 ·simp
 ·split<;>simp
theorem zG6 {q:Nat}(hq:q < 18446744073709551616)(s:Nat)(hs:s≤64):zKc (zB2 .u64 (zBm .u64 (q:Int) (s:Int)) 255)=some (zDj (q / 2 ^ s % 256)):=by
 rw[zT1 s hs]
 have h1:q / 2 ^ s≤q:=Nat.div_le_self _ _
 obtain⟨x,hx⟩:∃ x,x=q / 2 ^ s:=⟨_,rfl⟩
 rw[← hx] at h1 ⊢
 have e:zB2 .u64 (x:Int) 255=((x % 256:Nat):Int):=zH9 (by omega) 8 (by decide)
 rw[e,zVq (by omega)]
def zXt (a b c d:Nat):List UInt8:=Lib.join [Txt.decT a,Txt.decT b,Txt.decT c,Txt.decT d] [46]
theorem zP5 (a b c d:Nat):(zXt a b c d).length≤15:=by
 unfold zXt
 have h1:=zKu a
 have h2:=zKu b
 have h3:=zKu c
 have h4:=zKu d
 rw[Lib.join_length]
 simp only[Lib.lens,List.map_cons,List.map_nil,List.sum_cons,List.sum_nil,List.length_cons,List.length_nil]
 omega
theorem zSj (a b c d:Nat):zXp [zDj a,zDj b,zDj c,zDj d] yQ7=some ⟨⟨zXt a b c d⟩⟩:=by
 have e:zMj [zDj a,zDj b,zDj c,zDj d] yQ7=⟨⟨zXt a b c d⟩⟩:=rfl
 unfold zXp
 rw[e,if_pos ⟨by rw[zFa];have:=zP5 a b c d;omega,by simp only[List.length_cons,List.length_nil];omega⟩]
theorem yK0 {x n:Nat}(hx:x < 16777216)(hn:n < 256):Go.bits .or .u64 (IntKind.u64.wrap ((x:Int) * 256)) (Go.bits .and .u64 (n:Int) 255)=((x * 256+n:Nat):Int):=by
 have e1:Go.bits .and .u64 (n:Int) 255=((n % 256:Nat):Int):=zH9 (by omega) 8 (by decide)
 have e2:IntKind.u64.wrap ((x:Int) * 256)=((x * 2 ^ 8:Nat):Int):=by rw[Go.Det.wrapU ⟨by omega,by omega⟩];omega
 rw[e1,e2,Nat.mod_eq_of_lt hn]
 exact zPy (s:=8) (by omega) (by omega)
theorem yK1 {a b c d:Nat}(ha:a < 256)(hb:b < 256)(hc:c < 256)(hd:d < 256):addr_four.f 1000 ⟨⟨zXt a b c d⟩⟩=some (((((a * 256+b) * 256+c) * 256+d:Nat):Int),true):=by
 have es:strings_Split.f ⟨⟨zXt a b c d⟩⟩ ⟨#[46]⟩=some [zDj a,zDj b,zDj c,zDj d]:=by
  unfold strings_Split.f
  rw[if_pos ⟨by rw[zFa];have:=zP5 a b c d;omega,by decide⟩]
  exact congrArg some (Txt.splitB_join (c:=46) [Txt.decT a,Txt.decT b,Txt.decT c,Txt.decT d] (by simp) (fun p hp=>by
   simp only[List.mem_cons,List.not_mem_nil,or_false] at hp
   rcases hp with rfl|rfl|rfl|rfl
   ·exact Txt.decT_sgn ha (by decide)
   ·exact Txt.decT_sgn hb (by decide)
   ·exact Txt.decT_sgn hc (by decide)
   ·exact Txt.decT_sgn hd (by decide)))
 unfold addr_four.f
 rw[es,Option.bind_some]
 have step:∀ (k i x n:Nat),i < 4→x < 16777216→n < 256→[zDj a,zDj b,zDj c,zDj d][i]?=some (zDj n)→
   addr_four.l0 (k+1) [zDj a,zDj b,zDj c,zDj d] (x:Int) [zDj a,zDj b,zDj c,zDj d] 4 (i:Int)=addr_four.l0 k [zDj a,zDj b,zDj c,zDj d] ((x * 256+n:Nat):Int) [zDj a,zDj b,zDj c,zDj d] 4 ((i+1:Nat):Int):=by
  intro k i x n hi hx hn hg
  have e1:zB5 ByteArray.empty [zDj a,zDj b,zDj c,zDj d] (i:Int)=zDj n:=by
   unfold zB5
   rw[Int.toNat_natCast,List.getD_eq_getElem?_getD,hg];rfl
  conv=>lhs;unfold addr_four.l0
  rw[if_pos (by omega),if_pos (by omega),if_pos (by simp only[List.length_cons,List.length_nil];omega),e1,yOt hn,Option.bind_some,if_pos rfl,yK0 hx hn,w64 (by omega) (by omega)]
  rfl
 have h0:=step 999 0 0 a (by omega) (by omega) ha rfl
 have h1:=step 998 1 a b (by omega) (by omega) hb rfl
 have h2:=step 997 2 (a * 256+b) c (by omega) (by omega) hc rfl
 have h3:=step 996 3 ((a * 256+b) * 256+c) d (by omega) (by omega) hd rfl
 have e0:0 * 256+a=a:=by omega
 rw[e0] at h0
 have ee:addr_four.l0 996 [zDj a,zDj b,zDj c,zDj d] ((((a * 256+b) * 256+c) * 256+d:Nat):Int) [zDj a,zDj b,zDj c,zDj d] 4 ((3+1:Nat):Int)=some (((((a * 256+b) * 256+c) * 256+d:Nat):Int),true):=by
  conv=>lhs;unfold addr_four.l0
  rw[if_neg (by omega)]
  rfl
 exact h0.trans (h1.trans (h2.trans (h3.trans ee)))
theorem zP6 {h:Nat}(hh:h < 18446744073709551616):zDc (h:Int)=[h / 281474976710656 % 65536,h / 4294967296 % 65536,h / 65536 % 65536,h % 65536].map (fun(n:Nat)=>(n:Int)):=by
 have p:∀ (s:Nat),s≤64→zB2 .u64 (zBm .u64 (h:Int) (s:Int)) 65535=((h / 2 ^ s % 65536:Nat):Int):=by
  intro s hs
  rw[zT1 s hs]
  have h1:h / 2 ^ s≤h:=Nat.div_le_self _ _
  obtain⟨x,hx⟩:∃ x,x=h / 2 ^ s:=⟨_,rfl⟩
  rw[← hx] at h1 ⊢
  exact zH9 (by omega) 16 (by decide)
 have p0:=p 0 (by omega)
 have p1:=p 16 (by omega)
 have p2:=p 32 (by omega)
 have p3:=p 48 (by omega)
 rw[Nat.pow_zero,Nat.div_one] at p0
 unfold zDc
 simp only[List.map_cons,List.map_nil]
 exact congr (congrArg List.cons p3) (congr (congrArg List.cons p2) (congr (congrArg List.cons p1) (congrArg (List.cons · []) p0)))
theorem yBd {a b c d:Nat}(ha:a < 65536)(hb:b < 65536)(hc:c < 65536)(hd:d < 65536):zT4 (a:Int) (b:Int) (c:Int) (d:Int)=((((a * 65536+b) * 65536+c) * 65536+d:Nat):Int):=by
 have st:∀ {x n:Nat},x < 281474976710656→n < 65536→orI .u64 (zD3 .u64 (x:Int) 16) (n:Int)=((x * 65536+n:Nat):Int):=by
  intro x n hx hn
  have e1:zD3 .u64 (x:Int) 16=((x * 2 ^ 16:Nat):Int):=yAv 16 (by decide) (by omega)
  rw[e1]
  exact zPy 16 (by omega) (by omega)
 have s0:=st (x:=0) (n:=a) (by omega) ha
 rw[show 0 * 65536+a=a by omega] at s0
 unfold zT4
 rw[show((0:Int))=((0:Nat):Int) from rfl,s0,st (by omega) hb,st (by omega) hc,st (by omega) hd]
theorem yK2 {l:List Int}(hl:l.length=8){f t:Nat}(hft:f+2≤t)(ht:t≤8)(hz:∀ k,f≤k→k < t→l.getD k 0=0):l.take f++List.replicate (8 - ((l.take f).length+(l.drop t).length)) 0++l.drop t=l:=by
 have e:8 - ((l.take f).length+(l.drop t).length)=t - f:=by rw[List.length_take,List.length_drop];omega
 rw[e]
 have e2:List.replicate (t - f) (0:Int)=(l.drop f).take (t - f):=by
  refine List.ext_getElem (by rw[List.length_replicate,List.length_take,List.length_drop];omega) fun i h1 h2=>?_
  rw[List.length_replicate] at h1
  have:=hz (f+i) (by omega) (by omega)
  rw[List.getD_eq_getElem?_getD,List.getElem?_eq_getElem (by omega)] at this
  rw[List.getElem_replicate,List.getElem_take,List.getElem_drop]
  exact this.symm
 rw[e2,List.append_assoc]
 have e3:l.drop t=(l.drop f).drop (t - f):=by rw[List.drop_drop];congr 1;omega
 rw[e3,List.take_append_drop,List.take_append_drop]
structure PT (s:List UInt8):Prop where
 len:s.length≤100
 ne:s≠[]
 sl:(47:UInt8)∉s
 da:(45:UInt8)∉s
theorem zMs (s:List UInt8)(c:UInt8)(h:s.length≤1000):strings_Contains.f ⟨⟨s⟩⟩ ⟨#[c]⟩=some (Lib.contains s [c]):=by
 unfold strings_Contains.f
 rw[if_pos (by rw[zFa];omega)]
theorem yRf {q:Nat}(hq:q < 4294967296):∃ s,PT s∧prF 4 0 (q:Int)=some ⟨⟨s⟩⟩∧addr_Parse.f ⟨⟨s⟩⟩=some (4,0,(q:Int),true):=by
 have b0:=zG6 (q:=q) (by omega) 24 (by omega)
 have b1:=zG6 (q:=q) (by omega) 16 (by omega)
 have b2:=zG6 (q:=q) (by omega) 8 (by omega)
 have b3:=zG6 (q:=q) (by omega) 0 (by omega)
 have e0:q / 2 ^ 24 % 256=q / 16777216 % 256:=rfl
 have e1:q / 2 ^ 16 % 256=q / 65536 % 256:=rfl
 have e2:q / 2 ^ 8 % 256=q / 256 % 256:=rfl
 have e3:q / 2 ^ 0 % 256=q % 256:=by rw[Nat.pow_zero,Nat.div_one]
 rw[e0] at b0
 rw[e1] at b1
 rw[e2] at b2
 rw[e3] at b3
 have hj:=zSj (q / 16777216 % 256) (q / 65536 % 256) (q / 256 % 256) (q % 256)
 have h4:=yK1 (a:=q / 16777216 % 256) (b:=q / 65536 % 256) (c:=q / 256 % 256) (d:=q % 256) (by omega) (by omega) (by omega) (by omega)
 have hl:=zP5 (q / 16777216 % 256) (q / 65536 % 256) (q / 256 % 256) (q % 256)
 have hq':((q / 16777216 % 256 * 256+q / 65536 % 256) * 256+q / 256 % 256) * 256+q % 256=q:=by omega
 rw[hq'] at h4
 have hn:∀ c,Txt.sgn c=true→c≠46→c∉zXt (q / 16777216 % 256) (q / 65536 % 256) (q / 256 % 256) (q % 256):=by
  intro c hc hd
  refine Txt.not_mem_join hd _ fun p hp=>?_
  simp only[List.mem_cons,List.not_mem_nil,or_false] at hp
  rcases hp with rfl|rfl|rfl|rfl
  ·exact Txt.decT_sgn (by omega) hc
  ·exact Txt.decT_sgn (by omega) hc
  ·exact Txt.decT_sgn (by omega) hc
  ·exact Txt.decT_sgn (by omega) hc
 refine⟨zXt (q / 16777216 % 256) (q / 65536 % 256) (q / 256 % 256) (q % 256),⟨by omega,?_,hn 47 (by decide) (by decide),hn 45 (by decide) (by decide)⟩,?_,?_⟩
 ·unfold zXt
  rw[Lib.join_cons]
  intro e
  exact Txt.decT_ne _ (List.append_eq_nil_iff.1 e).1
 ·unfold prF okF
  rw[if_neg (by decide),if_pos rfl,if_pos rfl,Option.bind_some,if_pos (by rw[decide_eq_true_eq];omega),if_pos rfl]
  unfold pr4
  have b0':zKc (zB2 .u64 (zBm .u64 (q:Int) 24) 255)=_:=b0
  have b1':zKc (zB2 .u64 (zBm .u64 (q:Int) 16) 255)=_:=b1
  have b2':zKc (zB2 .u64 (zBm .u64 (q:Int) 8) 255)=_:=b2
  have b3':zKc (zB2 .u64 (zBm .u64 (q:Int) 0) 255)=_:=b3
  rw[b0',Option.bind_some,b1',Option.bind_some,b2',Option.bind_some,b3',Option.bind_some,hj]
 ·unfold addr_Parse.f
  have hc:=zMs (zXt (q / 16777216 % 256) (q / 65536 % 256) (q / 256 % 256) (q % 256)) 58 (by omega)
  rw[Txt.contains_no (hn 58 (by decide) (by decide))] at hc
  have hc':strings_Contains.f ⟨⟨zXt (q / 16777216 % 256) (q / 65536 % 256) (q / 256 % 256) (q % 256)⟩⟩ { data:=#[58] }=some false:=hc
  rw[hc',Option.bind_some,if_neg (by decide),h4,Option.bind_some,if_pos rfl]
theorem yBe (s sep:List UInt8)(h:s.length≤1000):zC2 ⟨⟨s⟩⟩ ⟨⟨sep⟩⟩=some (⟨⟨(Lib.cut s sep).1⟩⟩,⟨⟨(Lib.cut s sep).2.1⟩⟩,(Lib.cut s sep).2.2):=by
 unfold zC2
 rw[if_pos (by rw[zFa];omega)]
 rfl
structure G8 (ns:List Nat):Prop where
 len:ns.length=8
 lt:∀ n∈ns,n < 65536
def zDh (ns:List Nat):List Int:=ns.map fun(n:Nat)=>(n:Int)
theorem zI3 (ns:List Nat):(zDh ns).length=ns.length:=List.length_map ..
theorem yBf {ns:List Nat}(h:G8 ns):zT5 ⟨⟨Lib.join (ns.map Txt.hexT) [58]⟩⟩=some (6,(zFb (zDh ns)).1,(zFb (zDh ns)).2,true):=by
 have hl:=zBy (ns:=ns) (by rw[h.len];omega)
 have hne:ns≠[]:=by intro e;have:=h.len;rw[e] at this;simp at this
 have htw:Txt.twice 58 (Lib.join (ns.map Txt.hexT) [58])=false:=by
  have:=Txt.twice_join (c:=58) (ns.map Txt.hexT) (fun p hp=>by
   obtain⟨m,hm,rfl⟩:=List.mem_map.1 hp
   exact⟨Txt.hexT_sgn (h.lt m hm) (by decide),Txt.hexT_ne m⟩) []
  rw[List.append_nil] at this
  exact this
 have hc:=yBe (Lib.join (ns.map Txt.hexT) [58]) [58,58] (by omega)
 rw[Txt.cut_miss htw] at hc
 have hc':zC2 ⟨⟨Lib.join (ns.map Txt.hexT) [58]⟩⟩ { data:=#[58,58] }=some (⟨⟨Lib.join (ns.map Txt.hexT) [58]⟩⟩,⟨⟨[]⟩⟩,false):=hc
 have r1:=zVp h.lt (by rw[h.len];omega) true
 have r2:=zVp (ns:=[]) (by simp) (by simp) true
 have r2':zBg (⟨⟨[]⟩⟩,true)=some ([],true):=r2
 unfold zT5
 rw[hc',Option.bind_some]
 simp only
 rw[show(!false)=true from rfl,r1,Option.bind_some,r2',Option.bind_some]
 have hB:zVk ⟨⟨Lib.join (ns.map Txt.hexT) [58]⟩⟩ false (zDh ns,true) ([],true)=false:=by
  unfold zVk
  simp only[Bool.not_true,Bool.false_or,yC4,zI3,h.len,List.length_nil]
  rw[decide_eq_false (zT6 hne)];rfl
 have hB':¬ zVk ⟨⟨Lib.join (ns.map Txt.hexT) [58]⟩⟩ false (ns.map fun(n:Nat)=>(n:Int),true) ([],true)=true:=by
  intro e;exact absurd (e.symm.trans hB) (by decide)
 rw[if_neg hB']
 simp only[List.length_map,h.len,List.length_nil,Nat.add_zero,Nat.sub_self,List.replicate_zero,List.append_nil]
 rfl
theorem yK3 {ns:List Nat}(h:G8 ns){f t:Nat}(hft:f+2≤t)(ht:t≤8)(hz:∀ k,f≤k→k < t→(zDh ns).getD k 0=0):
  zT5 ⟨⟨Lib.join ((ns.take f).map Txt.hexT) [58]++58::58::Lib.join ((ns.drop t).map Txt.hexT) [58]⟩⟩=some (6,(zFb (zDh ns)).1,(zFb (zDh ns)).2,true):=by
 have lf:(ns.take f).length≤8:=by rw[List.length_take,h.len];omega
 have lt:(ns.drop t).length≤8:=by rw[List.length_drop,h.len];omega
 have gf:∀ n∈ns.take f,n < 65536:=fun n hn=>h.lt n (List.mem_of_mem_take hn)
 have gt:∀ n∈ns.drop t,n < 65536:=fun n hn=>h.lt n (List.mem_of_mem_drop hn)
 have l1:=zBy lf
 have l2:=zBy lt
 have htw:Txt.twice 58 (Lib.join ((ns.take f).map Txt.hexT) [58]++[58])=false:=by
  rw[Txt.twice_join (c:=58) ((ns.take f).map Txt.hexT) (fun p hp=>by
   obtain⟨m,hm,rfl⟩:=List.mem_map.1 hp
   exact⟨Txt.hexT_sgn (gf m hm) (by decide),Txt.hexT_ne m⟩) [58]]
  rfl
 have hc:=yBe (Lib.join ((ns.take f).map Txt.hexT) [58]++58::58::Lib.join ((ns.drop t).map Txt.hexT) [58]) [58,58] (by simp only[List.length_append,List.length_cons];omega)
 rw[Txt.cut_hit _ htw] at hc
 have hc':zC2 ⟨⟨Lib.join ((ns.take f).map Txt.hexT) [58]++58::58::Lib.join ((ns.drop t).map Txt.hexT) [58]⟩⟩ { data:=#[58,58] }=some (⟨⟨Lib.join ((ns.take f).map Txt.hexT) [58]⟩⟩,⟨⟨Lib.join ((ns.drop t).map Txt.hexT) [58]⟩⟩,true):=hc
 have r1:=zVp gf lf false
 have r2:=zVp gt lt true
 unfold zT5
 rw[hc',Option.bind_some]
 simp only
 rw[show(!true)=false from rfl,r1,Option.bind_some,r2,Option.bind_some]
 have hlen:(ns.take f).length+(ns.drop t).length=f+(8 - t):=by rw[List.length_take,List.length_drop,h.len];omega
 have hB:∀ X Y:List Int,X.length=(ns.take f).length→Y.length=(ns.drop t).length→zVk ⟨⟨Lib.join ((ns.take f).map Txt.hexT) [58]++58::58::Lib.join ((ns.drop t).map Txt.hexT) [58]⟩⟩ true (X,true) (Y,true)=false:=by
  intro X Y hX hY
  unfold zVk
  simp only[Bool.not_true,Bool.false_or,yC4]
  rw[decide_eq_false (by simp),Bool.false_or,hX,hY,hlen]
  exact decide_eq_false (by omega)
 rw[if_neg (by rw[hB _ _ (List.length_map ..) (List.length_map ..)];decide)]
 have hf:=yK2 (l:=zDh ns) (by rw[zI3,h.len]) hft ht hz
 unfold zDh at hf ⊢
 rw[← List.map_take,← List.map_drop] at hf
 rw[hf]
theorem yG0 (a b:List UInt8):(⟨⟨a⟩⟩:ByteArray)++yOj++(⟨⟨b⟩⟩:ByteArray)=⟨⟨a++58::58::b⟩⟩:=by
 have h:((⟨⟨a⟩⟩:ByteArray)++yOj++(⟨⟨b⟩⟩:ByteArray)).data.toList=a++58::58::b:=by
  simp[yOj]
 have e:∀ x:ByteArray,x=⟨⟨x.data.toList⟩⟩:=fun _=>rfl
 rw[e ((⟨⟨a⟩⟩:ByteArray)++yOj++(⟨⟨b⟩⟩:ByteArray)),h]
theorem yG1 {h:Nat}(hh:h < 18446744073709551616):((h / 281474976710656 % 65536 * 65536+h / 4294967296 % 65536) * 65536+h / 65536 % 65536) * 65536+h % 65536=h:=by omega
theorem yRg {h l:Nat}(hh:h < 18446744073709551616)(hl:l < 18446744073709551616):∃ s,PT s∧prF 6 (h:Int) (l:Int)=some ⟨⟨s⟩⟩∧addr_Parse.f ⟨⟨s⟩⟩=some (6,(h:Int),(l:Int),true):=by
 obtain⟨ns,hns⟩:∃ ns,ns=[h / 281474976710656 % 65536,h / 4294967296 % 65536,h / 65536 % 65536,h % 65536,l / 281474976710656 % 65536,l / 4294967296 % 65536,l / 65536 % 65536,l % 65536]:=⟨_,rfl⟩
 have G:G8 ns:=by
  subst hns
  refine⟨rfl,fun n hn=>?_⟩
  simp only[List.mem_cons,List.not_mem_nil,or_false] at hn
  rcases hn with rfl|rfl|rfl|rfl|rfl|rfl|rfl|rfl<;>omega
 have hg:grp (h:Int) (l:Int)=zDh ns:=by
  unfold grp zDh
  rw[zP6 hh,zP6 hl,hns]
  simp only[List.map_cons,List.map_nil,List.cons_append,List.nil_append]
 have hc8:zFb (zDh ns)=((h:Int),(l:Int)):=by
  have c1:=yBd (a:=h / 281474976710656 % 65536) (b:=h / 4294967296 % 65536) (c:=h / 65536 % 65536) (d:=h % 65536) (by omega) (by omega) (by omega) (by omega)
  have c2:=yBd (a:=l / 281474976710656 % 65536) (b:=l / 4294967296 % 65536) (c:=l / 65536 % 65536) (d:=l % 65536) (by omega) (by omega) (by omega) (by omega)
  have d1:((h / 281474976710656 % 65536 * 65536+h / 4294967296 % 65536) * 65536+h / 65536 % 65536) * 65536+h % 65536=h:=yG1 hh
  have d2:((l / 281474976710656 % 65536 * 65536+l / 4294967296 % 65536) * 65536+l / 65536 % 65536) * 65536+l % 65536=l:=yG1 hl
  rw[d1] at c1
  rw[d2] at c2
  rw[hns]
  show(zT4 _ _ _ _,zT4 _ _ _ _)=_
  rw[c1,c2]
 have sg:∀ ms:List Nat,(∀ n∈ms,n < 65536)→∀ c,Txt.sgn c=true→c≠58→c∉Lib.join (ms.map Txt.hexT) [58]:=by
  intro ms hm c hc hd
  refine Txt.not_mem_join hd _ fun p hp=>?_
  obtain⟨m,hmm,rfl⟩:=List.mem_map.1 hp
  exact Txt.hexT_sgn (hm m hmm) hc
 have parse:∀ s:List UInt8,s.length≤1000→(58:UInt8)∈s→zT5 ⟨⟨s⟩⟩=some (6,(zFb (zDh ns)).1,(zFb (zDh ns)).2,true)→addr_Parse.f ⟨⟨s⟩⟩=some (6,(h:Int),(l:Int),true):=by
  intro s hs hm h6
  unfold addr_Parse.f
  have hc:=zMs s 58 hs
  rw[Txt.contains_yes hm] at hc
  have hc':strings_Contains.f ⟨⟨s⟩⟩ { data:=#[58] }=some true:=hc
  unfold addr_six.f
  rw[hc',Option.bind_some,if_pos rfl,h6,hc8];rfl
 have hpr:∀ s,((zGe (zDh ns) ()).bind fun ij=>pr6 (zDh ns) ij)=some s→prF 6 (h:Int) (l:Int)=some s:=by
  intro s hs
  unfold prF okF
  rw[if_pos rfl,Option.bind_some,if_pos rfl,if_neg (by decide),hg]
  exact hs
 obtain⟨f,t,hz,hm,hP⟩:=zVn (l:=zDh ns) (by rw[zI3,G.len])
 rcases hP with⟨rfl,rfl⟩|⟨hft,ht,hzz⟩
 ·have hlen:=zBy (ns:=ns) (by rw[G.len];omega)
  have htx:=zJs G.lt (by rw[G.len];omega)
  refine⟨Lib.join (ns.map Txt.hexT) [58],⟨by omega,zT6 (by intro e;have:=G.len;rw[e] at this;simp at this),sg ns G.lt 47 (by decide) (by decide),sg ns G.lt 45 (by decide) (by decide)⟩,hpr _ ?_,parse _ (by omega) ?_ (yBf G)⟩
  ·rw[hz,Option.bind_some]
   unfold pr6
   rw[if_pos (show((((0:Nat):Int),((0:Nat):Int)):Int×Int)=(0,0) from rfl)]
   exact htx
  ·rw[hns,List.map_cons,List.map_cons,Txt.join_more]
   simp
 ·have lf:(ns.take f).length≤8:=by rw[List.length_take,G.len];omega
  have lt:(ns.drop t).length≤8:=by rw[List.length_drop,G.len];omega
  have gf:∀ n∈ns.take f,n < 65536:=fun n hn=>G.lt n (List.mem_of_mem_take hn)
  have gt:∀ n∈ns.drop t,n < 65536:=fun n hn=>G.lt n (List.mem_of_mem_drop hn)
  have l1:=zBy lf
  have l2:=zBy lt
  have t1:=zJs gf lf
  have t2:=zJs gt lt
  have hs:∀ c,Txt.sgn c=true→c≠58→c∉Lib.join ((ns.take f).map Txt.hexT) [58]++58::58::Lib.join ((ns.drop t).map Txt.hexT) [58]:=by
   intro c hc hd
   simp only[List.mem_append,List.mem_cons,not_or]
   exact⟨sg _ gf c hc hd,hd,hd,sg _ gt c hc hd⟩
  refine⟨Lib.join ((ns.take f).map Txt.hexT) [58]++58::58::Lib.join ((ns.drop t).map Txt.hexT) [58],⟨by simp only[List.length_append,List.length_cons];omega,by simp,hs 47 (by decide) (by decide),hs 45 (by decide) (by decide)⟩,hpr _ ?_,parse _ (by simp only[List.length_append,List.length_cons];omega) (by simp) (yK3 G hft ht hzz)⟩
  rw[hz,Option.bind_some]
  unfold pr6
  rw[if_neg (by intro e;have:=congrArg Prod.snd e;simp only at this;omega),if_pos hm]
  simp only[Int.toNat_natCast]
  have e1:(zDh ns).take f=(ns.take f).map fun(n:Nat)=>(n:Int):=(List.map_take ..).symm
  have e2:(zDh ns).drop t=(ns.drop t).map fun(n:Nat)=>(n:Int):=(List.map_drop ..).symm
  rw[e1,e2,t1,Option.bind_some,t2,Option.bind_some,if_pos (by rw[zFa,zFa];omega),yG0]
theorem zOk (sep:ByteArray):∀ (k:Nat) (s p:ByteArray),p∈Lib.splitB sep 0 k s→p.size≤s.size
 |0,s,p,h=>by
  rw[Lib.splitB_zero] at h
  rw[List.mem_singleton.1 h]
  exact Nat.le_refl _
 |k+1,s,p,h=>by
  unfold Lib.splitB at h
  split at h
  ·rw[List.mem_singleton.1 h]
   exact Nat.le_refl _
  ·rcases List.mem_cons.1 h with rfl|h
   ·rw[ByteArray.size_extract];omega
   ·have:=zOk sep k _ p h
    rw[ByteArray.size_extract] at this;omega
theorem zEn {s sep:ByteArray}(hs:s.size≤400)(hp:1≤sep.size):∃ l:List ByteArray,strings_Split.f s sep=some l∧1≤l.length∧l.length≤s.size+1∧∀ p∈l,p.size≤s.size:=by
 have hl:=Lib.splitB_all sep hp 0 (Lib.countB s sep) s rfl
 have hc:=Lib.countB_le sep hp s.size s (Nat.le_refl _)
 exact⟨_,if_pos ⟨by omega,hp⟩,by omega,by omega,fun p h=>zOk sep _ s p h⟩
theorem zI4 (m:Int):∀ (l:List UInt8) (n:Int),∃ r,zSx m n l=some r
 |[],n=>by unfold zSx;split<;>exact⟨_,rfl⟩
 |c::t,n=>by
  unfold zSx
  repeat' first
   |exact⟨_,rfl⟩
   |exact zI4 m t _
   |split
theorem zMt (s:ByteArray):∃ r,zKd s 255=some r:=by
 unfold zKd
 rw[if_pos (by omega)]
 split
 ·exact⟨_,rfl⟩
 ·split
  ·split
   ·exact zI4 _ _ _
   ·exact⟨_,rfl⟩
  ·exact zI4 _ _ _
theorem zVr:∀ (l:List UInt8) (n:Int),∃ r,zMq n l=some r
 |[],n=>⟨_,rfl⟩
 |c::t,n=>by
  unfold zMq yM3
  rw[Option.bind_some]
  split
  ·exact⟨_,rfl⟩
  ·split
   ·exact⟨_,rfl⟩
   ·exact zVr t _
theorem zT7 (s:ByteArray):∃ r,zPz s=some r:=by
 unfold zPz
 split
 ·exact⟨_,rfl⟩
 ·exact zVr _ _
theorem yE5 (m:Int):∃ b:Nat,b < 256∧Go.bits .and .u64 m 255=(b:Int):=by
 refine⟨(BitVec.ofInt 64 m &&& BitVec.ofInt 64 255).toNat,?_,?_⟩
 ·rw[BitVec.toNat_and]
  have:(BitVec.ofInt 64 255).toNat=255:=by decide
  rw[this]
  exact Nat.lt_of_le_of_lt Nat.and_le_right (by decide)
 ·exact Go.Det.wrapU ⟨by omega,by have:=(BitVec.ofInt 64 m &&& BitVec.ofInt 64 255).isLt;simp only[IntKind.bits];omega⟩
theorem zXu (op:BinOp)(x y:Int):∃ n:Nat,n < 18446744073709551616∧Go.bits op .u64 x y=(n:Int):=by
 have h:∀ v:Int,∃ n:Nat,n < 18446744073709551616∧IntKind.u64.wrap v=(n:Int):=fun v=>by
  rw[IntKind.wrap_u64]
  exact⟨(v % 18446744073709551616).toNat,by omega,by omega⟩
 unfold Go.bits
 exact h _
theorem yE6 (x y:Int):∃ n:Nat,n < 18446744073709551616∧orI .u64 x y=(n:Int):=by
 have h:∀ v:Int,∃ n:Nat,n < 18446744073709551616∧IntKind.u64.wrap v=(n:Int):=fun v=>by
  rw[IntKind.wrap_u64]
  exact⟨(v % 18446744073709551616).toNat,by omega,by omega⟩
 unfold orI
 exact h _
theorem yOu {x b:Nat}(hx:x < 16777216)(hb:b < 256):Go.bits .or .u64 (IntKind.u64.wrap ((x:Int) * 256)) (b:Int)=((x * 256+b:Nat):Int):=by
 have e2:IntKind.u64.wrap ((x:Int) * 256)=((x * 2 ^ 8:Nat):Int):=by rw[Go.Det.wrapU ⟨by omega,by omega⟩];omega
 rw[e2]
 exact zPy (s:=8) (by omega) (by omega)
theorem zT8 {xs:List ByteArray}(hx:xs.length≤1000):∀ (d i k:Nat) (n:Int),i+d=xs.length→d+1≤k→(xs.length=4→∃ x:Nat,n=(x:Int)∧x < 256 ^ i)→
  ∃ r:Int×Bool,addr_four.l0 k xs n xs (xs.length:Int) (i:Int)=some r∧(r.2=true→∃ x:Nat,r.1=(x:Int)∧x < 4294967296):=by
 intro d
 induction d with
 |zero=>
  intro i k n hi hk hn
  obtain⟨k,rfl⟩:∃ j,k=j+1:=⟨k - 1,by omega⟩
  unfold addr_four.l0
  rw[if_neg (by omega)]
  refine⟨_,rfl,fun h=>?_⟩
  have h4:xs.length=4:=by have:=beq_iff_eq.1 h;omega
  obtain⟨x,hx1,hx2⟩:=hn h4
  refine⟨x,hx1,?_⟩
  have:i=4:=by omega
  subst this
  exact hx2
 |succ d ih=>
  intro i k n hi hk hn
  obtain⟨k,rfl⟩:∃ j,k=j+1:=⟨k - 1,by omega⟩
  unfold addr_four.l0
  rw[if_pos (by omega),if_pos (by omega),if_pos (by omega)]
  obtain⟨r,hr⟩:=zMt (zB5 ByteArray.empty xs (i:Int))
  have hr':date_Num.f (zB5 ByteArray.empty xs (i:Int)) 255=some r:=hr
  rw[hr',Option.bind_some]
  split
  ·rw[w64 (by omega) (by omega),show((i:Int)+1)=((i+1:Nat):Int) by omega]
   refine ih (i+1) k _ (by omega) (by omega) fun h4=>?_
   obtain⟨x,rfl,hx2⟩:=hn h4
   obtain⟨b,hb,eb⟩:=yE5 r.1
   have hi4:i=0∨i=1∨i=2∨i=3:=by omega
   refine⟨x * 256+b,?_,?_⟩
   ·rw[eb]
    refine yOu ?_ hb
    rcases hi4 with rfl|rfl|rfl|rfl<;>omega
   ·rcases hi4 with rfl|rfl|rfl|rfl<;>omega
  ·exact⟨_,rfl,fun h=>by cases h⟩
theorem zVs {s:ByteArray}(hs:s.size≤400){k:Nat}(hk:402≤k):∃ r:Int×Bool,addr_four.f k s=some r∧(r.2=true→∃ x:Nat,r.1=(x:Int)∧x < 4294967296):=by
 obtain⟨l,e,h1,h2,_⟩:=zEn (s:=s) (sep:=⟨#[46]⟩) hs (by decide)
 unfold addr_four.f
 rw[e,Option.bind_some]
 exact zT8 (by omega) l.length 0 k 0 (by omega) (by omega) fun _=>⟨0,rfl,by decide⟩
theorem zXv {xs:List ByteArray}(hx:xs.length≤300)(hp:∀ p∈xs,p.size≤200)(last:Bool):∀ (d i k:Nat) (acc:List Int),i+d=xs.length→d+d+404≤k→acc.length≤i→
  ∃ r,addr_row.l0 k last acc xs xs (xs.length:Int) (i:Int)=some r:=by
 intro d
 induction d with
 |zero=>
  intro i k acc hi hk ha
  obtain⟨k,rfl⟩:∃ j,k=j+1:=⟨k - 1,by omega⟩
  unfold addr_row.l0
  rw[if_neg (by omega)]
  exact⟨_,rfl⟩
 |succ d ih=>
  intro i k acc hi hk ha
  obtain⟨k,rfl⟩:∃ j,k=j+2:=⟨k - 2,by omega⟩
  have hlt:i < xs.length:=by omega
  have hp1:(zB5 ByteArray.empty xs (i:Int)).size≤200:=by
   unfold zB5
   rw[Int.toNat_natCast,List.getD_eq_getElem?_getD,List.getElem?_eq_getElem hlt]
   exact hp _ (List.getElem_mem hlt)
  have ej:∀ b,∃ r,addr_row.j1 (k+1) last acc xs (zB5 ByteArray.empty xs (i:Int)) xs (xs.length:Int) (i:Int) b=some r:=by
   intro b
   unfold addr_row.j1
   split
   ·obtain⟨r,hr,_⟩:=zVs (s:=zB5 ByteArray.empty xs (i:Int)) (by omega) (k:=k) (by omega)
    rw[hr,Option.bind_some,Option.bind_some,if_pos (by simp only[List.length_cons,List.length_nil];omega)]
    exact⟨_,rfl⟩
   ·obtain⟨r,hr⟩:=zT7 (zB5 ByteArray.empty xs (i:Int))
    have hr':addr_hex.f (zB5 ByteArray.empty xs (i:Int))=some r:=hr
    rw[hr',Option.bind_some]
    split
    ·rw[if_pos (by omega),w64 (by omega) (by omega),show((i:Int)+1)=((i+1:Nat):Int) by omega]
     exact ih (i+1) k _ (by omega) (by omega) (by rw[List.length_append,List.length_singleton];omega)
    ·exact⟨_,rfl⟩
  unfold addr_row.l0
  rw[if_pos (by omega),if_pos (by omega),if_pos (by omega)]
  split
  ·split
   ·unfold strings_Contains.f
    rw[if_pos (by omega),Option.bind_some]
    exact ej _
   ·exact ej _
  ·exact ej _
theorem zT9 {s:ByteArray}(hs:s.size≤200)(last:Bool):∃ r,zBg (s,last)=some r:=by
 unfold zBg addr_row.f
 split
 ·exact⟨_,rfl⟩
 ·obtain⟨l,e,h1,h2,h3⟩:=zEn (s:=s) (sep:=⟨#[58]⟩) (by omega) (by decide)
  rw[e,Option.bind_some]
  exact zXv (by omega) (fun p h=>Nat.le_trans (h3 p h) hs) last l.length 0 1000 [] (by omega) (by omega) (by simp)
theorem yK4 {s:ByteArray}(hs:s.size≤200):∃ c,zC2 s { data:=#[58,58] }=some c∧c.1.size≤200∧c.2.1.size≤200:=by
 refine⟨_,if_pos (by omega),?_,?_⟩
 ·unfold zSw Lib.cut
  split
  ·show(List.toArray _).size≤200
   have:s.data.toList.length=s.size:=rfl
   rw[List.size_toArray,List.length_take];omega
  ·exact hs
 ·unfold zSw Lib.cut
  split
  ·show(List.toArray _).size≤200
   have:s.data.toList.length=s.size:=rfl
   rw[List.size_toArray,List.length_drop];omega
  ·exact Nat.zero_le _
theorem zMu (a b c d:Int):∃ n:Nat,n < 18446744073709551616∧zT4 a b c d=(n:Int):=yE6 _ _
theorem zUa (l:List Int):∃ m n:Nat,m < 18446744073709551616∧n < 18446744073709551616∧zFb l=((m:Int),(n:Int)):=by
 unfold zFb
 split
 ·obtain⟨m,h1,e1⟩:=zMu _ _ _ _
  obtain⟨n,h2,e2⟩:=zMu _ _ _ _
  exact⟨m,n,h1,h2,by rw[e1,e2]⟩
 ·exact⟨0,0,by decide,by decide,rfl⟩
def zVt (r:Int×Int×Int×Bool):Prop:=(∃ V B q,Kd' V B∧q < 2 ^ B∧r=(V,H q,L q,true))∨r=(0,0,0,false)
theorem yBg {s:ByteArray}(hs:s.size≤200):∃ r,zT5 s=some r∧zVt r:=by
 obtain⟨c,hc,h1,h2⟩:=yK4 hs
 obtain⟨a,ha⟩:=zT9 h1 (!c.2.2)
 obtain⟨b,hb⟩:=zT9 h2 true
 unfold zT5
 rw[hc,Option.bind_some,ha,Option.bind_some,hb,Option.bind_some]
 split
 ·exact⟨_,rfl,Or.inr rfl⟩
 ·refine⟨_,rfl,Or.inl ?_⟩
  obtain⟨m,n,hm,hn,e⟩:=zUa (a.1++List.replicate (8 - (a.1.length+b.1.length)) 0++b.1)
  rw[e]
  have hM:M64=18446744073709551616:=rfl
  refine⟨6,128,m * 18446744073709551616+n,Or.inr ⟨rfl,rfl⟩,by omega,?_⟩
  have e1:H (m * 18446744073709551616+n)=(m:Int):=by unfold H;rw[hM];omega
  have e2:L (m * 18446744073709551616+n)=(n:Int):=by unfold L;rw[hM];omega
  rw[e1,e2]
theorem yBh {s:ByteArray}(hs:s.size≤200):∃ r,PRD.addr_Parse.f s=some r∧zVt r:=by
 unfold PRD.addr_Parse.f strings_Contains.f
 rw[if_pos (by omega),Option.bind_some]
 split
 ·obtain⟨r,hr,ha⟩:=yBg hs
  have hr':addr_six.f s=some r:=hr
  rw[hr',Option.bind_some]
  exact⟨_,rfl,ha⟩
 ·obtain⟨r,hr,ha⟩:=zVs (s:=s) (by omega) (k:=1000) (by omega)
  rw[hr,Option.bind_some]
  split
  ·rename_i h
   obtain⟨x,hx,hx2⟩:=ha h
   refine⟨_,rfl,Or.inl ⟨4,32,x,Or.inl ⟨rfl,rfl⟩,hx2,?_⟩⟩
   have hM:M64=18446744073709551616:=rfl
   have e1:H x=0:=by unfold H;rw[hM];omega
   have e2:L x=(x:Int):=by unfold L;rw[hM];omega
   rw[e1,e2,hx]
  ·exact⟨_,rfl,Or.inr rfl⟩
end Go.Proofs.YtfnacgojmdbjmaaGreatDoor
section
end
namespace Go.Proofs.YtfnacgojmdbjmaaGreatDoor
open Go.Det Go.RowKit YtfnacgojmdbjmaaGreatDoorW.PrintWords PPPT
theorem zJt {n:Int}(h0:-100000≤n)(h1:n≤100000):wrap64 n=n:=by unfold wrap64;omega
def spl (c:UInt8):List UInt8→List (List UInt8)
 |[]=>[[]]
 |x::t=>if x=c then[]::spl c t else(match spl c t with|[]=>[[x]]|h::r=>(x::h)::r)
def yOv (p:List UInt8):List (List UInt8)→List (List UInt8)
 |[]=>[p]
 |h::r=>(p++h)::r
theorem zOl (c:UInt8):∀ l,spl c l≠[]
 |[]=>by simp[spl]
 |x::t=>by
  unfold spl
  split
  ·simp
  ·split<;>simp
theorem yG2 (c:UInt8):∀ l,∀ p∈spl c l,c∉p
 |[],p,h=>by
  rw[spl,List.mem_singleton] at h
  subst h;simp
 |x::t,p,h=>by
  have ih:=yG2 c t
  unfold spl at h
  split at h
  ·rcases List.mem_cons.1 h with rfl|h
   ·simp
   ·exact ih p h
  ·rename_i hx
   split at h
   ·rename_i e
    exact absurd e (zOl c t)
   ·rename_i h0 r e
    rw[e] at ih
    rcases List.mem_cons.1 h with rfl|h
    ·have:=ih h0 (by simp)
     simp only[List.mem_cons,not_or]
     exact⟨fun q=>hx q.symm,this⟩
    ·exact ih p (by simp[h])
theorem zI5 (c:UInt8):∀ l,Lib.join (spl c l) [c]=l
 |[]=>by rw[spl];rfl
 |x::t=>by
  have ih:=zI5 c t
  have hn:=zOl c t
  unfold spl
  split
  ·rename_i hx
   cases e:spl c t with
   |nil=>exact absurd e hn
   |cons h r=>rw[Txt.join_more,← e,ih,hx];rfl
  ·split
   ·rename_i e
    exact absurd e hn
   ·rename_i h r e
    rw[e] at ih
    cases r with
    |nil=>
     rw[Lib.join_cons] at ih ⊢
     simpa using congrArg (x::·) ih
    |cons q r=>
     rw[Txt.join_more] at ih ⊢
     simpa using congrArg (x::·) ih
def mkB (p:List UInt8):ByteArray:=⟨p.toArray⟩
theorem zOm {a b:ByteArray}(h:a.data.toList=b.data.toList):a=b:=by
 cases a;cases b
 congr 1
 exact Array.toList_inj.1 h
theorem zXw (c:UInt8)(s:ByteArray):Lib.splitB ⟨#[c]⟩ 0 (Lib.countB s ⟨#[c]⟩) s=(spl c s.data.toList).map mkB:=by
 have h:=Txt.splitB_join (c:=c) (spl c s.data.toList) (zOl c _) (yG2 c _)
 rw[zI5] at h
 exact h
theorem zVu {ps:List (List UInt8)}(h:ps≠[]):yOv [] ps=ps:=by
 cases ps with
 |nil=>exact absurd rfl h
 |cons p r=>rfl
theorem zEb (s:ByteArray)(a b:Nat):s.extract a b=mkB ((s.data.toList.take b).drop a):=by
 refine zOm ?_
 rw[Lib.extract_data]
 simp[mkB,List.drop_take]
theorem zHx {s:ByteArray}{i:Nat}{x:UInt8}(h:s.data.toList[i]?=some x):bt s (i:Int)=(x.toNat:Int):=by
 obtain⟨h1,h2⟩:=List.getElem?_eq_some_iff.1 h
 unfold bt
 have h3:i < s.size:=h1
 rw[Int.toNat_natCast,dif_pos h3]
 subst h2
 rfl
theorem yBi {s:ByteArray}{c:UInt8}(hs:s.size≤1000):∀ (d i from_ k:Nat) (out:List ByteArray),i+d=s.size→from_≤i→d+2≤k→out.length+d≤2000→
  gleberef1_Split.l0 k s (c.toNat:Int) out (from_:Int) (i:Int)=some (out++(yOv ((s.data.toList.take i).drop from_) (spl c (s.data.toList.drop i))).map mkB):=by
 have hl:s.data.toList.length=s.size:=rfl
 intro d
 induction d with
 |zero=>
  intro i from_ k out hi hf hk ho
  obtain⟨k,rfl⟩:∃ j,k=j+2:=⟨k - 2,by omega⟩
  unfold gleberef1_Split.l0
  rw[if_pos (by omega),if_pos (by omega),if_pos (by omega),if_pos (by omega),if_pos (by omega),zJt (by omega) (by omega)]
  unfold gleberef1_Split.l0
  rw[if_neg (by omega),show s.data.toList.drop i=[] from List.drop_eq_nil_of_le (by omega),zEb,Int.toNat_natCast,Int.toNat_natCast]
  simp[spl,yOv]
 |succ d ih=>
  intro i from_ k out hi hf hk ho
  obtain⟨k,rfl⟩:∃ j,k=j+1:=⟨k - 1,by omega⟩
  have hlt:i < s.data.toList.length:=by omega
  have hx:=List.getElem?_eq_getElem hlt
  obtain⟨x,ex⟩:∃ x,x=s.data.toList[i]:=⟨_,rfl⟩
  rw[← ex] at hx
  have hd:s.data.toList.drop i=x::s.data.toList.drop (i+1):=by rw[ex];exact List.drop_eq_getElem_cons hlt
  have ht:s.data.toList.take (i+1)=s.data.toList.take i++[x]:=by rw[List.take_add_one,hx];rfl
  unfold gleberef1_Split.l0
  rw[if_pos (by omega),if_neg (by omega),if_pos (by omega),if_pos (by omega),zHx hx,zJt (by omega) (by omega),show((i:Int)+1)=((i+1:Nat):Int) by omega,hd,spl]
  by_cases hc:x=c
  ·rw[if_pos (by rw[hc]),if_pos (by omega),if_pos (by omega),if_pos (by omega),ih (i+1) (i+1) k _ (by omega) (by omega) (by omega) (by rw[List.length_append,List.length_singleton];omega),
    if_pos hc,show(s.data.toList.take (i+1)).drop (i+1)=[] from List.drop_eq_nil_of_le (by rw[List.length_take];omega),zVu (zOl c _),zEb,Int.toNat_natCast,Int.toNat_natCast]
   simp[yOv]
  ·rw[if_neg (fun q=>hc (UInt8.toNat_inj.1 (by omega))),if_neg hc,ih (i+1) from_ k out (by omega) (by omega) (by omega) (by omega),ht]
   cases e:spl c (s.data.toList.drop (i+1)) with
   |nil=>exact absurd e (zOl c _)
   |cons h r=>
    have hle:from_≤(s.data.toList.take i).length:=by rw[List.length_take];omega
    rw[List.drop_append_of_le_length hle]
    simp[yOv]
theorem zSk {s:ByteArray}{c:UInt8}(hs:s.size≤1000){k:Nat}(hk:1002≤k):gleberef1_Split.f k s (c.toNat:Int)=some ((spl c s.data.toList).map mkB):=by
 unfold gleberef1_Split.f
 have h:=yBi (c:=c) hs s.size 0 0 k [] (by omega) (by omega) (by omega) (by simp;omega)
 rw[show((0:Nat):Int)=0 from rfl] at h
 rw[h]
 simp[zVu (zOl c _)]
def yC6 (x:Int):Int:=if 48≤x∧x≤57 then x - 48 else if 97≤x∧x≤102 then x - 87 else if 65≤x∧x≤70 then x - 55 else -1
theorem yK5 {x:Int}(h0:0≤x)(h1:x < 256){k:Nat}(hk:2≤k):gleberef1_Hex.f k x=some (yC6 x):=by
 obtain⟨k,rfl⟩:∃ j,k=j+2:=⟨k - 2,by omega⟩
 have j1:∀ (b:Bool),(b=true↔97≤x∧x≤102)→¬ (48≤x∧x≤57)→gleberef1_Hex.j1 (k+1) x b=some (yC6 x):=by
  intro b hb h4
  unfold gleberef1_Hex.j1 yC6
  dsimp only
  rw[if_neg h4]
  by_cases h6:97≤x∧x≤102
  ·rw[if_pos (hb.2 h6),if_pos h6]
   congr 1;omega
  ·rw[if_neg (fun q=>h6 (hb.1 q)),if_neg h6]
   by_cases h7:x ≥ 65
   ·rw[if_pos h7]
    by_cases h8:x≤70
    ·rw[if_pos h8,if_pos ⟨h7,h8⟩]
     congr 1;omega
    ·rw[if_neg h8,if_neg (fun q=>h8 q.2)]
   ·rw[if_neg h7,if_neg (fun q=>h7 q.1)]
 have j0:∀ (b:Bool),(b=true↔48≤x∧x≤57)→gleberef1_Hex.j0 (k+2) x b=some (yC6 x):=by
  intro b hb
  unfold gleberef1_Hex.j0
  dsimp only
  by_cases h4:48≤x∧x≤57
  ·rw[if_pos (hb.2 h4)]
   unfold yC6
   rw[if_pos h4]
   congr 1;omega
  ·rw[if_neg (fun q=>h4 (hb.1 q))]
   by_cases h6:x ≥ 97
   ·rw[if_pos h6]
    exact j1 _ (by rw[decide_eq_true_iff];omega) h4
   ·rw[if_neg h6]
    exact j1 _ ⟨fun q=>(by cases q),fun q=>absurd q.1 h6⟩ h4
 unfold gleberef1_Hex.f
 by_cases h4:x ≥ 48
 ·rw[if_pos h4]
  exact j0 _ (by rw[decide_eq_true_iff];omega)
 ·rw[if_neg h4]
  exact j0 _ ⟨fun q=>(by cases q),fun q=>absurd q.1 h4⟩
def yM4 (c:UInt8):Int:=Lib.indexByte dig16.data.toList (orI .u8 (c.toNat:Int) 32).toNat.toUInt8
theorem yE7:∀ n:Fin 256,(if yM4 (UInt8.ofFin n) < 0 then -1 else if((UInt8.ofFin n).toNat:Int) < 48 then -1 else yM4 (UInt8.ofFin n))=yC6 ((UInt8.ofFin n).toNat:Int):=by decide +kernel
theorem yK6 (c:UInt8):(if yM4 c < 0 then -1 else if(c.toNat:Int) < 48 then -1 else yM4 c)=yC6 (c.toNat:Int):=yE7 c.toFin
theorem yE8 (c:UInt8):yM3 dig16 (orI .u8 (c.toNat:Int) 32)=some (yM4 c):=rfl
theorem zSl (n:Int)(c:UInt8)(t:List UInt8):zMq n (c::t)=if yC6 (c.toNat:Int) < 0 then some (0,false) else zMq (orI .u64 (zD3 .u64 n 4) (IntKind.wrap .u64 (yC6 (c.toNat:Int)))) t:=by
 rw[zMq,yE8,Option.bind_some]
 have h:=yK6 c
 by_cases h1:yM4 c < 0
 ·rw[if_pos h1] at h
  rw[if_pos h1,← h,if_pos (by decide)]
 ·rw[if_neg h1] at h
  rw[if_neg h1]
  by_cases h2:(c.toNat:Int) < 48
  ·rw[if_pos h2] at h
   rw[if_pos h2,← h,if_pos (by decide)]
  ·rw[if_neg h2] at h
   rw[if_neg h2,h,if_neg (by omega)]
theorem yE9 {last:Bool}{out:List Int}{xs:List ByteArray}{i:Nat}{p:ByteArray}(hi:i < xs.length)(hp:zB5 ByteArray.empty xs (i:Int)=p)(hs:p.size≤1000)(ho:out.length < 17592186044416)(hx:xs.length≤2000):
  ∀ (d j k:Nat) (n:Int),j+d=p.size→2≤k→
   gleberef1_groups.l1 (k+d+1) last out xs (i:Int) n (j:Int)=(match zMq n (p.data.toList.drop j) with
    |some (m,true)=>gleberef1_groups.l0 k last (out++[m]) xs ((i+1:Nat):Int)
    |some (_,false)=>some ([],false)
    |none=>none):=by
 have hl:p.data.toList.length=p.size:=rfl
 intro d
 induction d with
 |zero=>
  intro j k n hj hk
  unfold gleberef1_groups.l1
  rw[if_pos (by omega),if_pos (by omega),hp,if_neg (by omega),if_pos ho,zJt (by omega) (by omega),show p.data.toList.drop j=[] from List.drop_eq_nil_of_le (by omega),show((i:Int)+1)=((i+1:Nat):Int) by omega]
  rfl
 |succ d ih=>
  intro j k n hj hk
  have hlt:j < p.data.toList.length:=by omega
  have hx:=List.getElem?_eq_getElem hlt
  obtain⟨x,ex⟩:∃ x,x=p.data.toList[j]:=⟨_,rfl⟩
  rw[← ex] at hx
  have hd:p.data.toList.drop j=x::p.data.toList.drop (j+1):=by rw[ex];exact List.drop_eq_getElem_cons hlt
  have hb:x.toNat < 256:=x.toNat_lt
  rw[show k+(d+1)+1=(k+d+1)+1 by omega]
  unfold gleberef1_groups.l1
  rw[if_pos (by omega),if_pos (by omega),hp,if_pos (by omega),if_pos (by omega),zHx hx,yK5 (by omega) (by omega) (by omega),Option.bind_some,hd,zSl]
  by_cases h:yC6 (x.toNat:Int) < 0
  ·rw[if_pos h,if_pos h]
  ·rw[if_neg h,if_neg h,zJt (by omega) (by omega),show((j:Int)+1)=((j+1:Nat):Int) by omega]
   exact ih (j+1) k _ (by omega) hk
def zSy (m:Nat):Nat→List UInt8→Option (Int×Bool)
 |n,[]=>some ((n:Int),true)
 |n,c::t=>if 48≤c.toNat∧c.toNat≤57∧10 * n+(c.toNat - 48)≤m then zSy m (10 * n+(c.toNat - 48)) t else some (0,false)
theorem yFa {m:Nat}(hm:m≤255):∀ (l:List UInt8) (n:Int),(m:Int) < n→zSx m n l=some (0,false)
 |[],n,h=>by unfold zSx;rw[if_pos h]
 |c::t,n,h=>by
  unfold zSx
  split
  ·rfl
  ·split
   ·rfl
   ·have e:IntKind.u64.wrap (Int.tdiv (m:Int) 10)=((m / 10:Nat):Int):=by
     rw[show Int.tdiv (m:Int) 10=((m / 10:Nat):Int) from rfl]
     exact Go.Det.wrapU ⟨by omega,by omega⟩
    rw[e,if_pos (by omega)]
theorem zCt {m:Nat}(hm:m≤255):∀ (l:List UInt8) (n:Nat),n≤m→zSx m (n:Int) l=zSy m n l
 |[],n,h=>by unfold zSx zSy;rw[if_neg (by omega)]
 |c::t,n,h=>by
  unfold zSx zSy
  have hc:c.toNat < 256:=c.toNat_lt
  by_cases h1:(c.toNat:Int) < 48
  ·rw[if_pos h1,if_neg (by omega)]
  ·rw[if_neg h1]
   by_cases h2:57 < (c.toNat:Int)
   ·rw[if_pos h2,if_neg (by omega)]
   ·rw[if_neg h2,xd c h1 h2]
    obtain⟨d,hd⟩:∃ d:Nat,d=c.toNat - 48:=⟨_,rfl⟩
    rw[show(c.toNat:Int) - 48=(d:Int) by omega,← hd]
    have e1:IntKind.u64.wrap (Int.tdiv (m:Int) 10)=((m / 10:Nat):Int):=by
     rw[show Int.tdiv (m:Int) 10=((m / 10:Nat):Int) from rfl]
     exact Go.Det.wrapU ⟨by omega,by omega⟩
    have e2:IntKind.u64.wrap ((m:Int) - if(m:Int) < (d:Int) then(m:Int) else(d:Int))=((m - min m d:Nat):Int):=by
     split
     ·rw[Go.Det.wrapU ⟨by omega,by omega⟩];omega
     ·rw[Go.Det.wrapU ⟨by omega,by omega⟩];omega
    have e3:IntKind.u64.wrap (10 * (n:Int))=((10 * n:Nat):Int):=by
     rw[Go.Det.wrapU ⟨by omega,by omega⟩];omega
    have e4:IntKind.u64.wrap (((10 * n:Nat):Int)+(d:Int))=((10 * n+d:Nat):Int):=by
     rw[Go.Det.wrapU ⟨by omega,by omega⟩];omega
    rw[e1,e2,e3,e4]
    by_cases h3:10 * n+d≤m
    ·rw[if_neg (by omega),if_neg (by omega),if_pos ⟨by omega,by omega,h3⟩]
     exact zCt hm t _ h3
    ·have hr:(if 48≤c.toNat∧c.toNat≤57∧10 * n+d≤m then zSy m (10 * n+d) t else some (0,false))=some (0,false):=if_neg (fun q=>h3 q.2.2)
     rw[hr]
     split
     ·rfl
     ·split
      ·rfl
      ·exact yFa hm t _ (by omega)
theorem yBj {s:ByteArray}{m k n i:Nat}(hm:m≤255)(hn:n≤m){x:UInt8}(hx:s.data.toList[i]?=some x)(hi:i≤1000)(h1:48≤x.toNat)(h2:x.toNat≤57):
  gleberef1_Num.j1 (k+1) s (m:Int) (n:Int) (i:Int) false=if 10 * n+(x.toNat - 48)≤m then gleberef1_Num.l0 k s (m:Int) ((10 * n+(x.toNat - 48):Nat):Int) ((i+1:Nat):Int) else some (0,false):=by
 have hlt:i < s.data.toList.length:=by
  rcases Nat.lt_or_ge i s.data.toList.length with h|h
  ·exact h
  ·rw[List.getElem?_eq_none h] at hx;cases hx
 have hl:s.data.toList.length=s.size:=rfl
 obtain⟨d,hd⟩:∃ d:Nat,d=x.toNat - 48:=⟨_,rfl⟩
 have ed:((x.toNat:Int) - 48) % 256=(d:Int):=by omega
 have e2:IntKind.u64.wrap ((m:Int) - mn (m:Int) (d:Int))=((m - min m d:Nat):Int):=by
  unfold mn
  split
  ·rw[Go.Det.wrapU ⟨by omega,by omega⟩];omega
  ·rw[Go.Det.wrapU ⟨by omega,by omega⟩];omega
 have e1:IntKind.u64.wrap (Int.tdiv ((m - min m d:Nat):Int) 10)=(((m - min m d) / 10:Nat):Int):=by
  rw[show Int.tdiv ((m - min m d:Nat):Int) 10=(((m - min m d) / 10:Nat):Int) from rfl]
  exact Go.Det.wrapU ⟨by omega,by omega⟩
 have e3:IntKind.u64.wrap (10 * (n:Int))=((10 * n:Nat):Int):=by
  rw[Go.Det.wrapU ⟨by omega,by omega⟩];omega
 have e4:IntKind.u64.wrap (((10 * n:Nat):Int)+(d:Int))=((10 * n+d:Nat):Int):=by
  rw[Go.Det.wrapU ⟨by omega,by omega⟩];omega
 unfold gleberef1_Num.j1
 rw[if_neg (by decide),if_pos (by omega),if_pos (by omega),zHx hx,ed,e2,e1,e3,e4,← hd,zJt (by omega) (by omega),show((i:Int)+1)=((i+1:Nat):Int) by omega]
 by_cases h3:10 * n+d≤m
 ·rw[if_pos h3,if_neg (by omega),if_neg (by omega)]
 ·rw[if_neg h3]
  split
  ·rfl
  ·rw[if_pos (by omega)]
theorem zMv {s:ByteArray}{k:Nat}{m n i:Int}:gleberef1_Num.j1 (k+1) s m n i true=some (0,false):=by
 unfold gleberef1_Num.j1
 rw[if_pos rfl]
theorem yBk {s:ByteArray}{m:Nat}(hm:m≤255)(hs:s.size≤1000)(h0:∀ c t,s.data.toList=c::t→t≠[]→c≠48):∀ (d i k n:Nat),i+d=s.size→1≤s.size→2 * d+1≤k→n≤m→
  gleberef1_Num.l0 k s (m:Int) (n:Int) (i:Int)=zSy m n (s.data.toList.drop i):=by
 have hl:s.data.toList.length=s.size:=rfl
 intro d
 induction d with
 |zero=>
  intro i k n hi hs1 hk hn
  obtain⟨k,rfl⟩:∃ j,k=j+1:=⟨k - 1,by omega⟩
  unfold gleberef1_Num.l0
  rw[if_neg (by omega),show s.data.toList.drop i=[] from List.drop_eq_nil_of_le (by omega),zSy,decide_eq_true (by omega)]
 |succ d ih=>
  intro i k n hi hs1 hk hn
  obtain⟨k,rfl⟩:∃ j,k=j+2:=⟨k - 2,by omega⟩
  have hlt:i < s.data.toList.length:=by omega
  have hx:=List.getElem?_eq_getElem hlt
  obtain⟨x,ex⟩:∃ x,x=s.data.toList[i]:=⟨_,rfl⟩
  rw[← ex] at hx
  have hd:s.data.toList.drop i=x::s.data.toList.drop (i+1):=by rw[ex];exact List.drop_eq_getElem_cons hlt
  have hb:x.toNat < 256:=x.toNat_lt
  unfold gleberef1_Num.l0
  rw[if_pos (by omega),if_pos (by omega),zHx hx,hd,zSy]
  by_cases h1:(x.toNat:Int) < 48
  ·rw[if_pos h1,if_neg (by omega),zMv]
  ·rw[if_neg h1]
   by_cases h2:(x.toNat:Int) > 57
   ·rw[if_pos h2,if_neg (by omega),zMv]
   ·rw[if_neg h2]
    have ej:gleberef1_Num.j1 (k+1) s (m:Int) (n:Int) (i:Int) false=if 48≤x.toNat∧x.toNat≤57∧10 * n+(x.toNat - 48)≤m then zSy m (10 * n+(x.toNat - 48)) (s.data.toList.drop (i+1)) else some (0,false):=by
     rw[yBj hm hn hx (by omega) (by omega) (by omega)]
     by_cases h3:10 * n+(x.toNat - 48)≤m
     ·rw[if_pos h3,if_pos ⟨by omega,by omega,h3⟩]
      exact ih (i+1) k _ (by omega) hs1 (by omega) h3
     ·rw[if_neg h3,if_neg (fun q=>h3 q.2.2)]
    by_cases h3:(i:Int)=1
    ·rw[if_pos h3,if_pos (by omega)]
     have hne:(bt s 0==48)=false:=by
      cases e:s.data.toList with
      |nil=>rw[e,List.length_nil] at hlt;omega
      |cons c t=>
       have hc:=h0 c t e (by intro q;rw[e,q] at hlt;simp at hlt;omega)
       have hb0:=zHx (s:=s) (i:=0) (x:=c) (by rw[e];rfl)
       rw[show((0:Nat):Int)=0 from rfl] at hb0
       rw[hb0]
       refine beq_eq_false_iff_ne.2 fun q=>hc (UInt8.toNat_inj.1 ?_)
       show c.toNat=48
       omega
     rw[hne]
     exact ej
    ·rw[if_neg h3]
     exact ej
theorem yBl {s:ByteArray}{m:Nat}(hm:m≤255)(hs:s.size≤1000){k:Nat}(hk:2002≤k):gleberef1_Num.f k s (m:Int)=zKd s (m:Int):=by
 have hl:s.data.toList.length=s.size:=rfl
 unfold gleberef1_Num.f zKd
 rw[if_pos (by omega)]
 split
 ·rename_i e
  obtain⟨k,rfl⟩:∃ j,k=j+1:=⟨k - 1,by omega⟩
  rw[e,List.length_nil] at hl
  unfold gleberef1_Num.l0
  rw[if_neg (by omega),decide_eq_false (by omega)]
 ·rename_i c t e
  rw[e,List.length_cons] at hl
  by_cases hc:(c.toNat:Int)=48
  ·rw[if_pos hc]
   by_cases ht:t=[]
   ·rw[if_pos ht]
    have h:=yBk (m:=m) hm hs (fun c' t' e' n'=>by rw[e] at e';cases e';exact absurd ht n') s.size 0 k 0 (by omega) (by omega) (by omega) (by omega)
    rw[List.drop_zero,e,ht,show((0:Nat):Int)=0 from rfl] at h
    rw[h]
    exact(zCt hm [c] 0 (by omega)).symm
   ·rw[if_neg ht]
    obtain⟨k,rfl⟩:∃ j,k=j+4:=⟨k - 4,by omega⟩
    have hc48:c=48:=UInt8.toNat_inj.1 (by show c.toNat=48;omega)
    have hb0:=zHx (s:=s) (i:=0) (x:=c) (by rw[e];rfl)
    have ht1:1≤t.length:=by
     cases t with
     |nil=>exact absurd rfl ht
     |cons a b=>simp
    have hj:=yBj (s:=s) (m:=m) (k:=k+2) (n:=0) (i:=0) hm (by omega) (x:=c) (by rw[e];rfl) (by omega) (by omega) (by omega)
    rw[show((0:Nat):Int)=0 from rfl] at hj hb0
    unfold gleberef1_Num.l0
    rw[if_pos (by omega),if_pos (by omega),hb0,if_neg (by omega),if_neg (by omega),if_neg (by decide),hj,if_pos (by omega)]
    unfold gleberef1_Num.l0
    rw[if_pos (by omega),if_pos (by omega),show(((0+1:Nat):Int))=1 from rfl]
    split
    ·exact zMv
    ·split
     ·exact zMv
     ·rw[if_pos rfl,if_pos (by omega),hb0,show((c.toNat:Int)==48)=true from beq_iff_eq.2 hc]
      exact zMv
  ·rw[if_neg hc]
   have h:=yBk (m:=m) hm hs (fun c' t' e' _=>by rw[e] at e';cases e';intro q;exact hc (by rw[q];rfl)) s.size 0 k 0 (by omega) (by omega) (by omega) (by omega)
   rw[List.drop_zero,e,show((0:Nat):Int)=0 from rfl] at h
   rw[h]
   exact(zCt hm (c::t) 0 (by omega)).symm
end Go.Proofs.YtfnacgojmdbjmaaGreatDoor
namespace Go.Proofs.YtfnacgojmdbjmaaGreatDoor
open Go.Det Go.RowKit YtfnacgojmdbjmaaGreatDoorW.PrintWords PPPT PPH
theorem zMw {m:Nat}:∀ (l:List UInt8) (n:Nat) (r:Int),n≤m→zSy m n l=some (r,true)→∃ q:Nat,q≤m∧r=(q:Int)
 |[],n,r,hn,h=>by
  rw[zSy] at h
  cases h
  exact⟨n,hn,rfl⟩
 |c::t,n,r,hn,h=>by
  rw[zSy] at h
  split at h
  ·rename_i q
   exact zMw t _ r q.2.2 h
  ·cases h
theorem yOw {s:ByteArray}{r:Int}(h:zKd s 255=some (r,true)):∃ q:Nat,q≤255∧r=(q:Int):=by
 unfold zKd at h
 rw[if_pos (by omega)] at h
 split at h
 ·cases h
 ·rename_i c t e
  split at h
  ·split at h
   ·rw[show(255:Int)=((255:Nat):Int) from rfl,show(0:Int)=((0:Nat):Int) from rfl,zCt (by decide) _ 0 (by decide)] at h
    exact zMw _ _ _ (by decide) h
   ·cases h
  ·rw[show(255:Int)=((255:Nat):Int) from rfl,show(0:Int)=((0:Nat):Int) from rfl,zCt (by decide) _ 0 (by decide)] at h
   exact zMw _ _ _ (by decide) h
theorem yBm {q:Nat}(h:q≤255):Go.bits .and .u64 (q:Int) 255=(q:Int):=by
 have e1:Go.bits .and .u64 (q:Int) 255=((q % 256:Nat):Int):=zH9 (by omega) 8 (by decide)
 rw[e1,Nat.mod_eq_of_lt (by omega)]
theorem yBn {xs:List ByteArray}(h4:xs.length=4)(hp:∀ p∈xs,p.size≤1000):∀ (d i k k':Nat) (n:Int),i+d=4→d+1≤k→d+2010≤k'→
  ∃ r:Int×Bool,addr_four.l0 k xs n xs (xs.length:Int) (i:Int)=some r∧gleberef1_four.l0 k' xs n (i:Int)=some r∧(r.2=false→r=(0,false)):=by
 intro d
 induction d with
 |zero=>
  intro i k k' n hi hk hk'
  obtain⟨k,rfl⟩:∃ j,k=j+1:=⟨k - 1,by omega⟩
  obtain⟨k',rfl⟩:∃ j,k'=j+1:=⟨k' - 1,by omega⟩
  unfold addr_four.l0 gleberef1_four.l0
  rw[if_neg (by omega),if_neg (by omega),h4]
  exact⟨(n,true),rfl,rfl,fun q=>by cases q⟩
 |succ d ih=>
  intro i k k' n hi hk hk'
  obtain⟨k,rfl⟩:∃ j,k=j+1:=⟨k - 1,by omega⟩
  obtain⟨k',rfl⟩:∃ j,k'=j+1:=⟨k' - 1,by omega⟩
  obtain⟨p,ep⟩:∃ p,p=zB5 ByteArray.empty xs (i:Int):=⟨_,rfl⟩
  have hps:p.size≤1000:=by
   rw[ep]
   unfold zB5
   rw[Int.toNat_natCast,List.getD_eq_getElem?_getD,List.getElem?_eq_getElem (by omega)]
   exact hp _ (List.getElem_mem _)
  obtain⟨r,hr⟩:=zMt p
  have h1:date_Num.f p 255=some r:=hr
  have h2:gleberef1_Num.f k' p 255=some r:=(yBl (m:=255) (by decide) hps (by omega)).trans hr
  unfold addr_four.l0 gleberef1_four.l0
  rw[if_pos (by omega),if_pos (by omega),if_pos (by omega),if_pos (by omega),if_pos (by omega),if_pos (by omega),← ep,h1,h2,Option.bind_some,Option.bind_some,zJt (by omega) (by omega),show((i:Int)+1)=((i+1:Nat):Int) by omega]
  by_cases hb:r.2=true
  ·rw[if_pos hb,if_pos hb]
   have hr2:zKd p 255=some (r.1,true):=by rw[hr,← hb]
   obtain⟨q,hq,eq⟩:=yOw hr2
   rw[eq,yBm hq]
   exact ih (i+1) k k' _ (by omega) (by omega) (by omega)
  ·rw[if_neg hb,if_neg hb]
   exact⟨_,rfl,rfl,fun _=>rfl⟩
theorem yK7 {xs:List ByteArray}(h4:xs.length≠4)(hx:xs.length≤1000):∀ (d i k:Nat) (n:Int),i+d=xs.length→d+1≤k→∃ r:Int×Bool,addr_four.l0 k xs n xs (xs.length:Int) (i:Int)=some r∧r.2=false:=by
 intro d
 induction d with
 |zero=>
  intro i k n hi hk
  obtain⟨k,rfl⟩:∃ j,k=j+1:=⟨k - 1,by omega⟩
  unfold addr_four.l0
  rw[if_neg (by omega)]
  exact⟨_,rfl,beq_eq_false_iff_ne.2 (by omega)⟩
 |succ d ih=>
  intro i k n hi hk
  obtain⟨k,rfl⟩:∃ j,k=j+1:=⟨k - 1,by omega⟩
  unfold addr_four.l0
  rw[if_pos (by omega),if_pos (by omega),if_pos (by omega)]
  obtain⟨r,hr⟩:=zMt (zB5 ByteArray.empty xs (i:Int))
  have hr':date_Num.f (zB5 ByteArray.empty xs (i:Int)) 255=some r:=hr
  rw[hr',Option.bind_some]
  split
  ·rw[zJt (by omega) (by omega),show((i:Int)+1)=((i+1:Nat):Int) by omega]
   exact ih (i+1) k _ (by omega) (by omega)
  ·exact⟨_,rfl,rfl⟩
theorem zFn {s:ByteArray}(c:UInt8)(hs:s.size≤400):strings_Split.f s ⟨#[c]⟩=some ((spl c s.data.toList).map mkB):=by
 unfold strings_Split.f
 rw[if_pos ⟨by omega,Nat.le_refl 1⟩,zXw]
theorem yBo {s:ByteArray}(hs:s.size≤400){k k':Nat}(hk:402≤k)(hk':3000≤k'):
  ∃ r r':Int×Bool,addr_four.f k s=some r∧gleberef1_four.f k' s=some r'∧r'.2=r.2∧(r.2=true→r'=r)∧(r'.2=false→r'=(0,false))∧(r.2=true→(spl 46 s.data.toList).length=4):=by
 obtain⟨l,e,h1,h2,h3⟩:=zEn (s:=s) (sep:=⟨#[46]⟩) hs (by decide)
 have e2:=zFn 46 hs
 have el:l=(spl 46 s.data.toList).map mkB:=Option.some.inj (e.symm.trans e2)
 have e3:gleberef1_Split.f k' s 46=some l:=by rw[el];exact zSk (c:=46) (by omega) (by omega)
 have hlen:(spl 46 s.data.toList).length=l.length:=by rw[el,List.length_map]
 unfold addr_four.f gleberef1_four.f
 rw[e,e3,Option.bind_some,Option.bind_some]
 by_cases h4:l.length=4
 ·rw[if_pos (by omega)]
  obtain⟨r,a1,a2,a3⟩:=yBn h4 (fun p h=>Nat.le_trans (h3 p h) (by omega)) 4 0 k k' 0 (by decide) (by omega) (by omega)
  exact⟨r,r,a1,a2,rfl,fun _=>rfl,a3,fun _=>by omega⟩
 ·rw[if_neg (by omega)]
  obtain⟨r,a1,a2⟩:=yK7 h4 (by omega) l.length 0 k 0 (by omega) (by omega)
  exact⟨r,(0,false),a1,rfl,a2.symm,fun q=>(by rw[a2] at q;cases q),fun _=>rfl,fun q=>(by rw[a2] at q;cases q)⟩
theorem zVv:∀ (l:List UInt8) (n:Int),(46:UInt8)∈l→zMq n l=some (0,false)
 |[],_,h=>by simp at h
 |c::t,n,h=>by
  rw[zSl]
  by_cases hc:c=46
  ·subst hc
   rw[if_pos (by decide)]
  ·split
   ·rfl
   ·refine zVv t _ ?_
    rcases List.mem_cons.1 h with q|q
    ·exact absurd q.symm hc
    ·exact q
theorem yFb {p:ByteArray}(h:(46:UInt8)∈p.data.toList):zPz p=some (0,false):=by
 unfold zPz
 split
 ·rfl
 ·exact zVv _ _ h
theorem zUb {c:UInt8}:∀ (l:List UInt8),c∉l→(spl c l).length=1
 |[],_=>rfl
 |x::t,h=>by
  simp only[List.mem_cons,not_or] at h
  have ih:=zUb t h.2
  unfold spl
  rw[if_neg (fun q=>h.1 q.symm)]
  split
  ·rfl
  ·rename_i a r e
   rw[e] at ih
   exact ih
def yPu (r r':List Int×Bool):Prop:=r'.2=r.2∧(r.2=true→r'=r)
theorem yBp (a b:List Int):yPu (a,false) (b,false):=⟨rfl,fun q=>by cases q⟩
theorem zVw {xs:List ByteArray}(hx:xs.length≤300){last:Bool}{acc:List Int}{i k:Nat}{p:ByteArray}(hi:i < xs.length)(ha:acc.length≤1000):
  addr_row.j1 (k+1) last acc xs p xs (xs.length:Int) (i:Int) false=(match zPz p with
   |some (m,true)=>addr_row.l0 k last (acc++[m]) xs xs (xs.length:Int) ((i+1:Nat):Int)
   |some (_,false)=>some ([],false)
   |none=>none):=by
 obtain⟨⟨m,b⟩,hr⟩:=zT7 p
 have hr':addr_hex.f p=some (m,b):=hr
 unfold addr_row.j1
 rw[if_neg (by decide),hr',hr,Option.bind_some]
 cases b with
 |false=>rfl
 |true=>rw[if_pos rfl,if_pos (by omega),zJt (by omega) (by omega),show((i:Int)+1)=((i+1:Nat):Int) by omega]
theorem yBq {xs:List ByteArray}(hx:xs.length≤300){last:Bool}{acc:List Int}{i k:Nat}{p:ByteArray}(hi:i < xs.length)(hp:zB5 ByteArray.empty xs (i:Int)=p)(ha:acc.length≤1000)(n:Int)(hk:20≤k):
  ∃ k',k≤k'+8∧k'≤k∧gleberef1_groups.j1 (k+1) last acc xs (i:Int) n false=(match zPz p with
   |some (m,true)=>gleberef1_groups.l0 k' last (acc++[m]) xs ((i+1:Nat):Int)
   |some (_,false)=>some ([],false)
   |none=>none):=by
 obtain⟨k,rfl⟩:∃ j,k=j+1:=⟨k - 1,by omega⟩
 have hl:p.data.toList.length=p.size:=rfl
 have j2t:gleberef1_groups.j2 (k+1) last acc xs (i:Int) true=some ([],false):=by
  unfold gleberef1_groups.j2
  rw[if_pos rfl]
 by_cases h1:p.size < 1
 ·refine⟨k,by omega,by omega,?_⟩
  unfold gleberef1_groups.j1 zPz
  rw[if_neg (by decide),if_pos (by omega),if_pos (by omega),hp,if_pos (by omega),j2t,if_pos (Or.inl (by omega))]
 ·by_cases h4:4 < p.size
  ·refine⟨k,by omega,by omega,?_⟩
   unfold gleberef1_groups.j1 zPz
   rw[if_neg (by decide),if_pos (by omega),if_pos (by omega),hp,if_neg (by omega),decide_eq_true (by omega),j2t,if_pos (Or.inr (by omega))]
  ·obtain⟨k',hk'⟩:∃ j,k=j+p.size+1:=⟨k - p.size - 1,by omega⟩
   refine⟨k',by omega,by omega,?_⟩
   unfold gleberef1_groups.j1 zPz
   rw[if_neg (by decide),if_pos (by omega),if_pos (by omega),hp,if_neg (by omega),decide_eq_false (by omega),if_neg (by omega)]
   unfold gleberef1_groups.j2
   rw[if_neg (by decide),hk']
   have h:=yE9 (last:=last) (out:=acc) hi hp (by omega) (by omega) (by omega) p.size 0 k' 0 (by omega) (by omega)
   rw[show((0:Nat):Int)=0 from rfl,List.drop_zero] at h
   exact h
theorem yFc {xs:List ByteArray}(hx:xs.length≤300)(hp:∀ p∈xs,p.size≤200)(last:Bool):∀ (d i k k':Nat) (acc:List Int),i+d=xs.length→2 * d+404≤k→12 * d+3100≤k'→acc.length≤i→
  ∃ r r',addr_row.l0 k last acc xs xs (xs.length:Int) (i:Int)=some r∧gleberef1_groups.l0 k' last acc xs (i:Int)=some r'∧yPu r r':=by
 intro d
 induction d with
 |zero=>
  intro i k k' acc hi hk hk' ha
  obtain⟨k,rfl⟩:∃ j,k=j+1:=⟨k - 1,by omega⟩
  obtain⟨k',rfl⟩:∃ j,k'=j+1:=⟨k' - 1,by omega⟩
  unfold addr_row.l0 gleberef1_groups.l0
  rw[if_neg (by omega),if_neg (by omega)]
  exact⟨_,_,rfl,rfl,rfl,fun _=>rfl⟩
 |succ d ih=>
  intro i k k' acc hi hk hk' ha
  obtain⟨k,rfl⟩:∃ j,k=j+2:=⟨k - 2,by omega⟩
  obtain⟨k',rfl⟩:∃ j,k'=j+2:=⟨k' - 2,by omega⟩
  have hlt:i < xs.length:=by omega
  obtain⟨p,ep⟩:∃ p,zB5 ByteArray.empty xs (i:Int)=p:=⟨_,rfl⟩
  have hps:p.size≤200:=by
   rw[← ep]
   unfold zB5
   rw[Int.toNat_natCast,List.getD_eq_getElem?_getD,List.getElem?_eq_getElem (by omega)]
   exact hp _ (List.getElem_mem _)
  obtain⟨r4,r4',f1,f2,f3,f4,f5,f6⟩:=yBo (s:=p) (by omega) (k:=k) (k':=k'+1) (by omega) (by omega)
  have hex:∀ n,∃ r r',addr_row.j1 (k+1) last acc xs p xs (xs.length:Int) (i:Int) false=some r∧gleberef1_groups.j1 (k'+1) last acc xs (i:Int) n false=some r'∧yPu r r':=by
   intro n
   obtain⟨k2,h1,h2,h3⟩:=yBq hx (last:=last) (acc:=acc) hlt ep (by omega) n (k:=k') (by omega)
   rw[zVw hx hlt (by omega),h3]
   obtain⟨⟨m,b⟩,hr⟩:=zT7 p
   rw[hr]
   cases b with
   |false=>exact⟨_,_,rfl,rfl,yBp _ _⟩
   |true=>exact ih (i+1) k k2 (acc++[m]) (by omega) (by omega) (by omega) (by rw[List.length_append,List.length_singleton];omega)
  unfold addr_row.l0 gleberef1_groups.l0
  have c1:(i:Int) < (xs.length:Int):=by omega
  have c2:(0:Int)≤(i:Int):=by omega
  rw[if_pos c1,if_pos c2,if_pos c1,if_pos c1,if_pos c2,ep,f2,Option.bind_some,zJt (by omega) (by omega)]
  by_cases hl:last=true∧(i:Int)=(xs.length:Int) - 1
  ·rw[if_pos hl.1,if_pos hl.2,if_pos hl.1,show((i:Int)==(xs.length:Int) - 1)=true from beq_iff_eq.2 hl.2]
   unfold strings_Contains.f
   rw[if_pos (by omega),Option.bind_some]
   by_cases hd:(46:UInt8)∈p.data.toList
   ·rw[show Lib.contains p.data.toList (ByteArray.data ⟨#[46]⟩).toList=true from Txt.contains_yes hd]
    have ea:addr_row.j1 (k+1) last acc xs p xs (xs.length:Int) (i:Int) true=some (acc++[r4.1 / 65536,Go.bits .and .u64 r4.1 65535],r4.2):=by
     unfold addr_row.j1
     rw[if_pos rfl,f1,Option.bind_some,Option.bind_some,if_pos (by simp only[List.length_cons,List.length_nil];omega)]
    rw[ea]
    by_cases h4:r4.2=true
    ·rw[if_pos (f3.trans h4),f4 h4]
     obtain⟨k',rfl⟩:∃ j,k'=j+1:=⟨k' - 1,by omega⟩
     unfold gleberef1_groups.j1
     rw[if_pos rfl,Option.bind_some,if_pos (by simp only[List.length_cons,List.length_nil];omega),zJt (by omega) (by omega)]
     unfold gleberef1_groups.l0
     rw[if_neg (by omega),h4]
     exact⟨_,_,rfl,rfl,rfl,fun _=>rfl⟩
    ·have h4':¬ r4'.2=true:=by rw[f3];exact h4
     rw[if_neg h4']
     obtain⟨r,r',_,a2,a3⟩:=hex r4'.1
     obtain⟨k2,_,_,h3⟩:=yBq hx (last:=last) (acc:=acc) hlt ep (by omega) r4'.1 (k:=k') (by omega)
     rw[h3,yFb hd]
     have e4:r4.2=false:=by simpa using h4
     rw[e4]
     exact⟨_,_,rfl,rfl,yBp _ _⟩
   ·rw[show Lib.contains p.data.toList (ByteArray.data ⟨#[46]⟩).toList=false from Txt.contains_no hd]
    have h4:¬ r4'.2=true:=by
     rw[f3]
     intro q
     have:=f6 q
     rw[zUb _ hd] at this
     omega
    rw[if_neg h4]
    exact hex _
  ·have e1:(if last=true then if(i:Int)=(xs.length:Int) - 1 then(strings_Contains.f p ⟨#[46]⟩).bind fun t=>addr_row.j1 (k+1) last acc xs p xs (xs.length:Int) (i:Int) t else addr_row.j1 (k+1) last acc xs p xs (xs.length:Int) (i:Int) false else addr_row.j1 (k+1) last acc xs p xs (xs.length:Int) (i:Int) false)=addr_row.j1 (k+1) last acc xs p xs (xs.length:Int) (i:Int) false:=by
    split
    ·rename_i q
     rw[if_neg (fun q2=>hl ⟨q,q2⟩)]
    ·rfl
   have e2:(if r4'.2=true then if last=true then gleberef1_groups.j1 (k'+1) last acc xs (i:Int) r4'.1 ((i:Int)==(xs.length:Int) - 1) else gleberef1_groups.j1 (k'+1) last acc xs (i:Int) r4'.1 false else gleberef1_groups.j1 (k'+1) last acc xs (i:Int) r4'.1 false)=gleberef1_groups.j1 (k'+1) last acc xs (i:Int) r4'.1 false:=by
    split
    ·split
     ·rename_i q
      rw[show((i:Int)==(xs.length:Int) - 1)=false from beq_eq_false_iff_ne.2 (fun q2=>hl ⟨q,q2⟩)]
     ·rfl
    ·rfl
   rw[e1,e2]
   exact hex _
theorem zOn {s:ByteArray}(hs:s.size≤200)(last:Bool){k:Nat}(hk:7000≤k):∃ r r',zBg (s,last)=some r∧gleberef1_groups.f k s last=some r'∧yPu r r':=by
 unfold zBg addr_row.f gleberef1_groups.f
 by_cases h:s.toList=([]:List UInt8)
 ·rw[if_pos h,if_pos h]
  exact⟨_,_,rfl,rfl,rfl,fun _=>rfl⟩
 ·obtain⟨l,e,h1,h2,h3⟩:=zEn (s:=s) (sep:=⟨#[58]⟩) (by omega) (by decide)
  have el:l=(spl 58 s.data.toList).map mkB:=Option.some.inj (e.symm.trans (zFn 58 (by omega)))
  have e3:gleberef1_Split.f k s 58=some l:=by rw[el];exact zSk (c:=58) (by omega) (by omega)
  rw[if_neg h,if_neg h,e,e3,Option.bind_some,Option.bind_some]
  exact yFc (by omega) (fun p q=>Nat.le_trans (h3 p q) hs) last l.length 0 1000 k [] (by omega) (by omega) (by omega) (by simp)
def jn:List UInt8→Nat→Int
 |a::b::t,i=>if a=58∧b=58 then(i:Int) else jn (b::t) (i+1)
 |_,_=>-1
theorem u58 (x:UInt8):(x.toNat:Int)=58↔x=58:=by
 constructor
 ·intro h
  refine UInt8.toNat_inj.1 ?_
  show x.toNat=58
  omega
 ·rintro rfl;rfl
theorem yFd {s:ByteArray}(hs:s.size≤1000):∀ (d i k:Nat),i+d=s.size→d+1≤k→gleberef1_joint.l0 k s (i:Int)=some (jn (s.data.toList.drop i) i):=by
 have hl:s.data.toList.length=s.size:=rfl
 intro d
 induction d with
 |zero=>
  intro i k hi hk
  obtain⟨k,rfl⟩:∃ j,k=j+1:=⟨k - 1,by omega⟩
  unfold gleberef1_joint.l0
  rw[zJt (by omega) (by omega),if_neg (by omega),show s.data.toList.drop i=[] from List.drop_eq_nil_of_le (by omega)]
  rfl
 |succ d ih=>
  intro i k hi hk
  obtain⟨k,rfl⟩:∃ j,k=j+1:=⟨k - 1,by omega⟩
  have hlt:i < s.data.toList.length:=by omega
  have hx:=List.getElem?_eq_getElem hlt
  obtain⟨x,ex⟩:∃ x,x=s.data.toList[i]:=⟨_,rfl⟩
  rw[← ex] at hx
  have hd:s.data.toList.drop i=x::s.data.toList.drop (i+1):=by rw[ex];exact List.drop_eq_getElem_cons hlt
  unfold gleberef1_joint.l0
  rw[zJt (by omega) (by omega),show((i:Int)+1)=((i+1:Nat):Int) by omega]
  by_cases h1:i+1 < s.size
  ·have hlt2:i+1 < s.data.toList.length:=by omega
   have hy:=List.getElem?_eq_getElem hlt2
   obtain⟨y,ey⟩:∃ y,y=s.data.toList[i+1]:=⟨_,rfl⟩
   rw[← ey] at hy
   have hd2:s.data.toList.drop (i+1)=y::s.data.toList.drop (i+1+1):=by rw[ey];exact List.drop_eq_getElem_cons hlt2
   have hn:=ih (i+1) k (by omega) (by omega)
   rw[if_pos (by omega),if_pos (by omega),if_pos (by omega),zHx hx,zHx hy,hd,hd2,jn,← hd2,hn]
   by_cases hx5:x=58
   ·rw[if_pos ((u58 x).2 hx5),if_pos (by omega)]
    by_cases hy5:y=58
    ·rw[if_pos ((u58 y).2 hy5),if_pos ⟨hx5,hy5⟩]
    ·rw[if_neg (fun q=>hy5 ((u58 y).1 q)),if_neg (fun q=>hy5 q.2)]
   ·rw[if_neg (fun q=>hx5 ((u58 x).1 q)),if_neg (fun q=>hx5 q.1)]
  ·rw[if_neg (by omega),hd,show s.data.toList.drop (i+1)=[] from List.drop_eq_nil_of_le (by omega)]
   rfl
theorem zVx {s:ByteArray}(hs:s.size≤1000){k:Nat}(hk:1001≤k):gleberef1_joint.f k s=some (jn s.data.toList 0):=by
 unfold gleberef1_joint.f
 have h:=yFd hs s.size 0 k (by omega) (by omega)
 rwa [List.drop_zero,show((0:Nat):Int)=0 from rfl] at h
theorem zI6:∀ (l:List UInt8) (i:Nat),(jn l i=-1∧Txt.twice 58 l=false)∨(∃ a b,l=a++58::58::b∧jn l i=((i+a.length:Nat):Int)∧Txt.twice 58 (a++[58])=false)
 |[],i=>Or.inl ⟨rfl,rfl⟩
 |[x],i=>Or.inl ⟨rfl,by simp[Txt.twice]⟩
 |x::y::t,i=>by
  rw[jn]
  by_cases h:x=58∧y=58
  ·rw[if_pos h]
   obtain⟨rfl,rfl⟩:=h
   exact Or.inr ⟨[],t,rfl,by simp,by simp[Txt.twice]⟩
  ·rw[if_neg h]
   rcases zI6 (y::t) (i+1) with⟨h1,h2⟩|⟨a,b,h1,h2,h3⟩
   ·refine Or.inl ⟨h1,?_⟩
    by_cases hx:x=58
    ·have hy:y≠58:=fun q=>h ⟨hx,q⟩
     simp[Txt.twice,hx,hy] at h2 ⊢
     exact h2
    ·rw[Txt.twice_cons hx];exact h2
   ·refine Or.inr ⟨x::a,b,by rw[h1];rfl,by rw[h2,List.length_cons];congr 1;omega,?_⟩
    by_cases hx:x=58
    ·have hy:y≠58:=fun q=>h ⟨hx,q⟩
     cases a with
     |nil=>
      simp only[List.nil_append] at h1
      cases h1
      exact absurd rfl hy
     |cons z r=>
      simp only[List.cons_append] at h1
      have hz:y=z:=by injection h1
      subst hz
      simp only[List.cons_append] at h3 ⊢
      simp[Txt.twice,hx,hy] at h3 ⊢
      exact h3
    ·rw[List.cons_append,Txt.twice_cons hx];exact h3
theorem zP7 {m:Nat}:∀ (l:List UInt8) (n:Nat) (r:Int),zSy m n l=some (r,true)→(58:UInt8)∉l
 |[],_,_,_=>by simp
 |c::t,n,r,h=>by
  rw[zSy] at h
  split at h
  ·rename_i q
   have:=zP7 t _ r h
   simp only[List.mem_cons,not_or]
   refine⟨fun e=>?_,this⟩
   rw[← e] at q
   have h58:(58:UInt8).toNat=58:=rfl
   omega
  ·cases h
theorem yK8 {s:ByteArray}{r:Int}(h:zKd s 255=some (r,true)):(58:UInt8)∉s.data.toList:=by
 unfold zKd at h
 rw[if_pos (by omega)] at h
 split at h
 ·rename_i e;rw[e];simp
 ·rename_i c t e
  rw[e]
  split at h
  ·split at h
   ·rename_i ht
    rw[show(255:Int)=((255:Nat):Int) from rfl,show(0:Int)=((0:Nat):Int) from rfl,zCt (by decide) _ 0 (by decide)] at h
    rw[ht]
    exact zP7 _ _ _ h
   ·cases h
  ·rw[show(255:Int)=((255:Nat):Int) from rfl,show(0:Int)=((0:Nat):Int) from rfl,zCt (by decide) _ 0 (by decide)] at h
   exact zP7 _ _ _ h
theorem yFe {xs:List ByteArray}(hx:xs.length≤1000):∀ (k i:Nat) (n:Int) (r:Int×Bool),i≤xs.length→addr_four.l0 k xs n xs (xs.length:Int) (i:Int)=some r→r.2=true→∀ p∈xs.drop i,(58:UInt8)∉p.data.toList:=by
 intro k
 induction k with
 |zero=>intro i n r _ h;simp[addr_four.l0] at h
 |succ k ih=>
  intro i n r hi h hr
  by_cases hlt:i < xs.length
  ·have ep:zB5 ByteArray.empty xs (i:Int)=xs[i]:=by
    unfold zB5
    rw[Int.toNat_natCast,List.getD_eq_getElem?_getD,List.getElem?_eq_getElem hlt];rfl
   unfold addr_four.l0 at h
   rw[if_pos (by omega),if_pos (by omega),if_pos (by omega),ep] at h
   obtain⟨⟨m,b⟩,hm⟩:=zMt xs[i]
   have hm':date_Num.f xs[i] 255=some (m,b):=hm
   rw[hm',Option.bind_some] at h
   cases b with
   |false=>
    rw[if_neg (fun q=>by cases q)] at h
    cases h
    cases hr
   |true=>
    rw[if_pos rfl,zJt (by omega) (by omega),show((i:Int)+1)=((i+1:Nat):Int) by omega] at h
    have:=ih (i+1) _ r (by omega) h hr
    rw[List.drop_eq_getElem_cons hlt]
    intro p hp
    rcases List.mem_cons.1 hp with rfl|hp
    ·exact yK8 hm
    ·exact this p hp
  ·rw[List.drop_eq_nil_of_le (by omega)]
   intro p hp
   cases hp
theorem yK9 {s:ByteArray}(hs:s.size≤400){k:Nat}{r:Int×Bool}(h:addr_four.f k s=some r)(hr:r.2=true):(58:UInt8)∉s.data.toList:=by
 obtain⟨l,e,h1,h2,h3⟩:=zEn (s:=s) (sep:=⟨#[46]⟩) hs (by decide)
 have el:l=(spl 46 s.data.toList).map mkB:=Option.some.inj (e.symm.trans (zFn 46 hs))
 unfold addr_four.f at h
 rw[e,Option.bind_some] at h
 have hd:=yFe (by omega) k 0 0 r (by omega) h hr
 rw[List.drop_zero,el] at hd
 rw[← zI5 46 s.data.toList]
 refine Txt.not_mem_join (by decide) _ fun p hp=>?_
 exact hd (mkB p) (List.mem_map.2 ⟨p,hp,rfl⟩)
theorem yBr {s:ByteArray}(hs:s.size≤200)(h:(58:UInt8)∉s.data.toList){last:Bool}{r:List Int×Bool}(hr:zBg (s,last)=some r):r.1.length≤2:=by
 unfold zBg addr_row.f at hr
 split at hr
 ·cases hr;simp
 ·rw[zFn (s:=s) 58 (by omega),Option.bind_some] at hr
  have h1:=zUb _ h
  obtain⟨xs,ex⟩:∃ xs,xs=(spl 58 s.data.toList).map mkB:=⟨_,rfl⟩
  have hx:xs.length=1:=by rw[ex,List.length_map,h1]
  rw[← ex] at hr
  have endd:∀ (k:Nat) (acc:List Int) (r:List Int×Bool),acc.length≤2→addr_row.l0 k last acc xs xs (xs.length:Int) ((0+1:Nat):Int)=some r→r.1.length≤2:=by
   intro k acc r ha hr
   cases k with
   |zero=>simp[addr_row.l0] at hr
   |succ k=>
    unfold addr_row.l0 at hr
    rw[if_neg (by omega)] at hr
    cases hr
    exact ha
  have hj:∀ (k:Nat) (p:ByteArray) (b:Bool) (r:List Int×Bool),addr_row.j1 (k+1) last [] xs p xs (xs.length:Int) ((0:Nat):Int) b=some r→r.1.length≤2:=by
   intro k p b r hr
   cases b with
   |true=>
    unfold addr_row.j1 at hr
    rw[if_pos rfl] at hr
    obtain⟨t,_,hr⟩:=Option.bind_eq_some_iff.1 hr
    rw[Option.bind_some] at hr
    split at hr
    ·cases hr;simp
    ·cases hr
   |false=>
    rw[zVw (by omega) (by omega) (by simp)] at hr
    split at hr
    ·exact endd _ _ _ (by simp) hr
    ·cases hr;simp
    ·cases hr
  rw[show(1000:Nat)=998+2 from rfl,show(0:Int)=((0:Nat):Int) from rfl] at hr
  unfold addr_row.l0 at hr
  rw[if_pos (by omega),if_pos (by omega),if_pos (by omega)] at hr
  split at hr
  ·split at hr
   ·obtain⟨t,_,hr⟩:=Option.bind_eq_some_iff.1 hr
    exact hj _ _ _ _ hr
   ·exact hj _ _ _ _ hr
  ·exact hj _ _ _ _ hr
def yFf (s:ByteArray):Option (Int×Int×Int×Bool):=
 (gleberef1_four.f 7000 s).bind fun n=>if n.2=true then some (4,0,n.1,true) else
  (gleberef1_joint.f 7000 s).bind fun j=>if j < 0 then(gleberef1_groups.f 7000 s true).bind fun g=>if g.2=true∧g.1.length=8 then some (6,(zFb g.1).1,(zFb g.1).2,true) else some (0,0,0,false)
   else(gleberef1_groups.f 7000 (s.extract 0 j.toNat) false).bind fun a=>(gleberef1_groups.f 7000 (s.extract (j+2).toNat s.size) true).bind fun b=>
    if a.2=true∧b.2=true∧a.1.length+b.1.length≤7 then some (6,(zFb (a.1++List.replicate (8 - (a.1.length+b.1.length)) 0++b.1)).1,(zFb (a.1++List.replicate (8 - (a.1.length+b.1.length)) 0++b.1)).2,true) else some (0,0,0,false)
theorem zMx (s:ByteArray)(hs:s.size≤200):PRD.addr_Parse.f s=if(58:UInt8)∈s.data.toList then zT5 s else(addr_four.f 1000 s).bind fun r=>if r.2=true then some (4,0,r.1,true) else some (0,0,0,false):=by
 unfold PRD.addr_Parse.f strings_Contains.f
 rw[if_pos (by omega),Option.bind_some]
 by_cases h:(58:UInt8)∈s.data.toList
 ·rw[if_pos h,show Lib.contains s.data.toList (ByteArray.data ⟨#[58]⟩).toList=true from Txt.contains_yes h,if_pos rfl]
  obtain⟨r,hr,_⟩:=yBg hs
  have hr':PRD.addr_six.f s=some r:=hr
  rw[hr',hr]
  rfl
 ·rw[if_neg h,show Lib.contains s.data.toList (ByteArray.data ⟨#[58]⟩).toList=false from Txt.contains_no h,if_neg (by decide)]
theorem yFg {s:ByteArray}(hs:s.size≤200):yFf s=PRD.addr_Parse.f s:=by
 have hl:s.data.toList.length=s.size:=rfl
 obtain⟨r,r',f1,f2,f3,f4,f5,f6⟩:=yBo (s:=s) (by omega) (k:=1000) (k':=7000) (by omega) (by omega)
 rw[zMx s hs]
 unfold yFf
 rw[f2,Option.bind_some,zVx (by omega) (by omega),Option.bind_some]
 by_cases hc:(58:UInt8)∈s.data.toList
 ·have hr:¬ r.2=true:=fun q=>yK9 (by omega) f1 q hc
  rw[if_pos hc,if_neg (by rw[f3];exact hr)]
  have hz:s.size < 4294967281:=by omega
  unfold zT5 zC2
  rw[if_pos hz,Option.bind_some]
  rcases zI6 s.data.toList 0 with⟨e1,e2⟩|⟨a,b,e1,e2,e3⟩
  ·rw[e1,if_pos (by decide)]
   have ec:zSw s { data:=#[58,58] }=(s,⟨#[]⟩,false):=by
    unfold zSw
    rw[show(ByteArray.data { data:=#[58,58] }).toList=[58,58] from rfl,Txt.cut_miss e2]
   rw[ec]
   obtain⟨g,g',g1,g2,g3,g4⟩:=zOn (s:=s) hs true (k:=7000) (by omega)
   have hn:zBg ((⟨#[]⟩:ByteArray),true)=some ([],true):=by
    obtain⟨q,hq⟩:=zT9 (s:=(⟨#[]⟩:ByteArray)) (Nat.zero_le _) true
    rw[hq,zG5 rfl hq]
   show _=(zBg (s,true)).bind _
   rw[g1,g2,Option.bind_some,Option.bind_some,hn,Option.bind_some]
   have hne:decide (s.data.toList=[])=false:=decide_eq_false (fun q=>by rw[q] at hc;cases hc)
   unfold zVk
   rw[hne]
   by_cases hg:g.2=true
   ·have:=g4 hg
    subst this
    by_cases h8:g'.1.length=8
    ·rw[if_pos ⟨hg,h8⟩,if_neg (by simp[hg,h8])]
     simp[h8]
    ·rw[if_neg (fun q=>h8 q.2),if_pos (by simp[h8])]
   ·rw[if_neg (fun q=>hg (by rw[← g3];exact q.1)),if_pos (by simp[hg])]
  ·have ej:(jn s.data.toList 0).toNat=a.length:=by rw[e2];omega
   have ej2:(jn s.data.toList 0+2).toNat=a.length+2:=by rw[e2];omega
   have hle:a.length+2+b.length=s.size:=by rw[← hl,e1];simp;omega
   rw[if_neg (by rw[e2];omega),ej,ej2,zEb,zEb]
   have ea:(s.data.toList.take a.length).drop 0=a:=by rw[e1];simp
   have eb:(s.data.toList.take s.size).drop (a.length+2)=b:=by
    rw[List.take_of_length_le (by omega),e1,show a++58::58::b=(a++[58,58])++b by simp]
    exact List.drop_left' (by simp)
   have ec:zSw s { data:=#[58,58] }=(mkB a,mkB b,true):=by
    unfold zSw
    rw[show(ByteArray.data { data:=#[58,58] }).toList=[58,58] from rfl,e1,Txt.cut_hit b e3]
    rfl
   rw[ea,eb,ec]
   obtain⟨g,g',g1,g2,g3,g4⟩:=zOn (s:=mkB a) (by show(List.toArray a).size≤200;rw[List.size_toArray];omega) false (k:=7000) (by omega)
   obtain⟨u,u',u1,u2,u3,u4⟩:=zOn (s:=mkB b) (by show(List.toArray b).size≤200;rw[List.size_toArray];omega) true (k:=7000) (by omega)
   show _=(zBg (mkB a,false)).bind _
   rw[g1,g2,Option.bind_some,Option.bind_some,u1,u2,Option.bind_some,Option.bind_some]
   have hne:decide (s.data.toList=[])=false:=decide_eq_false (fun q=>by rw[q] at hc;cases hc)
   unfold zVk
   rw[hne]
   by_cases hg:g.2=true
   ·have:=g4 hg
    subst this
    by_cases hu:u.2=true
    ·have:=u4 hu
     subst this
     by_cases h8:g'.1.length+u'.1.length≤7
     ·rw[if_pos ⟨hg,hu,h8⟩,if_neg (by simp[hg,hu];omega)]
     ·rw[if_neg (fun q=>h8 q.2.2),if_pos (by simp;right;right;omega)]
    ·rw[if_neg (fun q=>hu (by rw[← u3];exact q.2.1)),if_pos (by simp[hu])]
   ·rw[if_neg (fun q=>hg (by rw[← g3];exact q.1)),if_pos (by simp[hg])]
 ·rw[if_neg hc,f1,Option.bind_some]
  by_cases hr:r.2=true
  ·rw[if_pos hr,if_pos (f3.trans hr),f4 hr]
  ·rw[if_neg hr,if_neg (by rw[f3];exact hr)]
   rcases zI6 s.data.toList 0 with⟨e1,_⟩|⟨a,b,e1,_,_⟩
   ·rw[e1,if_pos (by decide)]
    obtain⟨g,g',g1,g2,g3,g4⟩:=zOn (s:=s) hs true (k:=7000) (by omega)
    rw[g2,Option.bind_some]
    have hshort:=yBr hs hc g1
    refine if_neg (fun q=>?_)
    have hg:g.2=true:=by rw[← g3];exact q.1
    have:=g4 hg
    subst this
    omega
   ·exact absurd (by rw[e1];simp) hc
end Go.Proofs.YtfnacgojmdbjmaaGreatDoor
namespace Go.Proofs.YtfnacgojmdbjmaaGreatDoor
open Go.Det Go.RowKit YtfnacgojmdbjmaaGreatDoorW.PrintWords
def yRh (V h l:Int):Option ByteArray:=PPPT.gleberef1_Print.f 300 V h l
def yM5 (n:Int):Option ByteArray:=PPPT.gleberef1_Text.f 300 n
def yLa (s:ByteArray)(m:Int):Option (Int×Bool):=PPPT.gleberef1_Num.f 7000 s m
def zXx (s:ByteArray)(c:Int):Option Int:=PPPT.gleberef1_last.f 7000 s c
def yLb:List Value→Option (ByteArray×Int)
 |[.string s,.int .u8 n]=>some (s,n)
 |_=>none
theorem yBs {args:List Value}{a:ByteArray×Int}(h:yLb args=some a):args=[.string a.1,.int .u8 a.2]:=by
 unfold yLb at h
 split at h
 case h_2=>cases h
 cases h;rfl
def enI (y:Int):Value:=.int .i64 y
abbrev con61:Con:=conD61
theorem yXo {W:World}(hW:GoodW W):zAr Tryz.prog W 6 61 con61.own:=yN9 hW
def con58:Con:=Con.opt yOi (fun x=>yRh x.1 x.2.1 x.2.2) enS
theorem yXp {W:World}(hW:GoodW W):zAr Tryz.prog W 6 58 con58.own:=by
 refine zA5 (fn:=Tryz.f58) (c:=zAd Tryz.f58) hW Tryz.func58 (by kernel_rfl) (by kernel_rfl) fun args v h=>?_
 split at h
 case h_2=>cases h
 rename_i a ha
 split at h
 case h_2=>cases h
 rename_i b hb
 cases h
 obtain rfl:=zP4 ha
 exact⟨rfl,rfl,fun w hG=>(PPPT.gleberef1_Print.calls 300 a.1 a.2.1 a.2.2 b w hG hb).mono fun e w' h=>⟨h.1,h.2⟩⟩
def con13:Con:=Con.opt yEy (fun x=>yM5 x) enS
theorem yS4 {W:World}(hW:GoodW W):zAr Tryz.prog W 6 13 con13.own:=by
 refine zA5 (fn:=Tryz.f13) (c:=zAd Tryz.f13) hW Tryz.func13 (by kernel_rfl) (by kernel_rfl) fun args v h=>?_
 split at h
 case h_2=>cases h
 rename_i a ha
 split at h
 case h_2=>cases h
 rename_i b hb
 cases h
 obtain rfl:=zSi ha
 exact⟨rfl,rfl,fun w hG=>(PPPT.gleberef1_Text.calls 300 a b w hG hb).mono fun e w' h=>⟨h.1,h.2⟩⟩
def con64:Con:=Con.opt yAy (fun x=>yLa x.1 x.2) zVh
theorem yXq {W:World}(hW:GoodW W):zAr Tryz.prog W 6 64 con64.own:=by
 refine zA5 (fn:=Tryz.f64) (c:=zAd Tryz.f64) hW Tryz.func64 (by kernel_rfl) (by kernel_rfl) fun args v h=>?_
 split at h
 case h_2=>cases h
 rename_i a ha
 split at h
 case h_2=>cases h
 rename_i b hb
 cases h
 obtain rfl:=zSe ha
 exact⟨rfl,rfl,fun w hG=>(PPPT.gleberef1_Num.calls 7000 a.1 a.2 b.1 b.2 w hG hb).mono fun e w' h=>⟨h.1,h.2⟩⟩
def con62:Con:=Con.opt yLb (fun x=>zXx x.1 x.2) enI
theorem yXr {W:World}(hW:GoodW W):zAr Tryz.prog W 6 62 con62.own:=by
 refine zA5 (fn:=Tryz.f62) (c:=zAd Tryz.f62) hW Tryz.func62 (by kernel_rfl) (by kernel_rfl) fun args v h=>?_
 split at h
 case h_2=>cases h
 rename_i a ha
 split at h
 case h_2=>cases h
 rename_i b hb
 cases h
 obtain rfl:=yBs ha
 exact⟨rfl,rfl,fun w hG=>(PPPT.gleberef1_last.calls 7000 a.1 a.2 b w hG hb).mono fun e w' h=>⟨h.1,h.2.below⟩⟩
abbrev con71:Con:=conD54
theorem yXs {W:World}(hW:GoodW W):zAr Tryz.prog W 6 71 con71.own:=yOh hW
def zUc (s:ByteArray):Option (Int×Int×Int×Bool):=if s.size≤200 then yFf s else none
def con63:Con:=Con.opt zXq zUc yC5
end Go.Proofs.YtfnacgojmdbjmaaGreatDoor
namespace Go.Proofs.YtfnacgojmdbjmaaGreatDoor.PRD
open Go.RowKit YtfnacgojmdbjmaaGreatDoorW.PrintWords YtfnacgojmdbjmaaGreatDoorW.PrintLast YtfnacgojmdbjmaaGreatDoorW.PrintMore
open Go.Det (inQ M64 zCh qn zXk zJo zFk)
def gleberef1_Print.f (a0_0:Int)(a0_1:Int)(a0_2:Int):Option (ByteArray):=yRh a0_0 a0_1 a0_2
def gleberef1_Text.f (a0:Int):Option (ByteArray):=yM5 a0
def gleberef1_Parse.f (a0:ByteArray):Option (Int×Int×Int×Bool):=zUc a0
def gleberef1_Num.f (a0:ByteArray)(a1:Int):Option (Int×Bool):=yLa a0 a1
def gleberef1_last.f (a0:ByteArray)(a1:Int):Option (Int):=zXx a0 a1
def date_Text.f (a0:Int):Option (ByteArray):=zKc a0
def date_Num.f (a0:ByteArray)(a1:Int):Option (Int×Bool):=zKd a0 a1
def pref_First.f (a0_0:Int)(a0_1:Int)(a0_2:Int)(a0_3:Int):Option (Int×Int×Int):=(pref_Ok.f a0_0 a0_1 a0_2 a0_3).bind fun t1=>(if t1=true then(some (a0_0,a0_1,a0_2)) else(some (0,0,0)))
def pref_Over.f (a0_0:Int)(a0_1:Int)(a0_2:Int)(a0_3:Int)(a1_0:Int)(a1_1:Int)(a1_2:Int)(a1_3:Int):Option (Bool):=(pref_First.f a1_0 a1_1 a1_2 a1_3).bind fun t1=>((pref_Has.f a0_0 a0_1 a0_2 a0_3 t1.1 t1.2.1 t1.2.2).bind fun t2=>(if t2=true then(some true) else((pref_First.f a0_0 a0_1 a0_2 a0_3).bind fun t3=>((pref_Has.f a1_0 a1_1 a1_2 a1_3 t3.1 t3.2.1 t3.2.2).bind fun t4=>(some t4)))))
def pref_Less.f (a0_0:Int)(a0_1:Int)(a0_2:Int)(a0_3:Int)(a1_0:Int)(a1_1:Int)(a1_2:Int)(a1_3:Int):Option (Bool):=(pref_Ok.f a0_0 a0_1 a0_2 a0_3).bind fun t1=>(if t1=true then((pref_Ok.f a1_0 a1_1 a1_2 a1_3).bind fun t2=>(if t2=true then((addr_Less.f a0_0 a0_1 a0_2 a1_0 a1_1 a1_2).bind fun t3=>(if t3=true then(some true) else(if(a0_0==a1_0&&((a0_1==a1_1&&(a0_2==a1_2))))=true then(some (decide (a0_3 < a1_3))) else(some false)))) else(some false))) else(some false))
def pref_Netmask.f (a0_0:Int)(a0_1:Int)(a0_2:Int)(a0_3:Int):Option (Int×Int×Int×Bool):=(pref_Ok.f a0_0 a0_1 a0_2 a0_3).bind fun t1=>(if t1=true then(if a0_0=4 then((pref_mask.f 4 a0_3).bind fun t2=>((quad_And.f t2.1 t2.2 0 4294967295).bind fun t3=>(some (4,t3.1,t3.2,true)))) else(some (0,0,0,false))) else(some (0,0,0,false)))
def pref_Parse.f (a0:ByteArray):Option (Int×Int×Int×Int×Bool):=(strings_Cut.f a0 { data:=#[47] }).bind fun c=>((addr_Parse.f c.1).bind fun a=>((date_Num.f c.2.1 128).bind fun n=>(if c.2.2=true then(if a.2.2.2=true then(if n.2=true then((pref_Ok.f a.1 a.2.1 a.2.2.1 (wrap64 (Go.bits .and .u64 n.1 255))).bind fun o=>(if o=true then(some (a.1,a.2.1,a.2.2.1,wrap64 (Go.bits .and .u64 n.1 255),true)) else(some (0,0,0,0,false)))) else(some (0,0,0,0,false))) else(some (0,0,0,0,false))) else(some (0,0,0,0,false)))))
def pref_Print.f (a0_0:Int)(a0_1:Int)(a0_2:Int)(a0_3:Int):Option (ByteArray):=(pref_Ok.f a0_0 a0_1 a0_2 a0_3).bind fun t1=>(if t1=true then((addr_Print.f a0_0 a0_1 a0_2).bind fun s=>(if s.size+ByteArray.size ({ data:=#[47] }:ByteArray)≤9223372036854775807 then((date_Text.f (IntKind.u64.wrap a0_3)).bind fun u=>(if(s++({ data:=#[47] }:ByteArray)).size+u.size≤9223372036854775807 then(some (s++({ data:=#[47] }:ByteArray)++u)) else(none))) else(none))) else(some { data:=#[] }))
def gleberef1_LessAddr.f (a0_0:Int)(a0_1:Int)(a0_2:Int)(a1_0:Int)(a1_1:Int)(a1_2:Int):Option (Bool):=if a0_0 < a1_0 then(some true) else(if a0_0=a1_0 then((gleberef1_Less.f a0_1 a0_2 a1_1 a1_2).bind fun t=>(some t)) else(some false))
def gleberef1_LessPrefix.f (a0_0:Int)(a0_1:Int)(a0_2:Int)(a0_3:Int)(a1_0:Int)(a1_1:Int)(a1_2:Int)(a1_3:Int):Option (Bool):=(gleberef1_OkPrefix.f a0_0 a0_1 a0_2 a0_3).bind fun t1=>(if t1=true then((gleberef1_OkPrefix.f a1_0 a1_1 a1_2 a1_3).bind fun t2=>(if t2=true then((gleberef1_LessAddr.f a0_0 a0_1 a0_2 a1_0 a1_1 a1_2).bind fun t3=>(if t3=true then(some true) else(if(a0_0==a1_0&&((a0_1==a1_1&&(a0_2==a1_2))))=true then(some (decide (a0_3 < a1_3))) else(some false)))) else(some false))) else(some false))
def gleberef1_Over.f (a0_0:Int)(a0_1:Int)(a0_2:Int)(a0_3:Int)(a1_0:Int)(a1_1:Int)(a1_2:Int)(a1_3:Int):Option (Bool):=(gleberef1_OkPrefix.f a0_0 a0_1 a0_2 a0_3).bind fun t1=>(if t1=true then((gleberef1_OkPrefix.f a1_0 a1_1 a1_2 a1_3).bind fun t2=>(if t2=true then((gleberef1_Has.f a0_0 a0_1 a0_2 a0_3 a1_0 a1_1 a1_2).bind fun t3=>(if t3=true then(some true) else((gleberef1_Has.f a1_0 a1_1 a1_2 a1_3 a0_0 a0_1 a0_2).bind fun t4=>(some t4)))) else(some false))) else(some false))
def gleberef1_Netmask.f (a0_0:Int)(a0_1:Int)(a0_2:Int)(a0_3:Int):Option (Int×Int×Int×Bool):=(gleberef1_OkPrefix.f a0_0 a0_1 a0_2 a0_3).bind fun t1=>(if t1=true then(if a0_0=4 then((gleberef1_all.f 4 a0_3).bind fun t2=>(some (4,t2.1,t2.2,true))) else(some (0,0,0,false))) else(some (0,0,0,false)))
def gleberef1_PrintPrefix.f (a0_0:Int)(a0_1:Int)(a0_2:Int)(a0_3:Int):Option (ByteArray):=(gleberef1_OkPrefix.f a0_0 a0_1 a0_2 a0_3).bind fun t1=>(if t1=true then((gleberef1_Print.f a0_0 a0_1 a0_2).bind fun s=>(if s.size+ByteArray.size ({ data:=#[47] }:ByteArray)≤9223372036854775807 then((gleberef1_Text.f (IntKind.u64.wrap a0_3)).bind fun u=>(if(s++({ data:=#[47] }:ByteArray)).size+u.size≤9223372036854775807 then(some (s++({ data:=#[47] }:ByteArray)++u)) else(none))) else(none))) else(some { data:=#[] }))
def gleberef1_Prefix.f (a0:ByteArray):Option (Int×Int×Int×Int×Bool):=(gleberef1_last.f a0 47).bind fun k=>(if k < 0 then(some (0,0,0,0,false)) else(if 0≤k∧k≤(a0.size:Int) then((gleberef1_Parse.f (a0.extract 0 k.toNat)).bind fun a=>(if 0≤wrap64 (k+1)∧wrap64 (k+1)≤(a0.size:Int) then((gleberef1_Num.f (a0.extract (wrap64 (k+1)).toNat a0.size) 128).bind fun n=>(if a.2.2.2=true then(if n.2=true then((gleberef1_OkPrefix.f a.1 a.2.1 a.2.2.1 (wrap64 n.1)).bind fun o=>(if o=true then(some (a.1,a.2.1,a.2.2.1,wrap64 n.1,true)) else(some (0,0,0,0,false)))) else(some (0,0,0,0,false))) else(some (0,0,0,0,false)))) else(none))) else(none)))
end Go.Proofs.YtfnacgojmdbjmaaGreatDoor.PRD
namespace Go.Proofs.YtfnacgojmdbjmaaGreatDoor
open Go.Det Go.RowKit PRD YtfnacgojmdbjmaaGreatDoorW.PrintWords
def yLc:List Value→Option (Int×Int×Int×Int)
 |[.agg ⟨[.int .i64 a,.int .u64 b,.int .u64 c,.int .i64 d]⟩]=>some (a,b,c,d)
 |_=>none
def yLd (x:Int×Int×Int×Int):List Value:=[.agg #[.int .i64 x.1,.int .u64 x.2.1,.int .u64 x.2.2.1,.int .i64 x.2.2.2]]
theorem yBt {args:List Value}{a:Int×Int×Int×Int}(h:yLc args=some a):args=yLd a:=by
 unfold yLc at h
 split at h
 case h_2=>cases h
 cases h;rfl
def yLe (y:Int×Int×Int):Value:=.agg #[.int .i64 y.1,.int .u64 y.2.1,.int .u64 y.2.2]
def con23:Con:=Con.opt yLc (fun x=>pref_First.f x.1 x.2.1 x.2.2.1 x.2.2.2) yLe
def L23:List (Nat×Con):=[(22,con22)]
def yLf:List Value→Option (Int×Int×Int×Int×Int×Int×Int×Int)
 |[.agg ⟨[.int .i64 a,.int .u64 b,.int .u64 c,.int .i64 d]⟩,.agg ⟨[.int .i64 e,.int .u64 f,.int .u64 g,.int .i64 h]⟩]=>some (a,b,c,d,e,f,g,h)
 |_=>none
def yLg (x:Int×Int×Int×Int×Int×Int×Int×Int):List Value:=[.agg #[.int .i64 x.1,.int .u64 x.2.1,.int .u64 x.2.2.1,.int .i64 x.2.2.2.1],.agg #[.int .i64 x.2.2.2.2.1,.int .u64 x.2.2.2.2.2.1,.int .u64 x.2.2.2.2.2.2.1,.int .i64 x.2.2.2.2.2.2.2]]
theorem yBu {args:List Value}{a:Int×Int×Int×Int×Int×Int×Int×Int}(h:yLf args=some a):args=yLg a:=by
 unfold yLf at h
 split at h
 case h_2=>cases h
 cases h;rfl
def yLh (y:Bool):Value:=.bool y
def con28:Con:=Con.opt yLf (fun x=>pref_Over.f x.1 x.2.1 x.2.2.1 x.2.2.2.1 x.2.2.2.2.1 x.2.2.2.2.2.1 x.2.2.2.2.2.2.1 x.2.2.2.2.2.2.2) yLh
def L28:List (Nat×Con):=[(23,con23),(26,con26)]
def yLi:List Value→Option (Int×Int×Int×Int×Int×Int×Int×Int)
 |[.agg ⟨[.int .i64 a,.int .u64 b,.int .u64 c,.int .i64 d]⟩,.agg ⟨[.int .i64 e,.int .u64 f,.int .u64 g,.int .i64 h]⟩]=>some (a,b,c,d,e,f,g,h)
 |_=>none
def yLj (x:Int×Int×Int×Int×Int×Int×Int×Int):List Value:=[.agg #[.int .i64 x.1,.int .u64 x.2.1,.int .u64 x.2.2.1,.int .i64 x.2.2.2.1],.agg #[.int .i64 x.2.2.2.2.1,.int .u64 x.2.2.2.2.2.1,.int .u64 x.2.2.2.2.2.2.1,.int .i64 x.2.2.2.2.2.2.2]]
theorem yBv {args:List Value}{a:Int×Int×Int×Int×Int×Int×Int×Int}(h:yLi args=some a):args=yLj a:=by
 unfold yLi at h
 split at h
 case h_2=>cases h
 cases h;rfl
def yLk (y:Bool):Value:=.bool y
def con30:Con:=Con.opt yLi (fun x=>pref_Less.f x.1 x.2.1 x.2.2.1 x.2.2.2.1 x.2.2.2.2.1 x.2.2.2.2.2.1 x.2.2.2.2.2.2.1 x.2.2.2.2.2.2.2) yLk
def L30:List (Nat×Con):=[(22,con22),(75,con75)]
def yLl:List Value→Option (Int×Int×Int×Int)
 |[.agg ⟨[.int .i64 a,.int .u64 b,.int .u64 c,.int .i64 d]⟩]=>some (a,b,c,d)
 |_=>none
def yLm (x:Int×Int×Int×Int):List Value:=[.agg #[.int .i64 x.1,.int .u64 x.2.1,.int .u64 x.2.2.1,.int .i64 x.2.2.2]]
theorem yBw {args:List Value}{a:Int×Int×Int×Int}(h:yLl args=some a):args=yLm a:=by
 unfold yLl at h
 split at h
 case h_2=>cases h
 cases h;rfl
def yLn (y:Int×Int×Int×Bool):Value:=.tuple #[.agg #[.int .i64 y.1,.int .u64 y.2.1,.int .u64 y.2.2.1],.bool y.2.2.2]
def con17:Con:=Con.opt yLl (fun x=>pref_Netmask.f x.1 x.2.1 x.2.2.1 x.2.2.2) yLn
def L17:List (Nat×Con):=[(22,con22),(67,con67),(66,con66)]
def yLo:List Value→Option (ByteArray)
 |[.string a]=>some (a)
 |_=>none
def yLp (x:ByteArray):List Value:=[.string x]
theorem yBx {args:List Value}{a:ByteArray}(h:yLo args=some a):args=yLp a:=by
 unfold yLo at h
 split at h
 case h_2=>cases h
 cases h;rfl
def zP8 (y:Int×Int×Int×Int×Bool):Value:=.tuple #[.agg #[.int .i64 y.1,.int .u64 y.2.1,.int .u64 y.2.2.1,.int .i64 y.2.2.2.1],.bool y.2.2.2.2]
def con14:Con:=Con.opt yLo (fun x=>pref_Parse.f x) zP8
def L14:List (Nat×Con):=[(59,con59),(60,con60),(61,con61),(22,con22)]
def yLq:List Value→Option (Int×Int×Int×Int)
 |[.agg ⟨[.int .i64 a,.int .u64 b,.int .u64 c,.int .i64 d]⟩]=>some (a,b,c,d)
 |_=>none
def yLr (x:Int×Int×Int×Int):List Value:=[.agg #[.int .i64 x.1,.int .u64 x.2.1,.int .u64 x.2.2.1,.int .i64 x.2.2.2]]
theorem yBy {args:List Value}{a:Int×Int×Int×Int}(h:yLq args=some a):args=yLr a:=by
 unfold yLq at h
 split at h
 case h_2=>cases h
 cases h;rfl
def yLs (y:ByteArray):Value:=.string y
def con21:Con:=Con.opt yLq (fun x=>pref_Print.f x.1 x.2.1 x.2.2.1 x.2.2.2) yLs
def L21:List (Nat×Con):=[(22,con22),(70,con70),(71,con71)]
def yLt:List Value→Option (Int×Int×Int×Int×Int×Int)
 |[.agg ⟨[.int .i64 a,.int .u64 b,.int .u64 c]⟩,.agg ⟨[.int .i64 d,.int .u64 e,.int .u64 f]⟩]=>some (a,b,c,d,e,f)
 |_=>none
def yLu (x:Int×Int×Int×Int×Int×Int):List Value:=[.agg #[.int .i64 x.1,.int .u64 x.2.1,.int .u64 x.2.2.1],.agg #[.int .i64 x.2.2.2.1,.int .u64 x.2.2.2.2.1,.int .u64 x.2.2.2.2.2]]
theorem yBz {args:List Value}{a:Int×Int×Int×Int×Int×Int}(h:yLt args=some a):args=yLu a:=by
 unfold yLt at h
 split at h
 case h_2=>cases h
 cases h;rfl
def yLv (y:Bool):Value:=.bool y
def con76:Con:=Con.opt yLt (fun x=>gleberef1_LessAddr.f x.1 x.2.1 x.2.2.1 x.2.2.2.1 x.2.2.2.2.1 x.2.2.2.2.2) yLv
def L76:List (Nat×Con):=[(38,con38)]
def yLw:List Value→Option (Int×Int×Int×Int×Int×Int×Int×Int)
 |[.agg ⟨[.int .i64 a,.int .u64 b,.int .u64 c,.int .i64 d]⟩,.agg ⟨[.int .i64 e,.int .u64 f,.int .u64 g,.int .i64 h]⟩]=>some (a,b,c,d,e,f,g,h)
 |_=>none
def yLx (x:Int×Int×Int×Int×Int×Int×Int×Int):List Value:=[.agg #[.int .i64 x.1,.int .u64 x.2.1,.int .u64 x.2.2.1,.int .i64 x.2.2.2.1],.agg #[.int .i64 x.2.2.2.2.1,.int .u64 x.2.2.2.2.2.1,.int .u64 x.2.2.2.2.2.2.1,.int .i64 x.2.2.2.2.2.2.2]]
theorem yB0 {args:List Value}{a:Int×Int×Int×Int×Int×Int×Int×Int}(h:yLw args=some a):args=yLx a:=by
 unfold yLw at h
 split at h
 case h_2=>cases h
 cases h;rfl
def yLy (y:Bool):Value:=.bool y
def con31:Con:=Con.opt yLw (fun x=>gleberef1_LessPrefix.f x.1 x.2.1 x.2.2.1 x.2.2.2.1 x.2.2.2.2.1 x.2.2.2.2.2.1 x.2.2.2.2.2.2.1 x.2.2.2.2.2.2.2) yLy
def L31:List (Nat×Con):=[(16,con16),(76,con76)]
def yLz:List Value→Option (Int×Int×Int×Int×Int×Int×Int×Int)
 |[.agg ⟨[.int .i64 a,.int .u64 b,.int .u64 c,.int .i64 d]⟩,.agg ⟨[.int .i64 e,.int .u64 f,.int .u64 g,.int .i64 h]⟩]=>some (a,b,c,d,e,f,g,h)
 |_=>none
def yL0 (x:Int×Int×Int×Int×Int×Int×Int×Int):List Value:=[.agg #[.int .i64 x.1,.int .u64 x.2.1,.int .u64 x.2.2.1,.int .i64 x.2.2.2.1],.agg #[.int .i64 x.2.2.2.2.1,.int .u64 x.2.2.2.2.2.1,.int .u64 x.2.2.2.2.2.2.1,.int .i64 x.2.2.2.2.2.2.2]]
theorem yB1 {args:List Value}{a:Int×Int×Int×Int×Int×Int×Int×Int}(h:yLz args=some a):args=yL0 a:=by
 unfold yLz at h
 split at h
 case h_2=>cases h
 cases h;rfl
def yL1 (y:Bool):Value:=.bool y
def con29:Con:=Con.opt yLz (fun x=>gleberef1_Over.f x.1 x.2.1 x.2.2.1 x.2.2.2.1 x.2.2.2.2.1 x.2.2.2.2.2.1 x.2.2.2.2.2.2.1 x.2.2.2.2.2.2.2) yL1
def L29:List (Nat×Con):=[(16,con16),(27,con27)]
def yL2:List Value→Option (Int×Int×Int×Int)
 |[.agg ⟨[.int .i64 a,.int .u64 b,.int .u64 c,.int .i64 d]⟩]=>some (a,b,c,d)
 |_=>none
def yL3 (x:Int×Int×Int×Int):List Value:=[.agg #[.int .i64 x.1,.int .u64 x.2.1,.int .u64 x.2.2.1,.int .i64 x.2.2.2]]
theorem yB2 {args:List Value}{a:Int×Int×Int×Int}(h:yL2 args=some a):args=yL3 a:=by
 unfold yL2 at h
 split at h
 case h_2=>cases h
 cases h;rfl
def yL4 (y:Int×Int×Int×Bool):Value:=.tuple #[.agg #[.int .i64 y.1,.int .u64 y.2.1,.int .u64 y.2.2.1],.bool y.2.2.2]
def con18:Con:=Con.opt yL2 (fun x=>gleberef1_Netmask.f x.1 x.2.1 x.2.2.1 x.2.2.2) yL4
def L18:List (Nat×Con):=[(16,con16),(65,con65)]
def yL5:List Value→Option (Int×Int×Int×Int)
 |[.agg ⟨[.int .i64 a,.int .u64 b,.int .u64 c,.int .i64 d]⟩]=>some (a,b,c,d)
 |_=>none
def yL6 (x:Int×Int×Int×Int):List Value:=[.agg #[.int .i64 x.1,.int .u64 x.2.1,.int .u64 x.2.2.1,.int .i64 x.2.2.2]]
theorem yB3 {args:List Value}{a:Int×Int×Int×Int}(h:yL5 args=some a):args=yL6 a:=by
 unfold yL5 at h
 split at h
 case h_2=>cases h
 cases h;rfl
def yL7 (y:ByteArray):Value:=.string y
def con11:Con:=Con.opt yL5 (fun x=>gleberef1_PrintPrefix.f x.1 x.2.1 x.2.2.1 x.2.2.2) yL7
def L11:List (Nat×Con):=[(16,con16),(58,con58),(13,con13)]
theorem yRi (a:Int)(b:Int)(c:Int)(d:Int)(Q:Value→Prop):zAx Tryz.prog (cwC L23) (zAd Tryz.f23) (zAn [.agg #[.int .i64 a,.int .u64 b,.int .u64 c,.int .i64 d]] 8) (zAo [] 64) (zA7 Tryz.prog Tryz.f23 fun v _=>Q v)=((∃ x0:Bool,((pref_Ok.f a b c d=some x0)∧zAm (!x0) (Q (Value.agg #[Value.int .i64 0,Value.int .u64 0,Value.int .u64 0])) (Q (Value.agg #[Value.int .i64 a,Value.int .u64 b,Value.int .u64 c]))))):=by kernel_rfl
theorem yRj (a:Int)(b:Int)(c:Int)(d:Int)(e:Int)(f:Int)(g:Int)(h:Int)(Q:Value→Prop):zAx Tryz.prog (cwC L28) (zAd Tryz.f28) (zAn [.agg #[.int .i64 a,.int .u64 b,.int .u64 c,.int .i64 d],.agg #[.int .i64 e,.int .u64 f,.int .u64 g,.int .i64 h]] 8) (zAo [] 64) (zA7 Tryz.prog Tryz.f28 fun v _=>Q v)=((∃ x0:Int×Int×Int,((pref_First.f e f g h=some x0)∧(∃ x1:Bool,((pref_Has.f a b c d (x0.1) (Prod.fst (x0.2)) (Prod.snd (x0.2))=some x1)∧zAm (x1) (Q (Value.bool true)) ((∃ x2:Int×Int×Int,((pref_First.f a b c d=some x2)∧(∃ x3:Bool,((pref_Has.f e f g h (x2.1) (Prod.fst (x2.2)) (Prod.snd (x2.2))=some x3)∧Q (Value.bool x3))))))))))):=by kernel_rfl
theorem yRk (a:Int)(b:Int)(c:Int)(d:Int)(e:Int)(f:Int)(g:Int)(h:Int)(Q:Value→Prop):zAx Tryz.prog (cwC L30) (zAd Tryz.f30) (zAn [.agg #[.int .i64 a,.int .u64 b,.int .u64 c,.int .i64 d],.agg #[.int .i64 e,.int .u64 f,.int .u64 g,.int .i64 h]] 8) (zAo [] 64) (zA7 Tryz.prog Tryz.f30 fun v _=>Q v)=((∃ x0:Bool,((pref_Ok.f a b c d=some x0)∧zAm (!x0) (Q (Value.bool false)) ((∃ x1:Bool,((pref_Ok.f e f g h=some x1)∧zAm (!x1) (Q (Value.bool false)) ((∃ x2:Bool,((addr_Less.f a b c e f g=some x2)∧zAm (x2) (Q (Value.bool true)) (zAm (zAl (a=e)&&(zAl (b=f)&&(zAl (c=g)&&true))) (Q (Value.bool (zAl (d < h)))) (Q (Value.bool false)))))))))))):=by kernel_rfl
theorem yRl (a:Int)(b:Int)(c:Int)(d:Int)(Q:Value→Prop):zAx Tryz.prog (cwC L17) (zAd Tryz.f17) (zAn [.agg #[.int .i64 a,.int .u64 b,.int .u64 c,.int .i64 d]] 8) (zAo [] 64) (zA7 Tryz.prog Tryz.f17 fun v _=>Q v)=((∃ x0:Bool,((pref_Ok.f a b c d=some x0)∧zAm (!x0) (Q (Value.tuple #[Value.agg #[Value.int .i64 0,Value.int .u64 0,Value.int .u64 0],Value.bool false])) (zAm (zAl (a≠4)) (Q (Value.tuple #[Value.agg #[Value.int .i64 0,Value.int .u64 0,Value.int .u64 0],Value.bool false])) ((∃ x1:Int×Int,((pref_mask.f 4 d=some x1)∧(∃ x2:Int×Int,((quad_And.f (x1.1) x1.2 0 4294967295=some x2)∧Q (Value.tuple #[Value.agg #[Value.int .i64 4,Value.int .u64 (x2.1),Value.int .u64 (x2.2)],Value.bool true])))))))))):=by kernel_rfl
theorem yRm (a:ByteArray)(Q:Value→Prop):zAx Tryz.prog (cwC L14) (zAd Tryz.f14) (zAn [.string a] 8) (zAo [] 64) (zA7 Tryz.prog Tryz.f14 fun v _=>Q v)=((∃ x0:ByteArray×ByteArray×Bool,((zC2 a { data:=#[47] }=some x0)∧(∃ x1:Int×Int×Int×Bool,((addr_Parse.f (x0.1)=some x1)∧(∃ x2:Int×Bool,((zKd (Prod.fst (x0.2)) 128=some x2)∧zAm (!Prod.snd (x0.2)) (Q (Value.tuple #[Value.agg #[Value.int .i64 0,Value.int .u64 0,Value.int .u64 0,Value.int .i64 0],Value.bool false])) (zAm (!Prod.snd (Prod.snd (x1.2))) (Q (Value.tuple #[Value.agg #[Value.int .i64 0,Value.int .u64 0,Value.int .u64 0,Value.int .i64 0],Value.bool false])) (zAm (!x2.2) (Q (Value.tuple #[Value.agg #[Value.int .i64 0,Value.int .u64 0,Value.int .u64 0,Value.int .i64 0],Value.bool false])) ((∃ x3:Bool,((pref_Ok.f (x1.1) (Prod.fst (x1.2)) (Prod.fst (Prod.snd (x1.2))) (IntKind.wrap .i64 (zB2 .u64 (x2.1) 255))=some x3)∧zAm (!x3) (Q (Value.tuple #[Value.agg #[Value.int .i64 0,Value.int .u64 0,Value.int .u64 0,Value.int .i64 0],Value.bool false])) (Q (Value.tuple #[Value.agg #[Value.int .i64 (x1.1),Value.int .u64 (Prod.fst (x1.2)),Value.int .u64 (Prod.fst (Prod.snd (x1.2))),Value.int .i64 (IntKind.wrap .i64 (zB2 .u64 (x2.1) 255))],Value.bool true])))))))))))))):=by kernel_rfl
theorem yRn (a:Int)(b:Int)(c:Int)(d:Int)(Q:Value→Prop):zAx Tryz.prog (cwC L21) (zAd Tryz.f21) (zAn [.agg #[.int .i64 a,.int .u64 b,.int .u64 c,.int .i64 d]] 8) (zAo [] 64) (zA7 Tryz.prog Tryz.f21 fun v _=>Q v)=((∃ x0:Bool,((pref_Ok.f a b c d=some x0)∧zAm (!x0) (Q (Value.string { data:=#[] })) ((∃ x1:ByteArray,((prF a b c=some x1)∧((ByteArray.size x1+ByteArray.size { data:=#[47] }≤9223372036854775807)∧(∃ x2:ByteArray,((zKc (IntKind.wrap .u64 d)=some x2)∧((ByteArray.size (x1++{ data:=#[47] })+ByteArray.size x2≤9223372036854775807)∧Q (Value.string (x1++{ data:=#[47] }++x2)))))))))))):=by kernel_rfl
theorem yRo (a:Int)(b:Int)(c:Int)(d:Int)(e:Int)(f:Int)(Q:Value→Prop):zAx Tryz.prog (cwC L76) (zAd Tryz.f76) (zAn [.agg #[.int .i64 a,.int .u64 b,.int .u64 c],.agg #[.int .i64 d,.int .u64 e,.int .u64 f]] 8) (zAo [] 64) (zA7 Tryz.prog Tryz.f76 fun v _=>Q v)=(zAm (zAl (a < d)) (Q (Value.bool true)) (zAm (zAl (a=d)) ((∃ x0:Bool,((gleberef1_Less.f b c e f=some x0)∧Q (Value.bool x0)))) (Q (Value.bool false)))):=by kernel_rfl
theorem yRp (a:Int)(b:Int)(c:Int)(d:Int)(e:Int)(f:Int)(g:Int)(h:Int)(Q:Value→Prop):zAx Tryz.prog (cwC L31) (zAd Tryz.f31) (zAn [.agg #[.int .i64 a,.int .u64 b,.int .u64 c,.int .i64 d],.agg #[.int .i64 e,.int .u64 f,.int .u64 g,.int .i64 h]] 8) (zAo [] 64) (zA7 Tryz.prog Tryz.f31 fun v _=>Q v)=((∃ x0:Bool,((gleberef1_OkPrefix.f a b c d=some x0)∧zAm (!x0) (Q (Value.bool false)) ((∃ x1:Bool,((gleberef1_OkPrefix.f e f g h=some x1)∧zAm (!x1) (Q (Value.bool false)) ((∃ x2:Bool,((gleberef1_LessAddr.f a b c e f g=some x2)∧zAm (x2) (Q (Value.bool true)) (zAm (zAl (a=e)&&(zAl (b=f)&&(zAl (c=g)&&true))) (Q (Value.bool (zAl (d < h)))) (Q (Value.bool false)))))))))))):=by kernel_rfl
theorem yRq (a:Int)(b:Int)(c:Int)(d:Int)(e:Int)(f:Int)(g:Int)(h:Int)(Q:Value→Prop):zAx Tryz.prog (cwC L29) (zAd Tryz.f29) (zAn [.agg #[.int .i64 a,.int .u64 b,.int .u64 c,.int .i64 d],.agg #[.int .i64 e,.int .u64 f,.int .u64 g,.int .i64 h]] 8) (zAo [] 64) (zA7 Tryz.prog Tryz.f29 fun v _=>Q v)=((∃ x0:Bool,((gleberef1_OkPrefix.f a b c d=some x0)∧zAm (x0) ((∃ x1:Bool,((gleberef1_OkPrefix.f e f g h=some x1)∧zAm (x1) ((∃ x2:Bool,((gleberef1_Has.f a b c d e f g=some x2)∧zAm (x2) (Q (Value.bool true)) ((∃ x3:Bool,((gleberef1_Has.f e f g h a b c=some x3)∧Q (Value.bool x3))))))) (Q (Value.bool false))))) (Q (Value.bool false))))):=by kernel_rfl
theorem yRr (a:Int)(b:Int)(c:Int)(d:Int)(Q:Value→Prop):zAx Tryz.prog (cwC L18) (zAd Tryz.f18) (zAn [.agg #[.int .i64 a,.int .u64 b,.int .u64 c,.int .i64 d]] 8) (zAo [] 64) (zA7 Tryz.prog Tryz.f18 fun v _=>Q v)=((∃ x0:Bool,((gleberef1_OkPrefix.f a b c d=some x0)∧zAm (!x0) (Q (Value.tuple #[Value.agg #[Value.int .i64 0,Value.int .u64 0,Value.int .u64 0],Value.bool false])) (zAm (zAl (a≠4)) (Q (Value.tuple #[Value.agg #[Value.int .i64 0,Value.int .u64 0,Value.int .u64 0],Value.bool false])) ((∃ x1:Int×Int,((gleberef1_all.f 4 d=some x1)∧Q (Value.tuple #[Value.agg #[Value.int .i64 4,Value.int .u64 (x1.1),Value.int .u64 (x1.2)],Value.bool true])))))))):=by kernel_rfl
theorem yRs (a:Int)(b:Int)(c:Int)(d:Int)(Q:Value→Prop):zAx Tryz.prog (cwC L11) (zAd Tryz.f11) (zAn [.agg #[.int .i64 a,.int .u64 b,.int .u64 c,.int .i64 d]] 8) (zAo [] 64) (zA7 Tryz.prog Tryz.f11 fun v _=>Q v)=((∃ x0:Bool,((gleberef1_OkPrefix.f a b c d=some x0)∧zAm (!x0) (Q (Value.string { data:=#[] })) ((∃ x1:ByteArray,((yRh a b c=some x1)∧((ByteArray.size x1+ByteArray.size { data:=#[47] }≤9223372036854775807)∧(∃ x2:ByteArray,((yM5 (IntKind.wrap .u64 d)=some x2)∧((ByteArray.size (x1++{ data:=#[47] })+ByteArray.size x2≤9223372036854775807)∧Q (Value.string (x1++{ data:=#[47] }++x2)))))))))))):=by kernel_rfl
end Go.Proofs.YtfnacgojmdbjmaaGreatDoor
end

/- Texts of a proof, joined: words of the print (those that are named here) and printed functions. -/
import Derived.Test.YtfnacgojmdbjmaaGreatDoorPkm11
import Derived.Test.YtfnacgojmdbjmaaGreatDoorPkm10
import Derived.Test.YtfnacgojmdbjmaaGreatDoorRows
import Derived.Test.YtfnacgojmdbjmaaGreatDoorCards
import Derived.Test.YtfnacgojmdbjmaaGreatDoorTie
import Derived.WalkKit
import Derived.ProofKit
import Derived.OpenShut
import Derived.ShutString
import Derived.ChangeOld
import Derived.Below
import Derived.SizedLaws
import Derived.Lib.SmallJoins
set_option linter.unusedSimpArgs false
set_option linter.unusedVariables false
set_option maxRecDepth 100000
noncomputable section
namespace Go.Det
variable {P:Program}
def zXy (n:Nat)(cs:List Value):Option ByteArray:=match zFd n cs with
 |some r=>(match zIc r with|some bs=>some ⟨bs.toArray⟩|none=>none)
 |none=>none
def ySe (P:Program):OpX:=fun o l s K=>match o.op with
 |.convert src dst x=>(match Nat.beq src dst with
  |false=>(match typ P src with
   |some (.slice e)=>(match typ P dst with
    |some .string=>(match typ P e with
     |some (.int .u8)=>(match evalO l x with
      |.slice (some ⟨60,0,none⟩) n _=>(match s.h.get 60 with
       |some (.cells cs _ _)=>∃ t:ByteArray,zXy n cs=some t∧K (.string t) (s.read 60)
       |_=>False)
      |_=>False)
     |_=>False)
    |_=>False)
   |_=>False)
  |true=>False)
 |_=>False
theorem yMk {cw:Cw}{o:Oper}{l:zAz}{s:St}{K:KV}(h:ySe P o l s K):opW P cw o l s K:=by
 unfold ySe at h
 split at h
 case h_2=>exact h.elim
 rename_i src dst x ho
 split at h
 case h_2=>exact h.elim
 rename_i hne
 split at h
 case h_2=>exact h.elim
 rename_i e h1
 split at h
 case h_2=>exact h.elim
 rename_i h2
 split at h
 case h_2=>exact h.elim
 rename_i h3
 split at h
 case h_2=>exact h.elim
 rename_i n c h4
 split at h
 case h_2=>exact h.elim
 rename_i cs el ro h5
 obtain⟨t,ht,hk⟩:=h
 unfold zXy at ht
 split at ht
 case h_2=>cases ht
 rename_i r hr
 split at ht
 case h_2=>cases ht
 rename_i bs hbs
 cases ht
 unfold opW
 rw[ho]
 show zZg (opD P zTp o l s) K
 have e:opD P zTp o l s=zB6 P s src dst (evalO l x):=by
  unfold opD
  rw[ho]
  rfl
 rw[e,h4]
 unfold zB6
 simp only[hne]
 unfold zEf
 rw[h1,h2]
 simp only[h3,h5]
 have e0:zGj 0 cs=cs:=rfl
 rw[e0]
 simp only[hr,hbs]
 exact hk
def oxR (P:Program)(c:Nat)(ds:List Nat)(n:Nat):Option OpX:=match Nat.beq c n with
 |true=>some (ySe P)
 |false=>oxE ds n
theorem yG6 {cw:Cw}(c:Nat)(ds:List Nat):zXo P cw (oxR P c ds):=by
 intro n X h
 unfold oxR at h
 split at h
 ·cases h;exact fun o l s K=>yMk
 ·exact zFl ds n X h
end Go.Det
namespace Go.Proofs.YtfnacgojmdbjmaaGreatDoor
open Go.Det Go.RowKit PRD YtfnacgojmdbjmaaGreatDoorW.PrintWords
def yTc:List Value→Option Unit
 |[]=>some ()
 |_=>none
def con9:Con:=Con.opt yTc (fun _=>some true) fun b=>.bool b
theorem om9 {W:World}(hW:GoodW W):zAr Tryz.prog W 6 9 con9.own:=by
 refine zA5 (fn:=Tryz.f9) (c:=zAd Tryz.f9) hW Tryz.func9 (by kernel_rfl) (by kernel_rfl) fun args v h=>?_
 split at h
 case h_2=>cases h
 rename_i a ha
 cases h
 unfold yTc at ha
 split at ha
 case h_2=>cases ha
 exact⟨rfl,rfl,fun w hG=>yCi w hG⟩
def dI:Value→Option Int
 |.int .i64 n=>some n
 |_=>none
theorem yO3 {v:Value}{b:Int}(h:dI v=some b):v=.int .i64 b:=by
 unfold dI at h
 split at h
 ·cases h;rfl
 ·cases h
def tOf (lv:Value)(cs:List Value):Option (List Int):=match lv with
 |.slice none 0 0=>some []
 |.float .f64 1=>some []
 |.slice (some ⟨61,0,none⟩) n c=>(match Nat.ble n c with
  |true=>(match zFd n cs with|some r=>yC3 dI r|none=>none)
  |false=>none)
 |_=>none
def txG (v a b:Int)(lv:Value)(cs:List Value):Option ByteArray:=match tOf lv cs with
 |some t=>if t.length≤9223372036854775807 then PPPT.glebelaw2_Text.f 300 v a b t else none
 |none=>none
def yFr:List Value→Option (Int×Int×Int×Value)
 |[.int .i64 v,.int .u64 a,.int .u64 b,lv]=>some (v,a,b,lv)
 |_=>none
theorem yCj {args:List Value}{x:Int×Int×Int×Value}(h:yFr args=some x):args=[.int .i64 x.1,.int .u64 x.2.1,.int .u64 x.2.2.1,x.2.2.2]:=by
 unfold yFr at h
 split at h
 case h_2=>cases h
 cases h;rfl
def zUf (args:List Value)(s:St):Option (Value×St):=match yFr args with
 |some x=>(match s.h.get 61 with
  |some (.cells cs _ _)=>(match txG x.1 x.2.1 x.2.2.1 x.2.2.2 cs with
   |some r=>some (.string r,s.read 61)
   |none=>none)
  |_=>none)
 |none=>none
def con12:Con where
 own:=zUf
 w:=fun args s K=>match yFr args with
  |some x=>(match s.h.get 61 with
   |some (.cells cs _ _)=>∃ r,txG x.1 x.2.1 x.2.2.1 x.2.2.2 cs=some r∧K (.string r) (s.read 61)
   |_=>False)
  |none=>False
 ok:=by
  intro args s K h
  unfold zUf
  split at h
  case h_2=>exact h.elim
  rename_i x h1
  split at h
  case h_2=>exact h.elim
  rename_i cs e ro h2
  obtain⟨r,hr,hk⟩:=h
  refine⟨.string r,s.read 61,by simp only[h1,h2,hr],hk,fun K' k=>?_⟩
  try simp only[h1,h2]
  exact⟨r,hr,k⟩
 mono:=by
  intro args s K K' k h
  split at h
  case h_2=>exact h.elim
  rename_i x h1
  split at h
  case h_2=>exact h.elim
  rename_i cs e ro h2
  obtain⟨r,hr,hk⟩:=h
  try simp only[h1,h2]
  exact⟨r,hr,k _ _ hk⟩
theorem yFs (args:List Value):Tr (zUf args):=by
 intro s v s' h
 unfold zUf at h
 split at h
 case h_2=>cases h
 rename_i x h1
 split at h
 case h_2=>cases h
 rename_i cs e ro hg
 split at h
 case h_2=>cases h
 rename_i r hr
 cases h
 refine⟨G1.read hg,fun u _ hbe hag _=>⟨u.read 61,?_,PW.read hbe 61⟩⟩
 have e1:u.h.get 61=some (.cells cs e ro):=(hag 61 zBq).trans hg
 unfold zUf
 simp only[h1,e1,hr]
theorem ySf {w:World}{A:Option Addr}{l:List Int}(hl:l.length≤9223372036854775807)(h:yAs (Value.int .i64) w A l):Kd.C (Kd.int .i64) w A l.length l:=by
 refine⟨rfl,hl,fun h0=>?_⟩
 rcases h with rfl|⟨b,o,rfl,h⟩
 ·simp at h0
 refine⟨_,rfl,fun j p hj=>⟨[.int .i64 p],rfl,rfl,fun i u hu=>?_⟩⟩
 match i,hu with
 |0,hu=>
  cases hu
  have:=h j p hj
  unfold Addr.add
  split
  ·rename_i q
   have:j=0:=by simpa [Kd.int,Kd.scalar] using q
   subst this;simpa using ‹w.cell? _=_›
  ·simpa [Kd.int,Kd.scalar] using this
 |i+1,hu=>simp at hu
theorem xAe {W:World}(hW:GoodW W):zAr Tryz.prog W 6 12 con12.own:=by
 refine⟨yFs,fun W1 k1 args s v s' ed φ w args' H _ hA _ _=>?_⟩
 change zUf args s=some (v,s') at ed
 unfold zUf at ed
 split at ed
 case h_2=>cases ed
 rename_i x h1
 split at ed
 case h_2=>cases ed
 rename_i cs e ro hg
 split at ed
 case h_2=>cases ed
 rename_i r hr
 cases ed
 obtain rfl:=yCj h1
 obtain⟨vv,a,b,lv⟩:=x
 unfold txG at hr
 split at hr
 case h_2=>cases hr
 rename_i t ht
 simp only at ht hr
 split at hr
 case isFalse=>cases hr
 rename_i hlen
 have kw:Later W w:=k1.trans H.later
 have hG:GoodW w:=hW.later kw.size kw.old
 obtain⟨A,c',rfl,hc,hrow⟩:∃ A c',args'=[.int .i64 vv,.int .u64 a,.int .u64 b,.slice A t.length c']∧t.length≤c'∧yAs (Value.int .i64) w A t:=by
  obtain⟨hl,hA⟩:=hA
  match args',hl with
  |[u0,u1,u2,u3],_=>
   have e0:u0=.int .i64 vv:=by have:=hA 0;cases this;rfl
   have e1:u1=.int .u64 a:=by have:=hA 1;cases this;rfl
   have e2:u2=.int .u64 b:=by have:=hA 2;cases this;rfl
   have hv:VR φ lv u3:=hA 3
   subst e0 e1 e2
   unfold tOf at ht
   split at ht
   ·cases ht
    cases hv with
    |snil _ _ _=>exact⟨none,0,rfl,Nat.zero_le _,.inl rfl⟩
   ·cases ht
    cases hv with
    |emp a c _=>exact⟨a,c,rfl,Nat.zero_le _,.inl rfl⟩
   ·rename_i n c _
    split at ht
    case h_2=>cases ht
    rename_i hle
    split at ht
    case h_2=>cases ht
    rename_i rr hrr
    have hle:=Nat.le_of_ble_eq_true hle
    have hx:=zPw (e:=Value.int .i64) (fun v b h=>yO3 h) ht
    obtain⟨q1,q2⟩:=zB3 hrr
    have hn:n=t.length:=by
     have:rr.length=t.length:=by rw[hx,List.length_map]
     rw[← this,q1,List.length_take];omega
    obtain⟨b2,sh,sz,cc,rfl,hφ,hcc⟩:∃ b2 sh sz cc,u3=.slice (some ⟨b2,sh+0,none⟩) n cc∧φ 61=some (b2,sh,sz)∧n≤cc:=by
     cases hv with
     |slice _ _ b2 sh sz _ _ hφ hlt=>exact⟨b2,sh,sz,c,rfl,hφ,hle⟩
     |sliceU _ _ b2 sh sz _ cc _ hφ _ _ hle2=>exact⟨b2,sh,sz,cc,rfl,hφ,by omega⟩
    subst hn
    refine⟨_,cc,rfl,hcc,.inr ⟨b2,sh+0,rfl,fun j y hj=>?_⟩⟩
    obtain⟨b3,sh2,sz2,c2,fz,q⟩:=H.cells _ _ _ _ hg
    have:=q.at_
    rw[hφ] at this;cases this
    have hjl:j < t.length:=(List.getElem?_eq_some_iff.1 hj).1
    have hcs:cs.getD j und=.int .i64 y:=by
     have h7:rr[j]?=some (.int .i64 y):=by rw[hx,List.getElem?_map,hj];rfl
     rw[q1,List.getElem?_take,if_pos hjl] at h7
     rw[List.getD_eq_getElem?_getD,h7];rfl
    have hlt:j < cs.length:=by omega
    have hv:=q.cell j hlt
    rw[hcs] at hv
    have hv:=zIs (v:=.int .i64 y) rfl hv (by intro h;cases h)
    unfold World.cell?
    rw[q.blk]
    simp only[Option.isSome_none,Bool.false_eq_true,if_false]
    have hfit:=q.fit
    have hsz:=q.size
    rw[Array.getD_eq_getD_getElem?,Array.getElem?_eq_getElem (by omega)] at hv
    rw[show sh+0+j=sh+j by omega,Array.getElem?_eq_getElem (by omega)]
    simpa using hv
   ·cases ht
 rw[zBj (fn:=Tryz.f12) (c:=zAd Tryz.f12) Tryz.func12 (by kernel_rfl) (by kernel_rfl)]
 refine(PPPT.glebelaw2_Text.calls 300 vv a b A c' t r w (ySf hlen hrow) hc hG hr).mono ?_
 rintro z W' ⟨rfl,hB⟩
 exact⟨_,φ,rfl,Ext.refl _ _ _,VR.string _,H.keep ⟨hB.os,hB.output,hB.size,hB.block⟩ hB.tape⟩
def L3:List (Nat×Con):=[(10,con10),(11,con11),(12,con12),(13,con13),(14,con14),(15,con15),(16,con16),(17,con17),(18,con18),(19,con19),(20,con20),(21,con21),(22,con22),(23,con23),(24,con24),(25,con25),(26,con26),(27,con27),(28,con28),(29,con29),(30,con30),(31,con31),(9,con9)]
theorem yTd {W:World}(hW:GoodW W):OwnsAll Tryz.prog W 6 (yC2 L3):=
 OwnsAll.con (yUf hW) (OwnsAll.con (yX0 hW) (OwnsAll.con (xAe hW) (OwnsAll.con (yS4 hW) (OwnsAll.con (yXv hW) (OwnsAll.con (xAd hW) (OwnsAll.con (yGk hW) (OwnsAll.con (yS6 hW) (OwnsAll.con (yS7 hW) (OwnsAll.con (yX3 hW) (OwnsAll.con (yX4 hW) (OwnsAll.con (yXw hW) (OwnsAll.con (yGl hW) (OwnsAll.con (yS5 hW) (OwnsAll.con (yUh hW) (OwnsAll.con (yUe hW) (OwnsAll.con (yS0 hW) (OwnsAll.con (ySz hW) (OwnsAll.con (yXt hW) (OwnsAll.con (yXz hW) (OwnsAll.con (yXu hW) (OwnsAll.con (yXy hW) (OwnsAll.con (om9 hW) (zAh W 6)))))))))))))))))))))))
def zQb (rc:List Value)(te:TypeId)(lc:List Value)(tf:TypeId):Heap:=zOd [(60,rc,te,true),(61,lc,tf,true)]
abbrev P4:Type:=Int×Int×Int×Int
def zUg (x:P4):List Value:=[.int .i64 x.1,.int .u64 x.2.1,.int .u64 x.2.2.1,.int .i64 x.2.2.2]
theorem zXz (N:Nat)(t:List P4):yNw N (t.flatMap zUg)=true:=by
 refine List.all_eq_true.2 fun v hv=>?_
 obtain⟨y,_,hy⟩:=List.mem_flatMap.1 hv
 simp only[zUg,List.mem_cons,List.not_mem_nil,or_false] at hy
 rcases hy with rfl|rfl|rfl|rfl<;>rfl
structure LwV where
 x0:Int
 x1:Int
 x2:Int
 q0:Int
 q1:Int
 q2:Int
 q3:Int
 t:List P4
 i:Int
def yMl (v:LwV):zTz:=[(15,.pointer (some ⟨65,0,none⟩)),(17,.pointer (some ⟨66,0,none⟩)),(108,.slice (some ⟨77,0,none⟩) 3 3),(109,.int .i64 3),(110,.int .i64 v.i)]
def yTe (v:LwV):List Value:=[.int .i64 v.x0,.int .u64 v.x1,.int .u64 v.x2]
def yTf (v:LwV):List Value:=[.int .i64 v.q0,.int .u64 v.q1,.int .u64 v.q2,.int .i64 v.q3]
def yM6 (v:LwV):yGn:=[(65,yTe v,57,false),(66,yTf v,61,false),(77,v.t.flatMap zUg,61,false)]
def zQc (v:LwV)(l:zAz)(s:St):Prop:=zR6 l (yMl v)∧yGp s 65 (yTe v) 57 false∧yGp s 66 (yTf v) 61 false∧yQq s 77 (v.t.flatMap zUg) 61 false
theorem zJ6 {v:LwV}{l:zAz}{s:St}(h:zQc v l s):zJ4 l s (zF5 (yMl v)) (zQg (yM6 v) 78):=by
 obtain⟨h1,h2,h3,h4⟩:=h
 refine zSa (by decide) (fun x hx=>?_) (fun x hx=>?_) h1 ⟨zHq h2,zHq h3,yEm h4,trivial⟩
 ·simp only[yMl,List.mem_cons,List.not_mem_nil,or_false] at hx
  rcases hx with rfl|rfl|rfl|rfl|rfl<;>rfl
 ·simp only[yM6,List.mem_cons,List.not_mem_nil,or_false] at hx
  rcases hx with rfl|rfl|rfl
  ·exact⟨show(64:Nat)≤65∧65 < 78 by decide,rfl⟩
  ·exact⟨show(64:Nat)≤66∧66 < 78 by decide,rfl⟩
  ·exact⟨show(64:Nat)≤77∧77 < 78 by decide,zXz _ _⟩
def zOr:Code:=match zCd (zAd Tryz.f3) with|_::b::_=>b|_=>.skip
def zSs:Code:=match zCd (zAd Tryz.f3) with|a::_=>a|_=>.skip
def yO4 (b:Bool)(n:Nat):Option OpX:=match Nat.beq n 111 with
 |true=>some (yPv b)
 |false=>(match Nat.beq n 113 with|true=>some (yQr zUg 30 4)|false=>none)
theorem yCk (b:Bool):zXo Tryz.prog (cwC L3) (yO4 b):=by
 intro n X hX o l s K h
 unfold yO4 at hX
 split at hX
 ·cases hX;exact yB8 h
 ·split at hX
  ·cases hX
   exact yJy (n:=3) (fun _=>rfl) (by kernel_rfl) (by kernel_rfl) h
  ·cases hX
def zOs (v v1:LwV):Prop:=zEl Tryz.prog (cwC L3) (yO4 true) lxM zOr (zF5 (yMl v)) (zQg (yM6 v) 78) (zHs (fun l s=>zQc v1 l s) (fun _ _ _=>False))
def yTg:LpX:=fun l s K=>∃ v:LwV,zQc v l s∧∃ v':LwV,Star zOs v v'∧zEl Tryz.prog (cwC L3) (yO4 false) lxM zOr (zF5 (yMl v')) (zQg (yM6 v') 78) (zHs (fun _ _=>False) K)
def yMm (n:Nat):Option LpX:=match Nat.beq n 14 with
 |true=>some yTg
 |false=>lxU Tryz.prog (cwC L3) (oxR Tryz.prog 50 [71]) (zCd (zAd Tryz.f3)) 5 n
theorem yCl:yGm Tryz.prog (cwC L3) yMm (zCd (zAd Tryz.f3)):=by
 have e:zCd (zAd Tryz.f3)=[zSs,zOr]:=by kernel_rfl
 intro a ha X hX l s K h
 have ha':=ha
 rw[e] at ha
 rcases List.mem_cons.1 ha with rfl|ha
 ·have e2:yMm (zMk zSs)=lxU Tryz.prog (cwC L3) (oxR Tryz.prog 50 [71]) (zCd (zAd Tryz.f3)) 5 (zMk zSs):=by
   have e3:Nat.beq (zMk zSs) 14=false:=by kernel_rfl
   unfold yMm
   rw[e3]
  rw[e2] at hX
  exact yGq (zA0 L3) (yG6 50 [71]) 5 (by kernel_rfl) zSs ha' X hX l s K h
 ·obtain rfl:=List.mem_singleton.1 ha
  have e2:yMm (zMk zOr)=some yTg:=by
   have e3:Nat.beq (zMk zOr) 14=true:=by kernel_rfl
   unfold yMm
   rw[e3]
  rw[e2] at hX
  cases hX
  obtain⟨v,hv,v',hs,he⟩:=h
  have hm:=zA0 L3
  refine zMm hm (fun v=>zF5 (yMl v)) (fun v=>zQg (yM6 v) 78) (fun v v1 hstep=>?_) hs (zJ6 hv) (zBc hm (yCk false) _ (zOi _) he)
  exact zBl hm _ (zC9 (fun l s q=>zJ6 q) fun _ _ _ q=>q) (zBc hm (yCk true) _ (zOi _) hstep)
theorem ySg (v v1:LwV)(Kp:Prop):zEl Tryz.prog (cwC L3) (yO4 true) lxM zOr (zF5 (yMl v)) (zQg (yM6 v) 78) (zHs (fun l s=>zQc v1 l s) (fun _ _ _=>Kp))=(((true=true)∧((zAl (LwV.i v < 3)=true)∧(((0≤LwV.i v)∧(LwV.i v < (↑3:Int)))∧((30=30)∧(∃ x0:List P4,((List.flatMap zUg (LwV.t v)=List.flatMap zUg x0)∧(∃ x1:Nat,((0+Int.toNat (LwV.i v) * 4=x1 * 4)∧(∃ x2:P4,((x0[x1]?=some x2)∧(∃ x3:Bool,((gleberef1_OkPrefix.f (x2.1) (Prod.fst (x2.2)) (Prod.fst (Prod.snd (x2.2))) (Prod.snd (Prod.snd (x2.2)))=some x3)∧zAm (x3) ((∃ x4:Int×Int×Int×Bool,((pref_Netmask.f (x2.1) (Prod.fst (x2.2)) (Prod.fst (Prod.snd (x2.2))) (Prod.snd (Prod.snd (x2.2)))=some x4)∧(∃ x5:Int×Int×Int×Bool,((gleberef1_Netmask.f (x2.1) (Prod.fst (x2.2)) (Prod.fst (Prod.snd (x2.2))) (Prod.snd (Prod.snd (x2.2)))=some x5)∧(∃ x6:P5,((yFi (LwV.x0 v) (LwV.x1 v) (LwV.x2 v) x4.1 (Prod.fst (x4.2)) (Prod.fst (Prod.snd (x4.2)))=some x6)∧(∃ x7:P5,((yFj (LwV.x0 v) (LwV.x1 v) (LwV.x2 v) x5.1 (Prod.fst (x5.2)) (Prod.fst (Prod.snd (x5.2)))=some x7)∧(∃ x8:ByteArray,((pref_Print.f (x2.1) (Prod.fst (x2.2)) (Prod.fst (Prod.snd (x2.2))) (Prod.snd (Prod.snd (x2.2)))=some x8)∧(∃ x9:ByteArray,((gleberef1_PrintPrefix.f (x2.1) (Prod.fst (x2.2)) (Prod.fst (Prod.snd (x2.2))) (Prod.snd (Prod.snd (x2.2)))=some x9)∧zAm (!zAl (x8.data.toList=x9.data.toList)) (Kp) ((∃ x10:Bool,((pref_Ok.f (x2.1) (Prod.fst (x2.2)) (Prod.fst (Prod.snd (x2.2))) (Prod.snd (Prod.snd (x2.2)))=some x10)∧(∃ x11:Bool,((gleberef1_OkPrefix.f (x2.1) (Prod.fst (x2.2)) (Prod.fst (Prod.snd (x2.2))) (Prod.snd (Prod.snd (x2.2)))=some x11)∧zAm (!x10==x11) (Kp) ((∃ x12:Int×Int×Int,((pref_First.f (x2.1) (Prod.fst (x2.2)) (Prod.fst (Prod.snd (x2.2))) (Prod.snd (Prod.snd (x2.2)))=some x12)∧zAm (!(zAl (x12.1=x2.1)&&(zAl (Prod.fst (x12.2)=Prod.fst (x2.2))&&(zAl (Prod.snd (x12.2)=Prod.fst (Prod.snd (x2.2)))&&true)))) (Kp) ((∃ x13:Int×Int×Int,((pref_Last.f (x2.1) (Prod.fst (x2.2)) (Prod.fst (Prod.snd (x2.2))) (Prod.snd (Prod.snd (x2.2)))=some x13)∧(∃ x14:Int×Int×Int,((gleberef1_Last.f (x2.1) (Prod.fst (x2.2)) (Prod.fst (Prod.snd (x2.2))) (Prod.snd (Prod.snd (x2.2)))=some x14)∧zAm (!(zAl (x13.1=x14.1)&&(zAl (Prod.fst (x13.2)=Prod.fst (x14.2))&&(zAl (Prod.snd (x13.2)=Prod.snd (x14.2))&&true)))) (Kp) ((∃ x15:Bool,((pref_Has.f (x2.1) (Prod.fst (x2.2)) (Prod.fst (Prod.snd (x2.2))) (Prod.snd (Prod.snd (x2.2))) (LwV.x0 v) (LwV.x1 v) (LwV.x2 v)=some x15)∧(∃ x16:Bool,((gleberef1_Has.f (x2.1) (Prod.fst (x2.2)) (Prod.fst (Prod.snd (x2.2))) (Prod.snd (Prod.snd (x2.2))) (LwV.x0 v) (LwV.x1 v) (LwV.x2 v)=some x16)∧zAm (!x15==x16) (Kp) ((∃ x17:Bool,((pref_Over.f (x2.1) (Prod.fst (x2.2)) (Prod.fst (Prod.snd (x2.2))) (Prod.snd (Prod.snd (x2.2))) (LwV.q0 v) (LwV.q1 v) (LwV.q2 v) (LwV.q3 v)=some x17)∧(∃ x18:Bool,((gleberef1_Over.f (x2.1) (Prod.fst (x2.2)) (Prod.fst (Prod.snd (x2.2))) (Prod.snd (Prod.snd (x2.2))) (LwV.q0 v) (LwV.q1 v) (LwV.q2 v) (LwV.q3 v)=some x18)∧zAm (!x17==x18) (Kp) ((∃ x19:Bool,((pref_Less.f (x2.1) (Prod.fst (x2.2)) (Prod.fst (Prod.snd (x2.2))) (Prod.snd (Prod.snd (x2.2))) (LwV.q0 v) (LwV.q1 v) (LwV.q2 v) (LwV.q3 v)=some x19)∧(∃ x20:Bool,((gleberef1_LessPrefix.f (x2.1) (Prod.fst (x2.2)) (Prod.fst (Prod.snd (x2.2))) (Prod.snd (Prod.snd (x2.2))) (LwV.q0 v) (LwV.q1 v) (LwV.q2 v) (LwV.q3 v)=some x20)∧zAm (!x19==x20) (Kp) (zAm (!(zAl (x4.1=x5.1)&&(zAl (Prod.fst (x4.2)=Prod.fst (x5.2))&&(zAl (Prod.fst (Prod.snd (x4.2))=Prod.fst (Prod.snd (x5.2)))&&true)))) (Kp) (zAm (!Prod.snd (Prod.snd (x4.2))==Prod.snd (Prod.snd (x5.2))) (Kp) (zAm (!(zAl (x6.1=x7.1)&&(zAl (Prod.fst (x6.2)=Prod.fst (x7.2))&&(zAl (Prod.fst (Prod.snd (x6.2))=Prod.fst (Prod.snd (x7.2)))&&(zAl (Prod.fst (Prod.snd (Prod.snd (x6.2)))=Prod.fst (Prod.snd (Prod.snd (x7.2))))&&true))))) (Kp) (zAm (!Prod.snd (Prod.snd (Prod.snd (x6.2)))==Prod.snd (Prod.snd (Prod.snd (x7.2)))) (Kp) ((∃ x21:P5,((yFi (LwV.q0 v) (LwV.q1 v) (LwV.q2 v) (LwV.x0 v) (LwV.x1 v) (LwV.x2 v)=some x21)∧(∃ x22:P5,((yFj (LwV.q0 v) (LwV.q1 v) (LwV.q2 v) (LwV.x0 v) (LwV.x1 v) (LwV.x2 v)=some x22)∧zAm (!(zAl (x21.1=x22.1)&&(zAl (Prod.fst (x21.2)=Prod.fst (x22.2))&&(zAl (Prod.fst (Prod.snd (x21.2))=Prod.fst (Prod.snd (x22.2)))&&(zAl (Prod.fst (Prod.snd (Prod.snd (x21.2)))=Prod.fst (Prod.snd (Prod.snd (x22.2))))&&true))))) (Kp) (zAm (!Prod.snd (Prod.snd (Prod.snd (x21.2)))==Prod.snd (Prod.snd (Prod.snd (x22.2)))) (Kp) ((((Value.pointer (some { block:=65,off:=0 })=Value.pointer (some { block:=65,off:=0 }))∧((Value.pointer (some { block:=66,off:=0 })=Value.pointer (some { block:=66,off:=0 }))∧((Value.slice (some { block:=77,off:=0 }) 3 3=Value.slice (some { block:=77,off:=0 }) 3 3)∧((Value.int .i64 3=Value.int .i64 3)∧((Value.int .i64 (IntKind.wrap .i64 (LwV.i v+1))=Value.int .i64 (LwV.i v1))∧True)))))∧((((Value.int .i64 (LwV.x0 v)=Value.int .i64 (LwV.x0 v1))∧((Value.int .u64 (LwV.x1 v)=Value.int .u64 (LwV.x1 v1))∧((Value.int .u64 (LwV.x2 v)=Value.int .u64 (LwV.x2 v1))∧True)))∧((57=57)∧(false=false)))∧((((Value.int .i64 (LwV.q0 v)=Value.int .i64 (LwV.q0 v1))∧((Value.int .u64 (LwV.q1 v)=Value.int .u64 (LwV.q1 v1))∧((Value.int .u64 (LwV.q2 v)=Value.int .u64 (LwV.q2 v1))∧((Value.int .i64 (LwV.q3 v)=Value.int .i64 (LwV.q3 v1))∧True))))∧((61=61)∧(false=false)))∧((List.flatMap zUg (LwV.t v)=List.flatMap zUg (LwV.t v1))∧((61=61)∧(false=false)))))))))))))))))))))))))))))))))))))))))))))))))))))))))) ((∃ x4:Int×Int×Int×Bool,((pref_Netmask.f (x2.1) (Prod.fst (x2.2)) (Prod.fst (Prod.snd (x2.2))) (Prod.snd (Prod.snd (x2.2)))=some x4)∧(∃ x5:Int×Int×Int×Bool,((gleberef1_Netmask.f (x2.1) (Prod.fst (x2.2)) (Prod.fst (Prod.snd (x2.2))) (Prod.snd (Prod.snd (x2.2)))=some x5)∧(∃ x6:P5,((yFi (LwV.x0 v) (LwV.x1 v) (LwV.x2 v) x4.1 (Prod.fst (x4.2)) (Prod.fst (Prod.snd (x4.2)))=some x6)∧(∃ x7:P5,((yFj (LwV.x0 v) (LwV.x1 v) (LwV.x2 v) x5.1 (Prod.fst (x5.2)) (Prod.fst (Prod.snd (x5.2)))=some x7)∧(∃ x8:ByteArray,((pref_Print.f (x2.1) (Prod.fst (x2.2)) (Prod.fst (Prod.snd (x2.2))) (Prod.snd (Prod.snd (x2.2)))=some x8)∧(∃ x9:ByteArray,((gleberef1_PrintPrefix.f (x2.1) (Prod.fst (x2.2)) (Prod.fst (Prod.snd (x2.2))) (Prod.snd (Prod.snd (x2.2)))=some x9)∧zAm (!zAl (x8.data.toList=x9.data.toList)) (Kp) ((∃ x10:Bool,((pref_Ok.f (x2.1) (Prod.fst (x2.2)) (Prod.fst (Prod.snd (x2.2))) (Prod.snd (Prod.snd (x2.2)))=some x10)∧(∃ x11:Bool,((gleberef1_OkPrefix.f (x2.1) (Prod.fst (x2.2)) (Prod.fst (Prod.snd (x2.2))) (Prod.snd (Prod.snd (x2.2)))=some x11)∧zAm (!x10==x11) (Kp) ((∃ x12:Int×Int×Int,((pref_First.f (x2.1) (Prod.fst (x2.2)) (Prod.fst (Prod.snd (x2.2))) (Prod.snd (Prod.snd (x2.2)))=some x12)∧zAm (!(zAl (x12.1=0)&&(zAl (Prod.fst (x12.2)=0)&&(zAl (Prod.snd (x12.2)=0)&&true)))) (Kp) ((∃ x13:Int×Int×Int,((pref_Last.f (x2.1) (Prod.fst (x2.2)) (Prod.fst (Prod.snd (x2.2))) (Prod.snd (Prod.snd (x2.2)))=some x13)∧(∃ x14:Int×Int×Int,((gleberef1_Last.f (x2.1) (Prod.fst (x2.2)) (Prod.fst (Prod.snd (x2.2))) (Prod.snd (Prod.snd (x2.2)))=some x14)∧zAm (!(zAl (x13.1=x14.1)&&(zAl (Prod.fst (x13.2)=Prod.fst (x14.2))&&(zAl (Prod.snd (x13.2)=Prod.snd (x14.2))&&true)))) (Kp) ((∃ x15:Bool,((pref_Has.f (x2.1) (Prod.fst (x2.2)) (Prod.fst (Prod.snd (x2.2))) (Prod.snd (Prod.snd (x2.2))) (LwV.x0 v) (LwV.x1 v) (LwV.x2 v)=some x15)∧(∃ x16:Bool,((gleberef1_Has.f (x2.1) (Prod.fst (x2.2)) (Prod.fst (Prod.snd (x2.2))) (Prod.snd (Prod.snd (x2.2))) (LwV.x0 v) (LwV.x1 v) (LwV.x2 v)=some x16)∧zAm (!x15==x16) (Kp) ((∃ x17:Bool,((pref_Over.f (x2.1) (Prod.fst (x2.2)) (Prod.fst (Prod.snd (x2.2))) (Prod.snd (Prod.snd (x2.2))) (LwV.q0 v) (LwV.q1 v) (LwV.q2 v) (LwV.q3 v)=some x17)∧(∃ x18:Bool,((gleberef1_Over.f (x2.1) (Prod.fst (x2.2)) (Prod.fst (Prod.snd (x2.2))) (Prod.snd (Prod.snd (x2.2))) (LwV.q0 v) (LwV.q1 v) (LwV.q2 v) (LwV.q3 v)=some x18)∧zAm (!x17==x18) (Kp) ((∃ x19:Bool,((pref_Less.f (x2.1) (Prod.fst (x2.2)) (Prod.fst (Prod.snd (x2.2))) (Prod.snd (Prod.snd (x2.2))) (LwV.q0 v) (LwV.q1 v) (LwV.q2 v) (LwV.q3 v)=some x19)∧(∃ x20:Bool,((gleberef1_LessPrefix.f (x2.1) (Prod.fst (x2.2)) (Prod.fst (Prod.snd (x2.2))) (Prod.snd (Prod.snd (x2.2))) (LwV.q0 v) (LwV.q1 v) (LwV.q2 v) (LwV.q3 v)=some x20)∧zAm (!x19==x20) (Kp) (zAm (!(zAl (x4.1=x5.1)&&(zAl (Prod.fst (x4.2)=Prod.fst (x5.2))&&(zAl (Prod.fst (Prod.snd (x4.2))=Prod.fst (Prod.snd (x5.2)))&&true)))) (Kp) (zAm (!Prod.snd (Prod.snd (x4.2))==Prod.snd (Prod.snd (x5.2))) (Kp) (zAm (!(zAl (x6.1=x7.1)&&(zAl (Prod.fst (x6.2)=Prod.fst (x7.2))&&(zAl (Prod.fst (Prod.snd (x6.2))=Prod.fst (Prod.snd (x7.2)))&&(zAl (Prod.fst (Prod.snd (Prod.snd (x6.2)))=Prod.fst (Prod.snd (Prod.snd (x7.2))))&&true))))) (Kp) (zAm (!Prod.snd (Prod.snd (Prod.snd (x6.2)))==Prod.snd (Prod.snd (Prod.snd (x7.2)))) (Kp) ((∃ x21:P5,((yFi (LwV.q0 v) (LwV.q1 v) (LwV.q2 v) (LwV.x0 v) (LwV.x1 v) (LwV.x2 v)=some x21)∧(∃ x22:P5,((yFj (LwV.q0 v) (LwV.q1 v) (LwV.q2 v) (LwV.x0 v) (LwV.x1 v) (LwV.x2 v)=some x22)∧zAm (!(zAl (x21.1=x22.1)&&(zAl (Prod.fst (x21.2)=Prod.fst (x22.2))&&(zAl (Prod.fst (Prod.snd (x21.2))=Prod.fst (Prod.snd (x22.2)))&&(zAl (Prod.fst (Prod.snd (Prod.snd (x21.2)))=Prod.fst (Prod.snd (Prod.snd (x22.2))))&&true))))) (Kp) (zAm (!Prod.snd (Prod.snd (Prod.snd (x21.2)))==Prod.snd (Prod.snd (Prod.snd (x22.2)))) (Kp) ((((Value.pointer (some { block:=65,off:=0 })=Value.pointer (some { block:=65,off:=0 }))∧((Value.pointer (some { block:=66,off:=0 })=Value.pointer (some { block:=66,off:=0 }))∧((Value.slice (some { block:=77,off:=0 }) 3 3=Value.slice (some { block:=77,off:=0 }) 3 3)∧((Value.int .i64 3=Value.int .i64 3)∧((Value.int .i64 (IntKind.wrap .i64 (LwV.i v+1))=Value.int .i64 (LwV.i v1))∧True)))))∧((((Value.int .i64 (LwV.x0 v)=Value.int .i64 (LwV.x0 v1))∧((Value.int .u64 (LwV.x1 v)=Value.int .u64 (LwV.x1 v1))∧((Value.int .u64 (LwV.x2 v)=Value.int .u64 (LwV.x2 v1))∧True)))∧((57=57)∧(false=false)))∧((((Value.int .i64 (LwV.q0 v)=Value.int .i64 (LwV.q0 v1))∧((Value.int .u64 (LwV.q1 v)=Value.int .u64 (LwV.q1 v1))∧((Value.int .u64 (LwV.q2 v)=Value.int .u64 (LwV.q2 v1))∧((Value.int .i64 (LwV.q3 v)=Value.int .i64 (LwV.q3 v1))∧True))))∧((61=61)∧(false=false)))∧((List.flatMap zUg (LwV.t v)=List.flatMap zUg (LwV.t v1))∧((61=61)∧(false=false))))))))))))))))))))))))))))))))))))))))))))))))))))))))))))))))))))))):=by kernel_rfl
theorem ySh (n c:Nat)(rc lc:List Value)(te tf:TypeId)(v a b n0:Int)(lv:Value)(p0 p1 p2 p3 xa xb xc:Int)(Q:Value→Prop):zEl Tryz.prog (cwC L3) (oxR Tryz.prog 50 [71]) yMm (zAd Tryz.f3) (zAn [.slice (some ⟨60,0,none⟩) n c,.int .i64 v,.int .u64 a,.int .u64 b,.int .i64 n0,lv,.agg #[.int .i64 p0,.int .u64 p1,.int .u64 p2,.int .i64 p3],.agg #[.int .i64 xa,.int .u64 xb,.int .u64 xc]] 8) (zAo (zQb rc te lc tf) 64) (zA7 Tryz.prog Tryz.f3 fun v _=>Q v)=(zAm (zAl (100 < (↑n:Int))) ((∃ x0:Bool,((some true=some x0)∧Q (Value.bool x0)))) ((∃ x0:Int×Int×Int×Int,((glebelaw3_Pre.f v a b n0=some x0)∧(∃ x1:ByteArray,((zXy n rc=some x1)∧(∃ x2:ByteArray,((gleberef1_PrintPrefix.f (x0.1) (Prod.fst (x0.2)) (Prod.fst (Prod.snd (x0.2))) (Prod.snd (Prod.snd (x0.2)))=some x2)∧(∃ x3:ByteArray,((txG v a b lv lc=some x3)∧(∃ x4:ByteArray,((txG v a b (Value.slice none 0 0) lc=some x4)∧((ByteArray.size x4+ByteArray.size { data:=#[47] }≤9223372036854775807)∧(∃ x5:ByteArray,((yM5 (IntKind.wrap .u64 (zB2 .i64 n0 255))=some x5)∧((ByteArray.size (x4++{ data:=#[47] })+ByteArray.size x5≤9223372036854775807)∧((true=true)∧((((0:Int)≤0)∧(0 < (↑4:Int)))∧(∃ x6:Int×Int×Int×Int×Bool,((pref_Parse.f x1=some x6)∧(∃ x7:Int×Int×Int×Int×Bool,((gleberef1_Prefix.f x1=some x7)∧zAm (!(zAl (x6.1=x7.1)&&(zAl (Prod.fst (x6.2)=Prod.fst (x7.2))&&(zAl (Prod.fst (Prod.snd (x6.2))=Prod.fst (Prod.snd (x7.2)))&&(zAl (Prod.fst (Prod.snd (Prod.snd (x6.2)))=Prod.fst (Prod.snd (Prod.snd (x7.2))))&&true))))) (Q (Value.bool false)) (zAm (!Prod.snd (Prod.snd (Prod.snd (x6.2)))==Prod.snd (Prod.snd (Prod.snd (x7.2)))) (Q (Value.bool false)) (((true=true)∧((((0:Int)≤1)∧(1 < (↑4:Int)))∧(∃ x8:Int×Int×Int×Int×Bool,((pref_Parse.f x2=some x8)∧(∃ x9:Int×Int×Int×Int×Bool,((gleberef1_Prefix.f x2=some x9)∧zAm (!(zAl (x8.1=x9.1)&&(zAl (Prod.fst (x8.2)=Prod.fst (x9.2))&&(zAl (Prod.fst (Prod.snd (x8.2))=Prod.fst (Prod.snd (x9.2)))&&(zAl (Prod.fst (Prod.snd (Prod.snd (x8.2)))=Prod.fst (Prod.snd (Prod.snd (x9.2))))&&true))))) (Q (Value.bool false)) (zAm (!Prod.snd (Prod.snd (Prod.snd (x8.2)))==Prod.snd (Prod.snd (Prod.snd (x9.2)))) (Q (Value.bool false)) (((true=true)∧((((0:Int)≤2)∧(2 < (↑4:Int)))∧(∃ x10:Int×Int×Int×Int×Bool,((pref_Parse.f x3=some x10)∧(∃ x11:Int×Int×Int×Int×Bool,((gleberef1_Prefix.f x3=some x11)∧zAm (!(zAl (x10.1=x11.1)&&(zAl (Prod.fst (x10.2)=Prod.fst (x11.2))&&(zAl (Prod.fst (Prod.snd (x10.2))=Prod.fst (Prod.snd (x11.2)))&&(zAl (Prod.fst (Prod.snd (Prod.snd (x10.2)))=Prod.fst (Prod.snd (Prod.snd (x11.2))))&&true))))) (Q (Value.bool false)) (zAm (!Prod.snd (Prod.snd (Prod.snd (x10.2)))==Prod.snd (Prod.snd (Prod.snd (x11.2)))) (Q (Value.bool false)) (((true=true)∧((((0:Int)≤3)∧(3 < (↑4:Int)))∧(∃ x12:Int×Int×Int×Int×Bool,((pref_Parse.f (x4++{ data:=#[47] }++x5)=some x12)∧(∃ x13:Int×Int×Int×Int×Bool,((gleberef1_Prefix.f (x4++{ data:=#[47] }++x5)=some x13)∧zAm (!(zAl (x12.1=x13.1)&&(zAl (Prod.fst (x12.2)=Prod.fst (x13.2))&&(zAl (Prod.fst (Prod.snd (x12.2))=Prod.fst (Prod.snd (x13.2)))&&(zAl (Prod.fst (Prod.snd (Prod.snd (x12.2)))=Prod.fst (Prod.snd (Prod.snd (x13.2))))&&true))))) (Q (Value.bool false)) (zAm (!Prod.snd (Prod.snd (Prod.snd (x12.2)))==Prod.snd (Prod.snd (Prod.snd (x13.2)))) (Q (Value.bool false)) (((true=true)∧(((0:Int)≤8)∧((0≤IntKind.wrap .u64 (zB2 .i64 (zBm .i64 n0 8) 63))∧(((0:Int)≤16)∧(∃ x14:Int×Int×Int×Int,((glebelaw3_Pre.f v a (yF2 .u64 b (zD3 .u64 1 (IntKind.wrap .u64 (zB2 .i64 (zBm .i64 n0 8) 63)))) (zBm .i64 n0 16)=some x14)∧(∃ x15:LwV,((((Value.pointer (some { block:=65,off:=0 })=Value.pointer (some { block:=65,off:=0 }))∧((Value.pointer (some { block:=66,off:=0 })=Value.pointer (some { block:=66,off:=0 }))∧((Value.slice (some { block:=77,off:=0 }) 3 3=Value.slice (some { block:=77,off:=0 }) 3 3)∧((Value.int .i64 (↑3:Int)=Value.int .i64 3)∧((Value.int .i64 0=Value.int .i64 (LwV.i x15))∧True)))))∧((((Value.int .i64 xa=Value.int .i64 (LwV.x0 x15))∧((Value.int .u64 xb=Value.int .u64 (LwV.x1 x15))∧((Value.int .u64 xc=Value.int .u64 (LwV.x2 x15))∧True)))∧((2 * 28+1=57)∧(false=false)))∧((((Value.int .i64 (x0.1)=Value.int .i64 (LwV.q0 x15))∧((Value.int .u64 (Prod.fst (x0.2))=Value.int .u64 (LwV.q1 x15))∧((Value.int .u64 (Prod.fst (Prod.snd (x0.2)))=Value.int .u64 (LwV.q2 x15))∧((Value.int .i64 (Prod.snd (Prod.snd (x0.2)))=Value.int .i64 (LwV.q3 x15))∧True))))∧((2 * 30+1=61)∧(false=false)))∧(([Value.int .i64 p0,Value.int .u64 p1,Value.int .u64 p2,Value.int .i64 p3,Value.int .i64 (x0.1),Value.int .u64 (Prod.fst (x0.2)),Value.int .u64 (Prod.fst (Prod.snd (x0.2))),Value.int .i64 (Prod.snd (Prod.snd (x0.2))),Value.int .i64 (x14.1),Value.int .u64 (Prod.fst (x14.2)),Value.int .u64 (Prod.fst (Prod.snd (x14.2))),Value.int .i64 (Prod.snd (Prod.snd (x14.2)))]=List.flatMap zUg (LwV.t x15))∧((2 * 30+1=61)∧(false=false))))))∧(∃ x16:LwV,((Star zOs x15 x16)∧((true=true)∧((zAl (LwV.i x16 < 3)=false)∧(∃ x17:Bool,((some true=some x17)∧Q (Value.bool x17))))))))))))))))))))))))))))))))))))))))))))))))))))))))))))))):=by kernel_rfl
theorem ySi (rc lc : List Value) (te tf : TypeId) (v a b n0 : Int) (lv : Value) (p0 p1 p2 p3 xa xb xc : Int) (Q : Value → Prop) : zEl Tryz.prog (cwC L3) (oxE [71]) yMm (zAd Tryz.f3) (zAn [.float .f64 1, .int .i64 v, .int .u64 a, .int .u64 b, .int .i64 n0, lv, .agg #[.int .i64 p0, .int .u64 p1, .int .u64 p2, .int .i64 p3], .agg #[.int .i64 xa, .int .u64 xb, .int .u64 xc]] 8) (zAo (zQb rc te lc tf) 64) (zA7 Tryz.prog Tryz.f3 fun v _ => Q v) = (zAm (zAl (100 < (↑0 : Int))) ((∃ x0 : Bool, ((some true = some x0) ∧ Q (Value.bool x0)))) ((∃ x0 : Int × Int × Int × Int, ((glebelaw3_Pre.f v a b n0 = some x0) ∧ (∃ x1 : ByteArray, ((gleberef1_PrintPrefix.f (x0.1) (Prod.fst (x0.2)) (Prod.fst (Prod.snd (x0.2))) (Prod.snd (Prod.snd (x0.2))) = some x1) ∧ (∃ x2 : ByteArray, ((txG v a b lv lc = some x2) ∧ (∃ x3 : ByteArray, ((txG v a b (Value.slice none 0 0) lc = some x3) ∧ ((ByteArray.size x3 + ByteArray.size { data := #[47] } ≤ 9223372036854775807) ∧ (∃ x4 : ByteArray, ((yM5 (IntKind.wrap .u64 (zB2 .i64 n0 255)) = some x4) ∧ ((ByteArray.size (x3 ++ { data := #[47] }) + ByteArray.size x4 ≤ 9223372036854775807) ∧ ((true = true) ∧ ((((0 : Int) ≤ 0) ∧ (0 < (↑4 : Int))) ∧ (∃ x5 : Int × Int × Int × Int × Bool, ((pref_Parse.f { data := { toList := [] } } = some x5) ∧ (∃ x6 : Int × Int × Int × Int × Bool, ((gleberef1_Prefix.f { data := { toList := [] } } = some x6) ∧ zAm (!(zAl (x5.1 = x6.1) && (zAl (Prod.fst (x5.2) = Prod.fst (x6.2)) && (zAl (Prod.fst (Prod.snd (x5.2)) = Prod.fst (Prod.snd (x6.2))) && (zAl (Prod.fst (Prod.snd (Prod.snd (x5.2))) = Prod.fst (Prod.snd (Prod.snd (x6.2)))) && true))))) (Q (Value.bool false)) (zAm (!Prod.snd (Prod.snd (Prod.snd (x5.2))) == Prod.snd (Prod.snd (Prod.snd (x6.2)))) (Q (Value.bool false)) (((true = true) ∧ ((((0 : Int) ≤ 1) ∧ (1 < (↑4 : Int))) ∧ (∃ x7 : Int × Int × Int × Int × Bool, ((pref_Parse.f x1 = some x7) ∧ (∃ x8 : Int × Int × Int × Int × Bool, ((gleberef1_Prefix.f x1 = some x8) ∧ zAm (!(zAl (x7.1 = x8.1) && (zAl (Prod.fst (x7.2) = Prod.fst (x8.2)) && (zAl (Prod.fst (Prod.snd (x7.2)) = Prod.fst (Prod.snd (x8.2))) && (zAl (Prod.fst (Prod.snd (Prod.snd (x7.2))) = Prod.fst (Prod.snd (Prod.snd (x8.2)))) && true))))) (Q (Value.bool false)) (zAm (!Prod.snd (Prod.snd (Prod.snd (x7.2))) == Prod.snd (Prod.snd (Prod.snd (x8.2)))) (Q (Value.bool false)) (((true = true) ∧ ((((0 : Int) ≤ 2) ∧ (2 < (↑4 : Int))) ∧ (∃ x9 : Int × Int × Int × Int × Bool, ((pref_Parse.f x2 = some x9) ∧ (∃ x10 : Int × Int × Int × Int × Bool, ((gleberef1_Prefix.f x2 = some x10) ∧ zAm (!(zAl (x9.1 = x10.1) && (zAl (Prod.fst (x9.2) = Prod.fst (x10.2)) && (zAl (Prod.fst (Prod.snd (x9.2)) = Prod.fst (Prod.snd (x10.2))) && (zAl (Prod.fst (Prod.snd (Prod.snd (x9.2))) = Prod.fst (Prod.snd (Prod.snd (x10.2)))) && true))))) (Q (Value.bool false)) (zAm (!Prod.snd (Prod.snd (Prod.snd (x9.2))) == Prod.snd (Prod.snd (Prod.snd (x10.2)))) (Q (Value.bool false)) (((true = true) ∧ ((((0 : Int) ≤ 3) ∧ (3 < (↑4 : Int))) ∧ (∃ x11 : Int × Int × Int × Int × Bool, ((pref_Parse.f (x3 ++ { data := #[47] } ++ x4) = some x11) ∧ (∃ x12 : Int × Int × Int × Int × Bool, ((gleberef1_Prefix.f (x3 ++ { data := #[47] } ++ x4) = some x12) ∧ zAm (!(zAl (x11.1 = x12.1) && (zAl (Prod.fst (x11.2) = Prod.fst (x12.2)) && (zAl (Prod.fst (Prod.snd (x11.2)) = Prod.fst (Prod.snd (x12.2))) && (zAl (Prod.fst (Prod.snd (Prod.snd (x11.2))) = Prod.fst (Prod.snd (Prod.snd (x12.2)))) && true))))) (Q (Value.bool false)) (zAm (!Prod.snd (Prod.snd (Prod.snd (x11.2))) == Prod.snd (Prod.snd (Prod.snd (x12.2)))) (Q (Value.bool false)) (((true = true) ∧ (((0 : Int) ≤ 8) ∧ ((0 ≤ IntKind.wrap .u64 (zB2 .i64 (zBm .i64 n0 8) 63)) ∧ (((0 : Int) ≤ 16) ∧ (∃ x13 : Int × Int × Int × Int, ((glebelaw3_Pre.f v a (yF2 .u64 b (zD3 .u64 1 (IntKind.wrap .u64 (zB2 .i64 (zBm .i64 n0 8) 63)))) (zBm .i64 n0 16) = some x13) ∧ (∃ x14 : LwV, ((((Value.pointer (some { block := 65, off := 0 }) = Value.pointer (some { block := 65, off := 0 })) ∧ ((Value.pointer (some { block := 66, off := 0 }) = Value.pointer (some { block := 66, off := 0 })) ∧ ((Value.slice (some { block := 77, off := 0 }) 3 3 = Value.slice (some { block := 77, off := 0 }) 3 3) ∧ ((Value.int .i64 (↑3 : Int) = Value.int .i64 3) ∧ ((Value.int .i64 0 = Value.int .i64 (LwV.i x14)) ∧ True))))) ∧ ((((Value.int .i64 xa = Value.int .i64 (LwV.x0 x14)) ∧ ((Value.int .u64 xb = Value.int .u64 (LwV.x1 x14)) ∧ ((Value.int .u64 xc = Value.int .u64 (LwV.x2 x14)) ∧ True))) ∧ ((2 * 28 + 1 = 57) ∧ (false = false))) ∧ ((((Value.int .i64 (x0.1) = Value.int .i64 (LwV.q0 x14)) ∧ ((Value.int .u64 (Prod.fst (x0.2)) = Value.int .u64 (LwV.q1 x14)) ∧ ((Value.int .u64 (Prod.fst (Prod.snd (x0.2))) = Value.int .u64 (LwV.q2 x14)) ∧ ((Value.int .i64 (Prod.snd (Prod.snd (x0.2))) = Value.int .i64 (LwV.q3 x14)) ∧ True)))) ∧ ((2 * 30 + 1 = 61) ∧ (false = false))) ∧ (([Value.int .i64 p0, Value.int .u64 p1, Value.int .u64 p2, Value.int .i64 p3, Value.int .i64 (x0.1), Value.int .u64 (Prod.fst (x0.2)), Value.int .u64 (Prod.fst (Prod.snd (x0.2))), Value.int .i64 (Prod.snd (Prod.snd (x0.2))), Value.int .i64 (x13.1), Value.int .u64 (Prod.fst (x13.2)), Value.int .u64 (Prod.fst (Prod.snd (x13.2))), Value.int .i64 (Prod.snd (Prod.snd (x13.2)))] = List.flatMap zUg (LwV.t x14)) ∧ ((2 * 30 + 1 = 61) ∧ (false = false)))))) ∧ (∃ x15 : LwV, ((Star zOs x14 x15) ∧ ((true = true) ∧ ((zAl (LwV.i x15 < 3) = false) ∧ (∃ x16 : Bool, ((some true = some x16) ∧ Q (Value.bool x16))))))))))))))))))))))))))))))))))))))))))))))))))))))))))))) := by kernel_rfl
end Go.Proofs.YtfnacgojmdbjmaaGreatDoor
namespace Go.Proofs.YtfnacgojmdbjmaaGreatDoor
open Go.Det Go.RowKit YtfnacgojmdbjmaaGreatDoorW.PrintWords PRD
def U6 (x:Int):Prop:=0≤x∧x < 18446744073709551616
theorem zQd (V h l:Int)(hh:U6 h)(hl:U6 l):(addr_Ok.f V h l=some false)∨∃ B q,Kd' V B∧q < 2 ^ B∧h=H q∧l=L q:=by
 obtain⟨q,hq,e1,e2⟩:=yKu hh.1 hh.2 hl.1 hl.2
 unfold addr_Ok.f
 by_cases h6:V=6
 ·exact .inr ⟨128,q,.inr ⟨h6,rfl⟩,hq,e1.symm,e2.symm⟩
 ·rw[if_neg h6]
  by_cases h4:V=4
  ·rw[if_pos h4]
   by_cases h0:h=0
   ·rw[if_pos h0]
    by_cases hb:l < 4294967296
    ·refine .inr ⟨32,q,.inl ⟨h4,rfl⟩,?_,e1.symm,e2.symm⟩
     have hM:M64=18446744073709551616:=rfl
     unfold H at e1
     unfold L at e2
     rw[hM] at e1 e2
     omega
    ·exact .inl (by rw[decide_eq_false hb])
   ·exact .inl (by rw[if_neg h0])
  ·exact .inl (by rw[if_neg h4])
theorem ySj {V:Int}{B q n:Nat}(h:Kd' V B)(hq:q < 2 ^ B)(hn:n≤B):gleberef1_OkPrefix.f V (H q) (L q) (n:Int)=some (decide (q % 2 ^ (B - n)=0)):=by
 obtain⟨_,_,f3,_,_,_⟩:=zGa h (j:=B - n) (by omega)
 have e2:=yEz (h.pow hq) f3
 rw[zGb q B (B - n) (by omega) hq] at e2
 have e1:=yKs h hn
 have e3:(2 ^ (B - n) * (q / 2 ^ (B - n))=q)↔q % 2 ^ (B - n)=0:=by
  have:=Nat.div_add_mod q (2 ^ (B - n))
  omega
 generalize 2 ^ B - 2 ^ (B - n)=c at *
 unfold gleberef1_OkPrefix.f
 rw[zI1,PRD.okA h hq,Option.bind_some,if_pos rfl,if_pos (by omega),h.rbits,Option.bind_some,if_pos (by omega),e1,Option.bind_some,e2,Option.bind_some,yGz]
 exact congrArg some (decide_eq_decide.2 e3)
theorem zG7 (V h l N:Int)(hh:U6 h)(hl:U6 l):
  (pref_Ok.f V h l N=some false∧gleberef1_OkPrefix.f V h l N=some false)∨
  ∃ B q n,Kd' V B∧q < 2 ^ B∧h=H q∧l=L q∧N=((n:Nat):Int)∧n≤B∧q % 2 ^ (B - n)=0∧pref_Ok.f V h l N=some true∧gleberef1_OkPrefix.f V h l N=some true:=by
 rcases zQd V h l hh hl with e|⟨B,q,hk,hq,rfl,rfl⟩
 ·refine .inl ⟨?_,?_⟩
  ·unfold pref_Ok.f
   rw[e,Option.bind_some,if_neg (by decide)]
  ·unfold gleberef1_OkPrefix.f
   rw[zI1,e,Option.bind_some,if_neg (by decide)]
 ·by_cases h0:N < 0
  ·refine .inl ⟨?_,?_⟩
   ·unfold pref_Ok.f
    rw[PRD.okA hk hq,Option.bind_some,if_pos rfl,if_pos h0]
   ·unfold gleberef1_OkPrefix.f
    rw[zI1,PRD.okA hk hq,Option.bind_some,if_pos rfl,if_neg (by omega)]
  ·obtain⟨n,rfl⟩:∃ n:Nat,N=(n:Int):=⟨N.toNat,by omega⟩
   by_cases hn:n≤B
   ·by_cases hm:q % 2 ^ (B - n)=0
    ·refine .inr ⟨B,q,n,hk,hq,rfl,rfl,rfl,hn,hm,?_,yS2 hk hq hn hm⟩
     rw[pOk hk hq hn,decide_eq_true hm]
    ·refine .inl ⟨?_,?_⟩
     ·rw[pOk hk hq hn,decide_eq_false hm]
     ·rw[ySj hk hq hn,decide_eq_false hm]
   ·refine .inl ⟨?_,?_⟩
    ·unfold pref_Ok.f
     rw[PRD.okA hk hq,Option.bind_some,if_pos rfl,if_neg h0,hk.bits,Option.bind_some,if_pos (by omega)]
    ·unfold gleberef1_OkPrefix.f
     rw[zI1,PRD.okA hk hq,Option.bind_some,if_pos rfl,if_pos (by omega),hk.rbits,Option.bind_some,if_neg (by omega)]
theorem zUh {V h l N:Int}(hh:U6 h)(hl:U6 l):∃ b,pref_Ok.f V h l N=some b∧gleberef1_OkPrefix.f V h l N=some b:=by
 rcases zG7 V h l N hh hl with⟨e1,e2⟩|⟨B,q,n,_,_,_,_,_,_,_,e1,e2⟩
 ·exact⟨_,e1,e2⟩
 ·exact⟨_,e1,e2⟩
theorem zQe {V h l N:Int}{b:Bool}(e:pref_Ok.f V h l N=some b):pref_First.f V h l N=some (if b=true then(V,h,l) else(0,0,0)):=by
 unfold pref_First.f
 rw[e,Option.bind_some]
 cases b<;>rfl
theorem yMn {V h l N:Int}(hh:U6 h)(hl:U6 l):∃ r,pref_Last.f V h l N=some r∧gleberef1_Last.f V h l N=some r:=by
 rcases zG7 V h l N hh hl with⟨e1,e2⟩|⟨B,q,n,hk,hq,rfl,rfl,rfl,hn,hm,e1,e2⟩
 ·refine⟨(0,0,0),?_,?_⟩
  ·unfold pref_Last.f
   rw[e1,Option.bind_some,if_neg (by decide)]
  ·unfold gleberef1_Last.f
   rw[e2,Option.bind_some,if_neg (by decide)]
 ·exact⟨_,yRb hk hq hn hm,yRc hk hq hn hm⟩
theorem zV1 {B n:Nat}(hB:B≤128)(hn:n≤B):zB9 (128 - B+n)=2 ^ 128 - 2 ^ (B - n):=by
 unfold zB9
 rw[show 128 - (128 - B+n)=B - n by omega,yOk]
theorem yCm {V:Int}{B C:Nat}(h:Kd' V B)(k:Kd' V C):C=B:=by
 rcases h with⟨h,rfl⟩|⟨h,rfl⟩<;>rcases k with⟨k,rfl⟩|⟨k,rfl⟩<;>first|rfl|(exfalso;omega)
theorem yCn {V h l N W h' l':Int}(hh:U6 h)(hl:U6 l)(hh':U6 h')(hl':U6 l'):∃ b,pref_Has.f V h l N W h' l'=some b∧gleberef1_Has.f V h l N W h' l'=some b:=by
 unfold pref_Has.f gleberef1_Has.f
 rcases zG7 V h l N hh hl with⟨e1,e2⟩|⟨B,q,n,hk,hq,rfl,rfl,rfl,hn,hm,e1,e2⟩
 ·rw[e1,e2,Option.bind_some,Option.bind_some,if_neg (by decide),if_neg (by decide)]
  exact⟨_,rfl,rfl⟩
 ·rw[e1,e2,Option.bind_some,Option.bind_some,if_pos rfl,if_pos rfl,zI1]
  rcases zQd W h' l' hh' hl' with e|⟨C,x,kc,hx,rfl,rfl⟩
  ·rw[e,Option.bind_some,Option.bind_some,if_neg (by decide),if_neg (by decide)]
   exact⟨_,rfl,rfl⟩
  ·rw[PRD.okA kc hx,Option.bind_some,Option.bind_some,if_pos rfl,if_pos rfl]
   by_cases hV:W=V
   ·subst hV
    obtain rfl:=yCm hk kc
    rw[if_pos rfl,if_pos rfl]
    have hB:=hk.le
    have q1:=yPs (hk.pow hx) (mask_lt (n:=128 - C+n) (by omega))
    rw[zV1 hB hn,zGb x 128 (C - n) (by omega) (by rw[← yOk];exact hk.pow hx)] at q1
    obtain⟨_,_,f3,_,_,_⟩:=zGa hk (j:=C - n) (by omega)
    have q2:=yEz (hk.pow hx) f3
    rw[zGb x C (C - n) (by omega) hx] at q2
    have q3:=yE1 hk hn
    rw[zV1 hB hn] at q3
    have q4:=yKs hk hn
    generalize 2 ^ (C - n) * (x / 2 ^ (C - n))=c at *
    generalize 2 ^ 128 - 2 ^ (C - n)=d at *
    generalize 2 ^ C - 2 ^ (C - n)=d' at *
    rw[q3,q4]
    simp only[Option.bind_some,q1,q2]
    exact⟨_,rfl,rfl⟩
   ·rw[if_neg hV,if_neg hV]
    exact⟨_,rfl,rfl⟩
theorem zV2 {V h l N:Int}(hh:U6 h)(hl:U6 l):pref_Has.f V h l N 0 0 0=some false:=by
 unfold pref_Has.f
 obtain⟨b,e,_⟩:=zUh (V:=V) (N:=N) hh hl
 rw[e,Option.bind_some]
 cases b with
 |false=>rfl
 |true=>
  rw[if_pos rfl,show addr_Ok.f 0 0 0=some false from rfl,Option.bind_some,if_neg (by decide)]
theorem yG7 {V h l N W h' l':Int}(e:pref_Ok.f V h l N=some false):pref_Has.f V h l N W h' l'=some false:=by
 unfold pref_Has.f
 rw[e,Option.bind_some,if_neg (by decide)]
theorem yMo {V h l N V' h' l' N':Int}(hh:U6 h)(hl:U6 l)(hh':U6 h')(hl':U6 l'):∃ b,pref_Over.f V h l N V' h' l' N'=some b∧gleberef1_Over.f V h l N V' h' l' N'=some b:=by
 obtain⟨b1,e1,r1⟩:=zUh (V:=V) (N:=N) hh hl
 obtain⟨b2,e2,r2⟩:=zUh (V:=V') (N:=N') hh' hl'
 unfold pref_Over.f gleberef1_Over.f
 rw[zQe e1,zQe e2,r1,r2]
 cases b1 with
 |false=>
  have z:=zV2 (V:=V') (N:=N') hh' hl'
  cases b2<;>simp only[Option.bind_some,Bool.false_eq_true,if_false,if_true,yG7 e1,z]<;>exact⟨_,rfl,rfl⟩
 |true=>
  cases b2 with
  |false=>
   have z:=zV2 (V:=V) (N:=N) hh hl
   simp only[Option.bind_some,Bool.false_eq_true,if_false,if_true,yG7 e2,z]
   exact⟨_,rfl,rfl⟩
  |true=>
   obtain⟨b3,e3,r3⟩:=yCn (V:=V) (N:=N) (W:=V') hh hl hh' hl'
   obtain⟨b4,e4,r4⟩:=yCn (V:=V') (N:=N') (W:=V) hh' hl' hh hl
   simp only[Option.bind_some,if_true,e3,r3,e4,r4]
   cases b3 with
   |true=>exact⟨_,rfl,rfl⟩
   |false=>exact⟨_,rfl,rfl⟩
theorem yMp (V h l V' h' l':Int):∃ b,addr_Less.f V h l V' h' l'=some b∧gleberef1_LessAddr.f V h l V' h' l'=some b:=by
 unfold addr_Less.f gleberef1_LessAddr.f quad_Less.f gleberef1_Less.f
 split
 ·exact⟨_,rfl,rfl⟩
 ·split
  ·split
   ·exact⟨_,rfl,rfl⟩
   ·split
    ·exact⟨_,rfl,rfl⟩
    ·exact⟨_,rfl,rfl⟩
  ·exact⟨_,rfl,rfl⟩
theorem yMq {V h l N V' h' l' N':Int}(hh:U6 h)(hl:U6 l)(hh':U6 h')(hl':U6 l'):∃ b,pref_Less.f V h l N V' h' l' N'=some b∧gleberef1_LessPrefix.f V h l N V' h' l' N'=some b:=by
 obtain⟨b1,e1,r1⟩:=zUh (V:=V) (N:=N) hh hl
 obtain⟨b2,e2,r2⟩:=zUh (V:=V') (N:=N') hh' hl'
 obtain⟨b3,e3,r3⟩:=yMp V h l V' h' l'
 unfold pref_Less.f gleberef1_LessPrefix.f
 rw[e1,e2,r1,r2,Option.bind_some,Option.bind_some,e3,r3]
 cases b1<;>cases b2<;>cases b3<;>simp only[Option.bind_some,if_true,if_false,reduceIte,Bool.false_eq_true]<;>first|exact⟨_,rfl,rfl⟩|(split<;>exact⟨_,rfl,rfl⟩)
theorem yMr:(List.range 33).all (fun n=>decide (((pref_mask.f 4 (n:Nat)).bind fun t=>quad_And.f t.1 t.2 0 4294967295)=gleberef1_all.f 4 (n:Nat)))=true:=by decide +kernel
theorem yCo {V h l N:Int}(hh:U6 h)(hl:U6 l):∃ r,pref_Netmask.f V h l N=some r∧gleberef1_Netmask.f V h l N=some r:=by
 unfold pref_Netmask.f gleberef1_Netmask.f
 rcases zG7 V h l N hh hl with⟨e1,e2⟩|⟨B,q,n,hk,hq,rfl,rfl,rfl,hn,hm,e1,e2⟩
 ·rw[e1,e2,Option.bind_some,Option.bind_some,if_neg (by decide),if_neg (by decide)]
  exact⟨_,rfl,rfl⟩
 ·rw[e1,e2,Option.bind_some,Option.bind_some,if_pos rfl,if_pos rfl]
  by_cases h4:V=4
  ·subst h4
   rw[if_pos rfl,if_pos rfl]
   have hB:B=32:=yCm (.inl ⟨rfl,rfl⟩) hk
   subst hB
   have q1:=of_decide_eq_true (yA9 yMr n (by omega))
   have q2:=yKs hk hn
   rw[q2] at q1 ⊢
   obtain⟨t,ht,q1⟩:=Option.bind_eq_some_iff.1 q1
   rw[ht]
   simp only[Option.bind_some,q1]
   exact⟨_,rfl,rfl⟩
  ·rw[if_neg h4,if_neg h4]
   exact⟨_,rfl,rfl⟩
end Go.Proofs.YtfnacgojmdbjmaaGreatDoor
namespace Go.Proofs.YtfnacgojmdbjmaaGreatDoor
open Go.Det Go.RowKit PRD YtfnacgojmdbjmaaGreatDoorW.PrintWords
theorem U6H {q:Nat}(h:q < zCh):U6 (H q):=by
 have:=yKn h
 unfold H U6
 exact⟨Int.natCast_nonneg _,PRD.toI this⟩
theorem U6L (q:Nat):U6 (L q):=by
 have:=yKo q
 unfold L U6
 exact⟨Int.natCast_nonneg _,PRD.toI this⟩
theorem yMs {q : Nat} (hq : q < 2 ^ 32) (m0 m1 m2 : Int) : ∀ (d n k : Nat), n + d = 33 → d + 1 ≤ k → ∃ r, yFh k (n : Int) (H q) (L q) m0 m1 m2 = some r ∧ zUd k (n : Int) 4 (H q) (L q) m0 m1 m2 = some r := by
  have hk : Kd' 4 32 := .inl ⟨rfl, rfl⟩
  intro d
  induction d with
  | zero =>
    intro n k hn hk'
    obtain ⟨k, rfl⟩ : ∃ j, k = j + 1 := ⟨k - 1, by omega⟩
    unfold yFh zUd
    rw [hk.bits, Option.bind_some, if_neg (by omega), if_neg (by omega)]
    exact ⟨_, rfl, rfl⟩
  | succ d ih =>
    intro n k hn hk'
    obtain ⟨k, rfl⟩ : ∃ j, k = j + 1 := ⟨k - 1, by omega⟩
    obtain ⟨r, i1, i2⟩ := ih (n + 1) k (by omega) (by omega)
    have hn32 : n ≤ 32 := by omega
    have hle : (n : Int) ≤ 32 := by omega
    have hle' : (n : Int) ≤ ((32 : Nat) : Int) := by omega
    have hw : wrap64 ((n : Int) + 1) = ((n + 1 : Nat) : Int) := by rw [w64 (by omega) (by omega)]; omega
    have q1 := yPs (hk.pow hq) (mask_lt (n := 128 - 32 + n) (by omega))
    rw [zV1 (by decide) hn32, zGb q 128 (32 - n) (by omega) (by rw [← yOk]; exact hk.pow hq)] at q1
    obtain ⟨_, _, f3, _, _, _⟩ := zGa hk (j := 32 - n) (by omega)
    have q2 := yEz (hk.pow hq) f3
    rw [zGb q 32 (32 - n) (by omega) hq] at q2
    have q3 := yE1 hk hn32
    rw [zV1 (by decide) hn32] at q3
    have q4 := yKs hk hn32
    have hc : 2 ^ (32 - n) * (q / 2 ^ (32 - n)) < zCh := Nat.lt_of_le_of_lt (Nat.mul_div_le _ _) (hk.pow hq)
    generalize 2 ^ (32 - n) * (q / 2 ^ (32 - n)) = c at *
    generalize 2 ^ 128 - 2 ^ (32 - n) = e at *
    generalize 2 ^ 32 - 2 ^ (32 - n) = e' at *
    obtain ⟨x, x1, x2⟩ := yCo (V := 4) (N := (n : Int)) (U6H hc) (U6L c)
    have ok := PRD.okA hk hq
    rw [← zI1] at ok
    unfold yFh zUd
    rw [hk.bits, Option.bind_some, if_pos hle', if_pos hle, q3, q4]
    simp only [Option.bind_some, q1, q2, x1, x2, ok, if_true, hw, i1, i2]
    split
    · split
      · exact ⟨_, rfl, rfl⟩
      · exact ⟨_, rfl, rfl⟩
    · exact ⟨_, rfl, rfl⟩
theorem yG8 {a0 a1 a2:Int}{o:Bool}(h1:U6 a1)(h2:U6 a2)(e:gleberef1_Ok.f a0 a1 a2=some o)(hno:¬ (o=true∧a0=4))(m0 m1 m2:Int):∀ (d n k:Nat),n+d=33→d+1≤k→zUd k (n:Int) a0 a1 a2 m0 m1 m2=some (0,0,0,0,false):=by
 have hk:Kd' 4 32:=.inl ⟨rfl,rfl⟩
 obtain⟨q,hq,rfl,rfl⟩:=yKu h1.1 h1.2 h2.1 h2.2
 intro d
 induction d with
 |zero=>
  intro n k hn hk'
  obtain⟨k,rfl⟩:∃ j,k=j+1:=⟨k - 1,by omega⟩
  unfold zUd
  rw[if_neg (by omega)]
 |succ d ih=>
  intro n k hn hk'
  obtain⟨k,rfl⟩:∃ j,k=j+1:=⟨k - 1,by omega⟩
  have i1:=ih (n+1) k (by omega) (by omega)
  have hn32:n≤32:=by omega
  have hle:(n:Int)≤32:=by omega
  have hle':(n:Int)≤((32:Nat):Int):=by omega
  have hw:wrap64 ((n:Int)+1)=((n+1:Nat):Int):=by rw[w64 (by omega) (by omega)];omega
  obtain⟨_,_,f3,_,_,_⟩:=zGa hk (j:=32 - n) (by omega)
  have hq':q < zCh:=by rw[yOk];exact hq
  have q2:=yEz hq' f3
  have q4:=yKs hk hn32
  have hc:q &&& (2 ^ 32 - 2 ^ (32 - n)) < zCh:=Nat.lt_of_le_of_lt Nat.and_le_left hq'
  generalize q &&& (2 ^ 32 - 2 ^ (32 - n))=c at *
  generalize 2 ^ 32 - 2 ^ (32 - n)=e' at *
  obtain⟨x,x1,x2⟩:=yCo (V:=4) (N:=(n:Int)) (U6H hc) (U6L c)
  unfold zUd
  rw[if_pos hle,q4]
  simp only[Option.bind_some,q2,x2,e,hw,i1]
  split
  ·split
   ·exact absurd ⟨‹o=true›,‹a0=4›⟩ hno
   ·rfl
  ·rfl
theorem yO5 {a0 a1 a2 m0 m1 m2:Int}(h1:U6 a1)(h2:U6 a2):∃ r,yFi a0 a1 a2 m0 m1 m2=some r∧yFj a0 a1 a2 m0 m1 m2=some r:=by
 unfold yFi yFj
 rcases zQd a0 a1 a2 h1 h2 with e|⟨B,q,hk,hq,rfl,rfl⟩
 ·rw[e,Option.bind_some,if_neg (by decide)]
  exact⟨_,rfl,yG8 h1 h2 (o:=false) (by rw[zI1];exact e) (fun q=>by cases q.1) m0 m1 m2 33 0 40 (by decide) (by decide)⟩
 ·rw[PRD.okA hk hq,Option.bind_some,if_pos rfl]
  by_cases h4:a0=4
  ·subst h4
   have hB:B=32:=yCm (.inl ⟨rfl,rfl⟩) hk
   subst hB
   rw[if_pos rfl]
   exact yMs hq m0 m1 m2 33 0 40 (by decide) (by decide)
  ·rw[if_neg h4]
   exact⟨_,rfl,yG8 h1 h2 (o:=true) (by rw[zI1];exact PRD.okA hk hq) (fun q=>h4 q.2) m0 m1 m2 33 0 40 (by decide) (by decide)⟩
end Go.Proofs.YtfnacgojmdbjmaaGreatDoor
namespace Go.Proofs.YtfnacgojmdbjmaaGreatDoor
open Go.Det Go.RowKit YtfnacgojmdbjmaaGreatDoorW.PrintWords PPPT PPH
def Odd (c:UInt8):Prop:=c.toNat < 48∧c≠46
theorem zQf {c:UInt8}(hc:Odd c){m:Nat}:∀ (l:List UInt8) (n:Nat) (r:Int),zSy m n l=some (r,true)→c∉l
 |[],_,_,_=>by simp
 |d::t,n,r,h=>by
  rw[zSy] at h
  split at h
  ·rename_i q
   have:=zQf hc t _ r h
   simp only[List.mem_cons,not_or]
   refine⟨fun e=>?_,this⟩
   rw[← e] at q
   have:=hc.1
   omega
  ·cases h
theorem yCp {c:UInt8}(hc:Odd c){s:ByteArray}{m:Nat}(hm:m≤255){r:Int}(h:zKd s (m:Int)=some (r,true)):c∉s.data.toList:=by
 unfold zKd at h
 split at h
 case isFalse=>cases h
 split at h
 ·rename_i e;rw[e];simp
 ·rename_i d t e
  rw[e]
  split at h
  ·split at h
   ·rename_i ht
    rw[show(0:Int)=((0:Nat):Int) from rfl,zCt hm _ 0 (Nat.zero_le _)] at h
    rw[ht]
    exact zQf hc _ _ _ h
   ·cases h
  ·rw[show(0:Int)=((0:Nat):Int) from rfl,zCt hm _ 0 (Nat.zero_le _)] at h
   exact zQf hc _ _ _ h
theorem yCq {c:UInt8}(hc:Odd c){xs:List ByteArray}(hx:xs.length≤1000):∀ (k i:Nat) (n:Int) (r:Int×Bool),i≤xs.length→addr_four.l0 k xs n xs (xs.length:Int) (i:Int)=some r→r.2=true→∀ p∈xs.drop i,c∉p.data.toList:=by
 intro k
 induction k with
 |zero=>intro i n r _ h;simp[addr_four.l0] at h
 |succ k ih=>
  intro i n r hi h hr
  by_cases hlt:i < xs.length
  ·have ep:zB5 ByteArray.empty xs (i:Int)=xs[i]:=by
    unfold zB5
    rw[Int.toNat_natCast,List.getD_eq_getElem?_getD,List.getElem?_eq_getElem hlt];rfl
   unfold addr_four.l0 at h
   rw[if_pos (by omega),if_pos (by omega),if_pos (by omega),ep] at h
   obtain⟨⟨m,b⟩,hm⟩:=zMt xs[i]
   have hm':date_Num.f xs[i] 255=some (m,b):=hm
   rw[hm',Option.bind_some] at h
   cases b with
   |false=>
    rw[if_neg (fun q=>by cases q)] at h
    cases h
    cases hr
   |true=>
    rw[if_pos rfl,zJt (by omega) (by omega),show((i:Int)+1)=((i+1:Nat):Int) by omega] at h
    have:=ih (i+1) _ r (by omega) h hr
    rw[List.drop_eq_getElem_cons hlt]
    intro p hp
    rcases List.mem_cons.1 hp with rfl|hp
    ·exact yCp hc (m:=255) (by decide) hm
    ·exact this p hp
  ·rw[List.drop_eq_nil_of_le (by omega)]
   intro p hp
   cases hp
theorem zV3 {c:UInt8}(hc:Odd c){s:ByteArray}(hs:s.size≤400){k:Nat}{r:Int×Bool}(h:addr_four.f k s=some r)(hr:r.2=true):c∉s.data.toList:=by
 obtain⟨l,e,h1,h2,h3⟩:=zEn (s:=s) (sep:=⟨#[46]⟩) hs (by decide)
 have el:l=(spl 46 s.data.toList).map mkB:=Option.some.inj (e.symm.trans (zFn 46 hs))
 unfold addr_four.f at h
 rw[e,Option.bind_some] at h
 have hd:=yCq hc (by omega) k 0 0 r (by omega) h hr
 rw[List.drop_zero,el] at hd
 rw[← zI5 46 s.data.toList]
 refine Txt.not_mem_join hc.2 _ fun p hp=>?_
 exact hd (mkB p) (List.mem_map.2 ⟨p,hp,rfl⟩)
theorem zV4 {c:UInt8}(hc:Odd c):∀ (l:List UInt8) (n r:Int),zMq n l=some (r,true)→c∉l
 |[],_,_,_=>by simp
 |d::t,n,r,h=>by
  simp only[zMq] at h
  obtain⟨x,_,h⟩:=Option.bind_eq_some_iff.1 h
  split at h
  ·cases h
  ·split at h
   ·cases h
   ·rename_i q
    have:=zV4 hc t _ r h
    simp only[List.mem_cons,not_or]
    refine⟨fun e=>?_,this⟩
    rw[← e] at q
    have:=hc.1
    omega
theorem yMt {c:UInt8}(hc:Odd c){s:ByteArray}{r:Int}(h:zPz s=some (r,true)):c∉s.data.toList:=by
 unfold zPz at h
 split at h
 ·cases h
 ·exact zV4 hc _ _ _ h
theorem yFt {c:UInt8}(hc:Odd c){xs:List ByteArray}(hx:xs.length≤1000)(hp:∀ p∈xs,p.size≤200)(last:Bool)(k:Nat):
  (∀ (i:Nat) (acc:List Int) (r:List Int×Bool),i≤xs.length→addr_row.l0 k last acc xs xs (xs.length:Int) (i:Int)=some r→r.2=true→∀ p∈xs.drop i,c∉p.data.toList)∧
  (∀ (i:Nat) (acc:List Int) (b:Bool) (r:List Int×Bool) (hi:i < xs.length),(b=true→i+1=xs.length)→addr_row.j1 k last acc xs xs[i] xs (xs.length:Int) (i:Int) b=some r→r.2=true→∀ p∈xs.drop i,c∉p.data.toList):=by
 induction k with
 |zero=>exact⟨fun i acc r _ h=>by simp[addr_row.l0] at h,fun i acc b r _ _ h=>by simp[addr_row.j1] at h⟩
 |succ k ih=>
  obtain⟨i0,i1⟩:=ih
  refine⟨fun i acc r hi h hr=>?_,fun i acc b r hi hb h hr=>?_⟩
  ·by_cases hlt:i < xs.length
   ·have ep:zB5 ByteArray.empty xs (i:Int)=xs[i]:=by
     unfold zB5
     rw[Int.toNat_natCast,List.getD_eq_getElem?_getD,List.getElem?_eq_getElem hlt];rfl
    unfold addr_row.l0 at h
    rw[if_pos (by omega),if_pos (by omega),if_pos (by omega),ep] at h
    split at h
    ·split at h
     ·rename_i hw
      rw[zJt (by omega) (by omega)] at hw
      obtain⟨t,_,h⟩:=Option.bind_eq_some_iff.1 h
      exact i1 i acc t r hlt (fun _=>by omega) h hr
     ·exact i1 i acc false r hlt (fun q=>by cases q) h hr
    ·exact i1 i acc false r hlt (fun q=>by cases q) h hr
   ·rw[List.drop_eq_nil_of_le (by omega)]
    intro p hp
    cases hp
  ·rw[List.drop_eq_getElem_cons hi]
   unfold addr_row.j1 at h
   split at h
   ·rename_i hbt
    have:=hb hbt
    rw[List.drop_eq_nil_of_le (by omega)]
    obtain⟨⟨t,o⟩,ht,h⟩:=Option.bind_eq_some_iff.1 h
    obtain⟨u,hu,h⟩:=Option.bind_eq_some_iff.1 h
    split at h
    case isFalse=>cases h
    cases h
    intro p hpm
    obtain rfl:=List.mem_singleton.1 hpm
    exact zV3 hc (by have:=hp xs[i] (List.getElem_mem hi);omega) ht hr
   ·obtain⟨⟨t,o⟩,ht,h⟩:=Option.bind_eq_some_iff.1 h
    have ht':zPz xs[i]=some (t,o):=ht
    split at h
    ·rename_i ho
     split at h
     case isFalse=>cases h
     rw[zJt (by omega) (by omega),show((i:Int)+1)=((i+1:Nat):Int) by omega] at h
     have:=i0 (i+1) _ r (by omega) h hr
     intro p hpm
     rcases List.mem_cons.1 hpm with rfl|hpm
     ·have ho:o=true:=ho
      subst ho
      exact yMt hc ht'
     ·exact this p hpm
    ·cases h
     cases hr
theorem zUi {c:UInt8}(hc:Odd c){s:ByteArray}(hs:s.size≤200){last:Bool}{r:List Int×Bool}(h:zBg (s,last)=some r)(hr:r.2=true):c∉s.data.toList:=by
 unfold zBg addr_row.f at h
 split at h
 ·rename_i e
  have e:s.data.toList=[]:=by rw[← ByteArray.toList_eq];exact e
  rw[e];simp
 ·obtain⟨l,e,h1,h2,h3⟩:=zEn (s:=s) (sep:=⟨#[58]⟩) (by omega) (by decide)
  have el:l=(spl 58 s.data.toList).map mkB:=Option.some.inj (e.symm.trans (zFn 58 (by omega)))
  rw[e,Option.bind_some] at h
  have hd:=(yFt hc (xs:=l) (by omega) (fun p hp=>by have:=h3 p hp;omega) last 1000).1 0 [] r (by omega) h hr
  rw[List.drop_zero,el] at hd
  rw[← zI5 58 s.data.toList]
  refine Txt.not_mem_join (by intro e;have h1:=hc.1;rw[e] at h1;exact absurd h1 (by decide)) _ fun p hp=>?_
  exact hd (mkB p) (List.mem_map.2 ⟨p,hp,rfl⟩)
theorem yCr {c:UInt8}(hc:Odd c){s:ByteArray}(hs:s.size≤200){r:Int×Int×Int×Bool}(h:PRD.addr_Parse.f s=some r)(hr:r.2.2.2=true):c∉s.data.toList:=by
 have hl:s.data.toList.length=s.size:=rfl
 rw[zMx s hs] at h
 split at h
 ·have hz:s.size < 4294967281:=by omega
  unfold zT5 zC2 at h
  rw[if_pos hz,Option.bind_some] at h
  obtain⟨a,ha,h⟩:=Option.bind_eq_some_iff.1 h
  obtain⟨b,hb,h⟩:=Option.bind_eq_some_iff.1 h
  split at h
  ·cases h
   cases hr
  ·rename_i hs6
   unfold zVk at hs6
   simp only[Bool.or_eq_true,Bool.not_eq_true',not_or,Bool.not_eq_false] at hs6
   obtain⟨oa,ob,_⟩:=hs6
   rcases zI6 s.data.toList 0 with⟨e1,e2⟩|⟨x,y,e1,e2,e3⟩
   ·have ec:zSw s { data:=#[58,58] }=(s,⟨#[]⟩,false):=by
     unfold zSw
     rw[show(ByteArray.data { data:=#[58,58] }).toList=[58,58] from rfl,Txt.cut_miss e2]
    rw[ec] at ha
    exact zUi hc hs ha oa
   ·have hle:x.length+2+y.length=s.size:=by rw[← hl,e1];simp;omega
    have ec:zSw s { data:=#[58,58] }=(mkB x,mkB y,true):=by
     unfold zSw
     rw[show(ByteArray.data { data:=#[58,58] }).toList=[58,58] from rfl,e1,Txt.cut_hit y e3]
     rfl
    rw[ec] at ha hb
    have h1:=zUi hc (s:=mkB x) (by show(List.toArray x).size≤200;rw[List.size_toArray];omega) ha oa
    have h2:=zUi hc (s:=mkB y) (by show(List.toArray y).size≤200;rw[List.size_toArray];omega) hb ob
    have h1:c∉x:=h1
    have h2:c∉y:=h2
    have h58:c≠58:=by intro e;have h1:=hc.1;rw[e] at h1;exact absurd h1 (by decide)
    rw[e1]
    simp only[List.mem_append,List.mem_cons,not_or]
    exact⟨h1,h58,h58,h2⟩
 ·obtain⟨q,hq,h⟩:=Option.bind_eq_some_iff.1 h
  split at h
  ·rename_i ho
   exact zV3 hc (by omega) hq ho
  ·cases h
   cases hr
end Go.Proofs.YtfnacgojmdbjmaaGreatDoor
namespace Go.Proofs.YtfnacgojmdbjmaaGreatDoor
open Go.Det Go.RowKit YtfnacgojmdbjmaaGreatDoorW.PrintWords PRD
theorem yFu {c:UInt8}{s:List UInt8}(h:c∉s):Lib.cut s [c]=(s,[],false):=by
 unfold Lib.cut
 rw[Txt.index_no h]
 rfl
theorem yMu {s:ByteArray}{c:UInt8}(hs:s.size≤1000):∀ (n k:Nat),n≤s.size→n+1≤k→
  (c∉s.data.toList.take n∧PPPT.gleberef1_last.l0 k s (c.toNat:Int) ((n:Int) - 1)=some (-1))∨
  ∃ a b,s.data.toList.take n=a++c::b∧c∉b∧PPPT.gleberef1_last.l0 k s (c.toNat:Int) ((n:Int) - 1)=some ((a.length:Nat):Int):=by
 intro n
 induction n with
 |zero=>
  intro k _ hk
  obtain⟨k,rfl⟩:∃ j,k=j+1:=⟨k - 1,by omega⟩
  refine .inl ⟨by simp,?_⟩
  unfold PPPT.gleberef1_last.l0
  rw[if_neg (by omega)]
 |succ n ih=>
  intro k hn hk
  obtain⟨k,rfl⟩:∃ j,k=j+1:=⟨k - 1,by omega⟩
  have hl:s.data.toList.length=s.size:=rfl
  have hlt:n < s.data.toList.length:=by omega
  have hx:s.data.toList[n]?=some s.data.toList[n]:=List.getElem?_eq_getElem hlt
  have e1:(((n+1:Nat):Int) - 1)=(n:Int):=by omega
  have e2:wrap64 ((n:Int) - 1)=(n:Int) - 1:=w64 (by omega) (by omega)
  have ht:s.data.toList.take (n+1)=s.data.toList.take n++[s.data.toList[n]]:=(List.take_append_getElem hlt).symm
  unfold PPPT.gleberef1_last.l0
  rw[e1,if_pos (by omega),if_pos (by omega),if_pos (by omega),zHx hx,e2,ht]
  by_cases hc:s.data.toList[n]=c
  ·rw[if_pos (by rw[hc])]
   refine .inr ⟨s.data.toList.take n,[],by rw[hc],by simp,?_⟩
   rw[List.length_take,Nat.min_eq_left (by omega)]
  ·rw[if_neg (fun q=>hc (UInt8.toNat_inj.1 (by omega)))]
   rcases ih k (by omega) (by omega) with⟨i1,i2⟩|⟨a,b,i1,i2,i3⟩
   ·refine .inl ⟨?_,i2⟩
    simp only[List.mem_append,List.mem_singleton,not_or]
    exact⟨i1,fun q=>hc q.symm⟩
   ·refine .inr ⟨a,b++[s.data.toList[n]],by rw[i1];simp,?_,i3⟩
    simp only[List.mem_append,List.mem_singleton,not_or]
    exact⟨i2,fun q=>hc q.symm⟩
theorem yMv {s:ByteArray}{c:UInt8}(hs:s.size≤1000):(c∉s.data.toList∧zXx s (c.toNat:Int)=some (-1))∨∃ a b,s.data.toList=a++c::b∧c∉b∧zXx s (c.toNat:Int)=some ((a.length:Nat):Int):=by
 have hl:s.data.toList.length=s.size:=rfl
 have h:=yMu (c:=c) hs s.size 7000 (Nat.le_refl _) (by omega)
 rw[List.take_of_length_le (by omega)] at h
 unfold zXx PPPT.gleberef1_last.f
 rw[w64 (by omega) (by omega)]
 exact h
theorem zJv (s:ByteArray):∃ r,zKd s 128=some r:=by
 unfold zKd
 rw[if_pos (by omega)]
 split
 ·exact⟨_,rfl⟩
 ·split
  ·split
   ·exact zI4 _ _ _
   ·exact⟨_,rfl⟩
  ·exact zI4 _ _ _
theorem yCs {s:ByteArray}{r:Int}(h:zKd s 128=some (r,true)):∃ q:Nat,q≤128∧r=(q:Int):=by
 unfold zKd at h
 rw[if_pos (by omega)] at h
 have e:(128:Int)=((128:Nat):Int):=rfl
 have e0:(0:Int)=((0:Nat):Int):=rfl
 split at h
 ·cases h
 ·split at h
  ·split at h
   ·rw[e,e0,zCt (by decide) _ 0 (by decide)] at h
    exact zMw _ _ _ (by decide) h
   ·cases h
  ·rw[e,e0,zCt (by decide) _ 0 (by decide)] at h
   exact zMw _ _ _ (by decide) h
theorem bsz (x:List UInt8):(mkB x).size=x.length:=by
 show(List.toArray x).size=_
 rw[List.size_toArray]
theorem ySk {r:Int×Int×Int×Bool}(h:zVt r):U6 r.2.1∧U6 r.2.2.1:=by
 rcases h with⟨V,B,q,hk,hq,rfl⟩|rfl
 ·have h1:=yKn (hk.pow hq)
  have h2:=yKo q
  exact⟨⟨Int.natCast_nonneg _,toI h1⟩,⟨Int.natCast_nonneg _,toI h2⟩⟩
 ·exact⟨⟨by decide,by decide⟩,⟨by decide,by decide⟩⟩
theorem zD0 {s:ByteArray}(hs:s.size≤200):∃ r,pref_Parse.f s=some r∧gleberef1_Prefix.f s=some r:=by
 have hl:s.data.toList.length=s.size:=rfl
 have odd:Odd 47:=⟨by decide,by decide⟩
 have e47:(47:Int)=(((47:UInt8).toNat:Nat):Int):=rfl
 have hz:s.size < 4294967281:=by omega
 have mk0:(⟨s.data.toList.toArray⟩:ByteArray)=s:=zOm rfl
 have par:∀ x:ByteArray,x.size≤200→∃ r,addr_Parse.f x=some r∧gleberef1_Parse.f x=some r∧zVt r:=by
  intro x hx
  obtain⟨r,hr,ha⟩:=yBh hx
  refine⟨r,hr,?_,ha⟩
  show zUc x=_
  unfold zUc
  rw[if_pos hx,yFg hx]
  exact hr
 have num:∀ x:ByteArray,x.size≤200→gleberef1_Num.f x 128=zKd x 128:=fun x hx=>yBl (m:=128) (by decide) (by omega) (by omega)
 unfold pref_Parse.f gleberef1_Prefix.f
 rcases yMv (s:=s) (c:=47) (by omega) with⟨h1,h2⟩|⟨a,b,h1,h2,h3⟩
 ·have ec:strings_Cut.f s { data:=#[47] }=some (s,⟨#[]⟩,false):=by
   show zC2 s _=_
   unfold zC2 zSw
   rw[if_pos hz,show(ByteArray.data { data:=#[47] }).toList=[47] from rfl,yFu h1,mk0]
  obtain⟨r,hr,_⟩:=par s hs
  obtain⟨n,hn⟩:=zJv ⟨#[]⟩
  have hn':date_Num.f ⟨#[]⟩ 128=some n:=hn
  have h2':gleberef1_last.f s 47=some (-1):=h2
  rw[ec,h2',Option.bind_some,hr,Option.bind_some,hn',Option.bind_some,if_neg (fun q=>by cases q),Option.bind_some,if_pos (by decide)]
  exact⟨_,rfl,rfl⟩
 ·have h3':gleberef1_last.f s 47=some ((a.length:Nat):Int):=h3
  have hle:a.length+1+b.length=s.size:=by rw[← hl,h1];simp;omega
  have hw:wrap64 (((a.length:Nat):Int)+1)=((a.length+1:Nat):Int):=by rw[w64 (by omega) (by omega)];omega
  have x1:s.extract 0 (((a.length:Nat):Int)).toNat=mkB a:=by
   rw[zEb,Int.toNat_natCast,h1]
   simp
  have x2:s.extract (((a.length+1:Nat):Int)).toNat s.size=mkB b:=by
   rw[zEb,Int.toNat_natCast,List.take_of_length_le (by omega),h1,show a++47::b=(a++[47])++b by simp]
   rw[List.drop_left' (by simp)]
  obtain⟨ra,ha1,ha2,ha3⟩:=par (mkB a) (by rw[bsz];omega)
  obtain⟨nb,hb⟩:=zJv (mkB b)
  have hb':gleberef1_Num.f (mkB b) 128=some nb:=by rw[num _ (by rw[bsz];omega)];exact hb
  rw[h3',Option.bind_some,if_neg (by omega),if_pos ⟨by omega,by omega⟩,x1,ha2,Option.bind_some,hw,if_pos ⟨by omega,by omega⟩,x2,hb',Option.bind_some]
  by_cases h47:(47:UInt8)∈a
  ·obtain⟨a1,a2,ea,h48⟩:=List.eq_append_cons_of_mem h47
   have e3:s.data.toList=a1++47::(a2++47::b):=by rw[h1,ea];simp
   have e4:a1.length+1+a2.length=a.length:=by rw[ea];simp;omega
   have ec:strings_Cut.f s { data:=#[47] }=some (mkB a1,mkB (a2++47::b),true):=by
    show zC2 s _=_
    unfold zC2 zSw
    rw[if_pos hz,show(ByteArray.data { data:=#[47] }).toList=[47] from rfl,e3,Txt.cut_one _ h48]
    rfl
   obtain⟨rc,hc1,_,_⟩:=par (mkB a1) (by rw[bsz];omega)
   obtain⟨nt,hn⟩:=zJv (mkB (a2++47::b))
   have hnp:date_Num.f (mkB (a2++47::b)) 128=some nt:=hn
   have no1:¬ nt.2=true:=by
    intro q
    obtain⟨n,o⟩:=nt
    have q:o=true:=q
    subst q
    have:=yCp odd (m:=128) (by decide) hn
    exact this (by show(47:UInt8)∈a2++47::b;simp)
   have no2:¬ ra.2.2.2=true:=fun q=>yCr odd (by rw[bsz];omega) ha1 q h47
   rw[ec,Option.bind_some,hc1,Option.bind_some,hnp,Option.bind_some,if_pos rfl,if_neg no2,if_neg no1]
   split
   ·exact⟨_,rfl,rfl⟩
   ·exact⟨_,rfl,rfl⟩
  ·have ec:strings_Cut.f s { data:=#[47] }=some (mkB a,mkB b,true):=by
    show zC2 s _=_
    unfold zC2 zSw
    rw[if_pos hz,show(ByteArray.data { data:=#[47] }).toList=[47] from rfl,h1,Txt.cut_one b h47]
    rfl
   have hbp:date_Num.f (mkB b) 128=some nb:=hb
   rw[ec,Option.bind_some,ha1,Option.bind_some,hbp,Option.bind_some,if_pos rfl]
   by_cases o1:ra.2.2.2=true
   ·rw[if_pos o1,if_pos o1]
    by_cases o2:nb.2=true
    ·obtain⟨n,o⟩:=nb
     have o2:o=true:=o2
     subst o2
     obtain⟨q,hq,rfl⟩:=yCs hb
     have w1:Go.bits .and .u64 (q:Int) 255=(q:Int):=yBm (by omega)
     have w2:wrap64 (q:Int)=(q:Int):=w64 (by omega) (by omega)
     obtain⟨u1,u2⟩:=ySk ha3
     obtain⟨z,z1,z2⟩:=zUh (V:=ra.1) (N:=(q:Int)) u1 u2
     rw[if_pos rfl,if_pos rfl,w1,w2,z1,z2,Option.bind_some]
     cases z<;>exact⟨_,rfl,rfl⟩
    ·rw[if_neg o2,if_neg o2]
     exact⟨_,rfl,rfl⟩
   ·rw[if_neg o1,if_neg o1]
    exact⟨_,rfl,rfl⟩
theorem zMz {V h l N:Int}(hh:U6 h)(hl:U6 l):∃ r,pref_Print.f V h l N=some r∧gleberef1_PrintPrefix.f V h l N=some r∧r.size≤104:=by
 unfold pref_Print.f gleberef1_PrintPrefix.f
 rcases zG7 V h l N hh hl with⟨e1,e2⟩|⟨B,q,n,hk,hq,rfl,rfl,rfl,hn,hm,e1,e2⟩
 ·rw[e1,e2,Option.bind_some,Option.bind_some,if_neg (by decide),if_neg (by decide)]
  exact⟨_,rfl,rfl,by decide⟩
 ·obtain⟨s,hs,p1,p2⟩:=zV0 hk hq (k:=300) (Nat.le_refl _)
  have p1':addr_Print.f V (H q) (L q)=some ⟨⟨s⟩⟩:=p1
  have p2':gleberef1_Print.f V (H q) (L q)=some ⟨⟨s⟩⟩:=p2
  have hB:=hk.le
  have hw:IntKind.u64.wrap (n:Int)=(n:Int):=wrapU ⟨by omega,by omega⟩
  have t1:date_Text.f (n:Int)=some (zDj n):=zVq (by omega)
  have t2:gleberef1_Text.f (n:Int)=some (zDj n):=zJu (by omega) (by omega)
  have s1:=zFo ⟨n,by omega⟩
  have s2:(⟨⟨s⟩⟩:ByteArray).size=s.length:=bsz s
  have s3:=hs.len
  have one:ByteArray.size ({ data:=#[47] }:ByteArray)=1:=rfl
  simp only at s1
  rw[e1,e2,Option.bind_some,Option.bind_some,if_pos rfl,if_pos rfl,p1',p2',Option.bind_some,Option.bind_some,hw,t1,t2]
  rw[if_pos (by omega)]
  simp only[Option.bind_some]
  rw[if_pos (by rw[ByteArray.size_append];omega)]
  exact⟨_,rfl,rfl,by rw[ByteArray.size_append,ByteArray.size_append];omega⟩
end Go.Proofs.YtfnacgojmdbjmaaGreatDoor
namespace Go.Proofs.YtfnacgojmdbjmaaGreatDoor
open Go.Det Go.RowKit PRD YtfnacgojmdbjmaaGreatDoorW.PrintWords
theorem zCe {b:Bool}{A B:Prop}(h:b=false)(k:B):zAm b A B:=by rw[h];exact k
theorem sB (x:Bool):(!(x==x))=false:=by cases x<;>rfl
theorem cT {α:Type}(a:α):zAl (a=a)=true:=zCg.2 rfl
theorem sT {α:Type}(a:α):(!zAl (a=a))=false:=by rw[cT];rfl
theorem s3 (a b c:Int):(!(zAl (a=a)&&(zAl (b=b)&&(zAl (c=c)&&true))))=false:=by rw[cT,cT,cT];rfl
theorem s4 (a b c d:Int):(!(zAl (a=a)&&(zAl (b=b)&&(zAl (c=c)&&(zAl (d=d)&&true)))))=false:=by rw[cT,cT,cT,cT];rfl
def yCt (v:LwV):LwV:=⟨v.x0,v.x1,v.x2,v.q0,v.q1,v.q2,v.q3,v.t,wrap64 (v.i+1)⟩
theorem yMw {v:LwV}{p:P4}(h0:0≤v.i)(h3:v.i < 3)(hp:v.t[v.i.toNat]?=some p)(px:U6 v.x1)(py:U6 v.x2)(qx:U6 v.q1)(qy:U6 v.q2)(p1:U6 p.2.1)(p2:U6 p.2.2.1):zOs v (yCt v):=by
 obtain⟨o,k1,k2⟩:=zUh (V:=p.1) (N:=p.2.2.2) p1 p2
 obtain⟨nm,n1,n2⟩:=yCo (V:=p.1) (N:=p.2.2.2) p1 p2
 obtain⟨o1,f1,f2⟩:=yO5 (a0:=v.x0) (m0:=nm.1) (m1:=nm.2.1) (m2:=nm.2.2.1) px py
 obtain⟨s,w1,w2,_⟩:=zMz (V:=p.1) (N:=p.2.2.2) p1 p2
 obtain⟨la,l1,l2⟩:=yMn (V:=p.1) (N:=p.2.2.2) p1 p2
 obtain⟨ha,a1,a2⟩:=yCn (V:=p.1) (N:=p.2.2.2) (W:=v.x0) p1 p2 px py
 obtain⟨ov,v1,v2⟩:=yMo (V:=p.1) (N:=p.2.2.2) (V':=v.q0) (N':=v.q3) p1 p2 qx qy
 obtain⟨le,e1,e2⟩:=yMq (V:=p.1) (N:=p.2.2.2) (V':=v.q0) (N':=v.q3) p1 p2 qx qy
 obtain⟨o2,g1,g2⟩:=yO5 (a0:=v.q0) (m0:=v.x0) (m1:=v.x1) (m2:=v.x2) qx qy
 have fi:=zQe k1
 refine(ySg v (yCt v) False).mpr ⟨rfl,zCg.2 h3,⟨h0,h3⟩,rfl,v.t,rfl,v.i.toNat,by omega,p,hp,o,k2,?_⟩
 cases o with
 |true=>
  rw[if_pos rfl] at fi
  refine⟨nm,n1,nm,n2,o1,f1,o1,f2,s,w1,s,w2,zCe (sT _) ⟨true,k1,true,k2,zCe (sB _) ⟨_,fi,zCe (s3 _ _ _) ⟨la,l1,la,l2,zCe (s3 _ _ _) ⟨ha,a1,ha,a2,zCe (sB _) ⟨ov,v1,ov,v2,zCe (sB _) ⟨le,e1,le,e2,zCe (sB _)
   (zCe (s3 _ _ _) (zCe (sB _) (zCe (s4 _ _ _ _) (zCe (sB _) ⟨o2,g1,o2,g2,zCe (s4 _ _ _ _) (zCe (sB _) ?_)⟩))))⟩⟩⟩⟩⟩⟩⟩
  simp only[zCc]
  repeat'(first|rfl|exact True.intro|refine And.intro ?_ ?_)
 |false=>
  rw[if_neg (by decide)] at fi
  refine⟨nm,n1,nm,n2,o1,f1,o1,f2,s,w1,s,w2,zCe (sT _) ⟨false,k1,false,k2,zCe (sB _) ⟨_,fi,zCe (s3 _ _ _) ⟨la,l1,la,l2,zCe (s3 _ _ _) ⟨ha,a1,ha,a2,zCe (sB _) ⟨ov,v1,ov,v2,zCe (sB _) ⟨le,e1,le,e2,zCe (sB _)
   (zCe (s3 _ _ _) (zCe (sB _) (zCe (s4 _ _ _ _) (zCe (sB _) ⟨o2,g1,o2,g2,zCe (s4 _ _ _ _) (zCe (sB _) ?_)⟩))))⟩⟩⟩⟩⟩⟩⟩
  simp only[zCc]
  repeat'(first|rfl|exact True.intro|refine And.intro ?_ ?_)
theorem yCu {x0 x1 x2:Int}{p q r:P4}(px:U6 x1)(py:U6 x2)(p1:U6 p.2.1)(p2:U6 p.2.2.1)(q1:U6 q.2.1)(q2:U6 q.2.2.1)(r1:U6 r.2.1)(r2:U6 r.2.2.1):
  Star zOs ⟨x0,x1,x2,q.1,q.2.1,q.2.2.1,q.2.2.2,[p,q,r],0⟩ ⟨x0,x1,x2,q.1,q.2.1,q.2.2.1,q.2.2.2,[p,q,r],3⟩:=by
 have st:∀ (i:Nat) (y:P4),i < 3→[p,q,r][i]?=some y→U6 y.2.1→U6 y.2.2.1→zOs ⟨x0,x1,x2,q.1,q.2.1,q.2.2.1,q.2.2.2,[p,q,r],(i:Int)⟩ ⟨x0,x1,x2,q.1,q.2.1,q.2.2.1,q.2.2.2,[p,q,r],((i+1:Nat):Int)⟩:=by
  intro i y hi hy u1 u2
  have:=yMw (v:=⟨x0,x1,x2,q.1,q.2.1,q.2.2.1,q.2.2.2,[p,q,r],(i:Int)⟩) (p:=y) (by show 0≤(i:Int);omega) (by show(i:Int) < 3;omega) (by show[p,q,r][((i:Int)).toNat]?=some y;rw[Int.toNat_natCast];exact hy) px py q1 q2 u1 u2
  unfold yCt at this
  simp only at this
  rw[w64 (by omega) (by omega)] at this
  exact this
 exact .step (st 0 p (by decide) rfl p1 p2) (.step (st 1 q (by decide) rfl q1 q2) (.step (st 2 r (by decide) rfl r1 r2) (.refl _)))
theorem yFv {v a b:Int}{lv:Value}{lc:List Value}{t:List Int}(ha:U6 a)(hb:U6 b)(ht:tOf lv lc=some t)(hl:t.length≤9223372036854775807):∃ r,txG v a b lv lc=some r∧r.size≤196:=by
 obtain⟨r,hr,hs⟩:=yFp (v:=v) (l:=t) ha.1 ha.2 hb.1 hb.2
 refine⟨r,?_,hs⟩
 unfold txG
 rw[ht]
 simp only
 rw[if_pos hl]
 exact hr
theorem zV5 (v a b n:Int)(ha:U6 a)(hb:U6 b):∃ q:P4,glebelaw3_Pre.f v a b n=some q∧U6 q.2.1∧U6 q.2.2.1:=by
 obtain⟨V,B,q,m,hk,hq,_,_,e⟩:=yOm v a b n ha.1 ha.2 hb.1 hb.2
 exact⟨_,e,U6H (hk.pow hq),U6L q⟩
theorem yG9 (n:Int):∃ r,yM5 (IntKind.wrap IntKind.u64 (zB2 .i64 n 255))=some r∧r.size≤3:=by
 obtain⟨b,hb,e⟩:=yFo n 255 (by decide)
 have e':zB2 .i64 n 255=(b:Int):=e
 rw[e',wrapU ⟨by omega,by omega⟩]
 have hs:=zFo ⟨b,by omega⟩
 exact⟨_,zJu (k:=300) (by omega) (by decide),hs⟩
theorem yHa (x y:Int):U6 (yF2 .u64 x y):=by
 obtain⟨n,hn,e⟩:=zXu .xor x y
 have e':yF2 .u64 x y=(n:Int):=e
 rw[e']
 exact⟨Int.natCast_nonneg _,toI hn⟩
theorem yTh (p q r:P4):[Value.int IntKind.i64 p.1,Value.int IntKind.u64 p.2.1,Value.int IntKind.u64 p.2.2.1,Value.int IntKind.i64 p.2.2.2,Value.int IntKind.i64 q.1,Value.int IntKind.u64 q.2.1,Value.int IntKind.u64 q.2.2.1,Value.int IntKind.i64 q.2.2.2,
  Value.int IntKind.i64 r.1,Value.int IntKind.u64 r.2.1,Value.int IntKind.u64 r.2.2.1,Value.int IntKind.i64 r.2.2.2]=List.flatMap zUg [p,q,r]:=by
 simp[zUg]
theorem yO6 {n c:Nat}{rc lc:List Value}{te tf:TypeId}{v a b n0:Int}{lv:Value}{p0 p1 p2 p3 xa xb xc:Int}{raw:ByteArray}{t:List Int}(ha:U6 a)(hb:U6 b)(hp1:U6 p1)(hp2:U6 p2)(hxb:U6 xb)(hxc:U6 xc)
  (hraw:zXy n rc=some raw) (hn:raw.size=n) (ht:tOf lv lc=some t) (hl:t.length≤9223372036854775807):
  zAx Tryz.prog (cwC L3) (zAd Tryz.f3) (zAn [.slice (some ⟨60,0,none⟩) n c,.int .i64 v,.int .u64 a,.int .u64 b,.int .i64 n0,lv,.agg #[.int .i64 p0,.int .u64 p1,.int .u64 p2,.int .i64 p3],.agg #[.int .i64 xa,.int .u64 xb,.int .u64 xc]] 8) (zAo (zQb rc te lc tf) 64) (zA7 Tryz.prog Tryz.f3 fun v _=>v=.bool true):=by
 refine zBc (zA0 L3) (yG6 50 [71]) _ yCl ((ySh n c rc lc te tf v a b n0 lv p0 p1 p2 p3 xa xb xc _).mpr (bifW_c (fun _=>⟨true,rfl,rfl⟩) fun h100=>?_))
 obtain⟨q,eq_,q1,q2⟩:=zV5 v a b n0 ha hb
 obtain⟨r,er,r1,r2⟩:=zV5 v a (yF2 .u64 b (zD3 .u64 1 (IntKind.wrap .u64 (zB2 .i64 (zBm .i64 n0 8) 63)))) (zBm .i64 n0 16) ha (yHa _ _)
 obtain⟨s1,_,w2,ws⟩:=zMz (V:=q.1) (N:=q.2.2.2) q1 q2
 obtain⟨tx,etx,htx⟩:=yFv (v:=v) ha hb ht hl
 obtain⟨t0,et0,ht0⟩:=yFv (v:=v) (lv:=.slice none 0 0) (lc:=lc) ha hb (t:=[]) rfl (by decide)
 obtain⟨tn,etn,htn⟩:=yG9 n0
 have one:ByteArray.size ({ data:=#[47] }:ByteArray)=1:=rfl
 have hz:(t0++({ data:=#[47] }:ByteArray)++tn).size≤200:=by rw[ByteArray.size_append,ByteArray.size_append];omega
 obtain⟨y1,a1,b1⟩:=zD0 (s:=raw) (by omega)
 obtain⟨y2,a2,b2⟩:=zD0 (s:=s1) (by omega)
 obtain⟨y3,a3,b3⟩:=zD0 (s:=tx) (by omega)
 obtain⟨y4,a4,b4⟩:=zD0 hz
 refine⟨q,eq_,raw,hraw,s1,w2,tx,etx,t0,et0,by omega,tn,etn,by rw[ByteArray.size_append];omega,rfl,by decide,
  y1,a1,y1,b1,zCe (s4 _ _ _ _) (zCe (sB _) ⟨rfl,by decide,y2,a2,y2,b2,zCe (s4 _ _ _ _) (zCe (sB _) ⟨rfl,by decide,y3,a3,y3,b3,zCe (s4 _ _ _ _) (zCe (sB _) ⟨rfl,by decide,y4,a4,y4,b4,zCe (s4 _ _ _ _) (zCe (sB _)
  ⟨rfl,by decide,zFm _,by decide,r,er,⟨xa,xb,xc,q.1,q.2.1,q.2.2.1,q.2.2.2,[(p0,p1,p2,p3),q,r],0⟩,?_,⟨xa,xb,xc,q.1,q.2.1,q.2.2.1,q.2.2.2,[(p0,p1,p2,p3),q,r],3⟩,yCu hxb hxc hp1 hp2 q1 q2 r1 r2,rfl,zDq.2 (show ¬ (3:Int) < 3 by decide),true,rfl,rfl⟩)⟩)⟩)⟩)⟩
 repeat'(first|rfl|exact True.intro|exact yTh _ _ _|refine And.intro ?_ ?_)
theorem yO7 {rc lc:List Value}{te tf:TypeId}{v a b n0:Int}{lv:Value}{p0 p1 p2 p3 xa xb xc:Int}{t:List Int}(ha:U6 a)(hb:U6 b)(hp1:U6 p1)(hp2:U6 p2)(hxb:U6 xb)(hxc:U6 xc)
  (ht:tOf lv lc=some t) (hl:t.length≤9223372036854775807):
  zAx Tryz.prog (cwC L3) (zAd Tryz.f3) (zAn [.float .f64 1,.int .i64 v,.int .u64 a,.int .u64 b,.int .i64 n0,lv,.agg #[.int .i64 p0,.int .u64 p1,.int .u64 p2,.int .i64 p3],.agg #[.int .i64 xa,.int .u64 xb,.int .u64 xc]] 8) (zAo (zQb rc te lc tf) 64) (zA7 Tryz.prog Tryz.f3 fun v _=>v=.bool true):=by
 refine zBc (zA0 L3) (zFl [71]) _ yCl ((ySi rc lc te tf v a b n0 lv p0 p1 p2 p3 xa xb xc _).mpr ?_)
 obtain⟨q,eq_,q1,q2⟩:=zV5 v a b n0 ha hb
 obtain⟨r,er,r1,r2⟩:=zV5 v a (yF2 .u64 b (zD3 .u64 1 (IntKind.wrap .u64 (zB2 .i64 (zBm .i64 n0 8) 63)))) (zBm .i64 n0 16) ha (yHa _ _)
 obtain⟨s1,_,w2,ws⟩:=zMz (V:=q.1) (N:=q.2.2.2) q1 q2
 obtain⟨tx,etx,htx⟩:=yFv (v:=v) ha hb ht hl
 obtain⟨t0,et0,ht0⟩:=yFv (v:=v) (lv:=.slice none 0 0) (lc:=lc) ha hb (t:=[]) rfl (by decide)
 obtain⟨tn,etn,htn⟩:=yG9 n0
 have one:ByteArray.size ({ data:=#[47] }:ByteArray)=1:=rfl
 have hz:(t0++({ data:=#[47] }:ByteArray)++tn).size≤200:=by rw[ByteArray.size_append,ByteArray.size_append];omega
 obtain⟨y1,a1,b1⟩:=zD0 (s:=ByteArray.empty) (by decide)
 obtain⟨y2,a2,b2⟩:=zD0 (s:=s1) (by omega)
 obtain⟨y3,a3,b3⟩:=zD0 (s:=tx) (by omega)
 obtain⟨y4,a4,b4⟩:=zD0 hz
 refine bifW_c (fun h=>absurd h (by decide)) fun _=>⟨q,eq_,s1,w2,tx,etx,t0,et0,by omega,tn,etn,by rw[ByteArray.size_append];omega,rfl,by decide,
  y1,a1,y1,b1,zCe (s4 _ _ _ _) (zCe (sB _) ⟨rfl,by decide,y2,a2,y2,b2,zCe (s4 _ _ _ _) (zCe (sB _) ⟨rfl,by decide,y3,a3,y3,b3,zCe (s4 _ _ _ _) (zCe (sB _) ⟨rfl,by decide,y4,a4,y4,b4,zCe (s4 _ _ _ _) (zCe (sB _)
  ⟨rfl,by decide,zFm _,by decide,r,er,⟨xa,xb,xc,q.1,q.2.1,q.2.2.1,q.2.2.2,[(p0,p1,p2,p3),q,r],0⟩,?_,⟨xa,xb,xc,q.1,q.2.1,q.2.2.1,q.2.2.2,[(p0,p1,p2,p3),q,r],3⟩,yCu hxb hxc hp1 hp2 q1 q2 r1 r2,rfl,zDq.2 (show ¬ (3:Int) < 3 by decide),true,rfl,rfl⟩)⟩)⟩)⟩)⟩
 repeat'(first|rfl|exact True.intro|exact yTh _ _ _|refine And.intro ?_ ?_)
def yCv (k:IntKind)(w:World)(a:Option Addr)(len cap:Nat)(zs:List Int):Prop:=
 (a=none∧len=0∧cap=0∧zs=[])∨
 ∃ x,a=some x∧len≤cap∧cap≤maxLen∧zs.length=cap∧(∀ i,i < zs.length→w.cell? (x.add i)=some (.int k (zs.getD i 0)))∧∀ n∈zs,(Lit.int k n).wf=true
theorem yFw:maxLen < zEo:=by unfold maxLen zEo;decide
theorem yMx {k:IntKind}{W:World}{a:Option Addr}{len cap:Nat}{zs:List Int}(h:yCv k W a len cap zs)(h0:0 < len):
  ∃ b o c t fz,a=some ⟨b,o,none⟩∧W.heap[b]?=some (.cells c t fz)∧len≤cap∧cap < zEo∧len≤9223372036854775807∧len≤zs.length∧o+len≤c.size∧∀ i,i < len→c.getD (o+i) und=.int k (zs.getD i 0):=by
 rcases h with⟨_,rfl,_⟩|⟨⟨b,o,sp⟩,rfl,hle,hm,hz,hcell,_⟩
 ·omega
 have hsp:sp=none:=by simpa [Addr.add] using World.cell?_spot (hcell 0 (by omega))
 subst hsp
 have hM:maxLen=9223372036854775807:=by decide
 have at_:∀ i,i < len→∃ c t fz,W.heap[b]?=some (.cells c t fz)∧o+i < c.size∧c.getD (o+i) und=.int k (zs.getD i 0):=by
  intro i hi
  have h1:=hcell i (by omega)
  rw[Addr.add_lit] at h1
  unfold World.cell? at h1
  split at h1
  case h_2=>cases h1
  rename_i c t fz hb
  simp only[Option.isSome_none,Bool.false_eq_true,if_false] at h1
  obtain⟨h2,h3⟩:=Array.getElem?_eq_some_iff.1 h1
  refine⟨c,t,fz,hb,h2,?_⟩
  rw[Array.getD_eq_getD_getElem?,h1];rfl
 obtain⟨c,t,fz,hb,_,_⟩:=at_ 0 h0
 refine⟨b,o,c,t,fz,rfl,hb,hle,Nat.lt_of_le_of_lt hm yFw,by omega,by omega,?_,fun i hi=>?_⟩
 ·obtain⟨c',t',fz',hb',h2,_⟩:=at_ (len - 1) (by omega)
  rw[hb] at hb';cases hb'
  omega
 ·obtain⟨c',t',fz',hb',_,h3⟩:=at_ i hi
  rw[hb] at hb';cases hb'
  exact h3
theorem yFx {W:World}(hW:GoodW W):∃ (b:Nat) (c:Array Value) (t:TypeId) (fz:Nat×Nat),W.heap[b]?=some (Obj.cells c t fz):=by
 obtain⟨t0,t2,t5,L⟩:=hW.lay
 have h:(match(zPr t0 t2 t5).get 1 with|some (Blk.cells _ _ _)=>true|_=>false)=true:=by kernel_rfl
 split at h
 case h_2=>cases h
 rename_i cs e ro hg
 obtain⟨b,sh,sz,c,fz,q⟩:=L.hr.cells 1 _ _ _ hg
 exact⟨b,c,_,fz,q.blk⟩
theorem yCw (k:IntKind)(zs:List Int)(n i:Nat)(h:i < ((zs.take n).map (Value.int k)).length):((zs.take n).map (Value.int k)).getD i und=.int k (zs.getD i 0):=by
 rw[List.length_map,List.length_take] at h
 rw[List.getD_eq_getElem?_getD,List.getElem?_map,List.getElem?_take,if_pos (by omega),List.getD_eq_getElem?_getD,List.getElem?_eq_getElem (by omega)]
 rfl
def two (W:World)(x y:Nat×Nat×Nat):Ren:=upd (upd (glob 6 W) 60 x) 61 y
theorem yHb (W:World)(x y:Nat×Nat×Nat):two W x y 60=some x:=by unfold two;rw[zA8 _ _ (by decide),zBe]
theorem yHc (W:World)(x y:Nat×Nat×Nat):two W x y 61=some y:=by unfold two;rw[zBe]
theorem yO8 {W:World}(hW:GoodW W){b1 o1 b2 o2:Nat}{c1 c2:Array Value}{t1 t2:TypeId}{f1 f2:Nat×Nat}{rc lc:List Value}(h1:W.heap[b1]?=some (.cells c1 t1 f1))(h2:W.heap[b2]?=some (.cells c2 t2 f2))
  (s1:o1+rc.length≤c1.size) (s2:o2+lc.length≤c2.size)
  (v1:∀ i,i < rc.length→VR (two W (b1,o1,c1.size) (b2,o2,c2.size)) (rc.getD i und) (c1.getD (o1+i) und)) (v2:∀ i,i < lc.length→VR (two W (b1,o1,c1.size) (b2,o2,c2.size)) (lc.getD i und) (c2.getD (o2+i) und)):
  HR (two W (b1,o1,c1.size) (b2,o2,c2.size)) (zQb rc (2 * t1) lc (2 * t2)) W W:=by
 have get:∀ id B,(zQb rc (2 * t1) lc (2 * t2)).get id=some B→(id=60∧B=.cells rc (2 * t1) true)∨(id=61∧B=.cells lc (2 * t2) true):=by
  intro id B h
  obtain⟨x,hx,e1,e2⟩:=zDs _ id B h
  simp only[List.mem_cons,List.not_mem_nil,or_false] at hx
  rcases hx with rfl|rfl
  ·exact .inl ⟨e1.symm,e2⟩
  ·exact .inr ⟨e1.symm,e2⟩
 refine⟨rfl,rfl,rfl,Nat.le_refl _,fun _ _=>rfl,fun id b sh sz q=>?_,fun id cs e ro q=>?_,fun i j ci ei cj ej r bi si zi bj sj zj _ gi _ _ _=>?_,fun id o q=>?_,fun i j ei ej bi si zi bj sj zj _ gi _ _ _=>?_⟩
 ·unfold two at q
  by_cases e61:id=61
  ·subst e61
   rw[zBe] at q;cases q
   exact zPk h2
  ·rw[zA8 _ _ e61] at q
   by_cases e60:id=60
   ·subst e60
    rw[zBe] at q;cases q
    exact zPk h1
   ·rw[zA8 _ _ e60] at q
    exact(Laying.empty (G:=6) hW.size).hr.dom _ _ _ _ q
 ·rcases get _ _ q with⟨rfl,e⟩|⟨rfl,e⟩
  ·cases e
   exact⟨b1,o1,c1.size,c1,f1,yHb _ _ _,by rw[zS5];exact h1,fun h=>absurd h (zYb t1),rfl,s1,v1,fun h=>by cases h⟩
  ·cases e
   exact⟨b2,o2,c2.size,c2,f2,yHc _ _ _,by rw[zS5];exact h2,fun h=>absurd h (zYb t2),rfl,s2,v2,fun h=>by cases h⟩
 ·rcases get _ _ gi with⟨_,e⟩|⟨_,e⟩<;>cases e
 ·rcases get _ _ q with⟨_,e⟩|⟨_,e⟩<;>cases e
 ·rcases get _ _ gi with⟨_,e⟩|⟨_,e⟩<;>cases e
theorem yFy (W:World)(x y:Nat×Nat×Nat):Glob 6 (two W x y):=fun g hg=>by
 obtain⟨z,hz⟩:=zEj 6 W g hg
 refine⟨z,?_⟩
 unfold two
 rw[zA8 _ _ (by omega),zA8 _ _ (by omega)]
 exact hz
theorem yCx (W:World)(x y:Nat×Nat×Nat)(id:Nat)(h:64≤id):two W x y id=none:=by
 unfold two
 rw[zA8 _ _ (by omega),zA8 _ _ (by omega)]
 exact zDu 6 W (by decide) id h
theorem yCy (rc:List Value)(te:TypeId)(lc:List Value)(tf:TypeId)(id:Nat)(h:64≤id):(zQb rc te lc tf).get id=none:=by
 cases e:(zQb rc te lc tf).get id with
 |none=>rfl
 |some B=>
  obtain⟨x,hx,e1,_⟩:=zDs _ id B e
  simp only[List.mem_cons,List.not_mem_nil,or_false] at hx
  rcases hx with rfl|rfl<;>(simp only at e1;omega)
theorem yCz {k:IntKind}{W:World}(hW:GoodW W){a:Option Addr}{len cap:Nat}{zs:List Int}(h:yCv k W a len cap zs)(hs:∀ x,a=some x→x.spot=none)(id:Nat):
  ∃ (b o:Nat) (c:Array Value) (t:TypeId) (fz:Nat×Nat) (cs:List Value) (rv:Value),W.heap[b]?=some (.cells c t fz)∧o+cs.length≤c.size∧(∀ φ i,i < cs.length→VR φ (cs.getD i und) (c.getD (o+i) und))∧
   (∀ φ,φ id=some (b,o,c.size)→VR φ rv (.slice a len cap))∧cs=(zs.take len).map (Value.int k)∧cs.length=len∧
   ((len=0∧rv=.float .f64 1)∨(0 < len∧rv=.slice (some ⟨id,0,none⟩) len cap∧len≤cap∧len≤9223372036854775807)):=by
 by_cases h0:len=0
 ·subst h0
  obtain⟨b,c,t,fz,hb⟩:=yFx hW
  exact⟨b,0,c,t,fz,[],.float .f64 1,hb,Nat.zero_le _,fun φ i hi=>absurd hi (Nat.not_lt_zero _),fun φ _=>VR.emp a cap hs,rfl,rfl,.inl ⟨rfl,rfl⟩⟩
 ·obtain⟨b,o,c,t,fz,rfl,hb,h1,h2,h3,h4,h5,h6⟩:=yMx h (by omega)
  have hlen:((zs.take len).map (Value.int k)).length=len:=by rw[List.length_map,List.length_take];omega
  refine⟨b,o,c,t,fz,(zs.take len).map (Value.int k),.slice (some ⟨id,0,none⟩) len cap,hb,by rw[hlen];exact h5,fun φ i hi=>?_,fun φ hφ=>VR.slice id 0 b o c.size len cap hφ h2,rfl,hlen,.inr ⟨by omega,rfl,h1,h3⟩⟩
  rw[yCw k zs len i hi,h6 i (by omega)]
  exact VR.int _ _
theorem zSt:∀ (zs:List Int),∃ bs:List UInt8,zIc (zs.map (Value.int .u8))=some bs∧bs.length=zs.length
 |[]=>⟨[],rfl,rfl⟩
 |z::t=>by
  obtain⟨bs,h1,h2⟩:=zSt t
  exact⟨UInt8.ofNat z.toNat::bs,by show(match zIc (t.map (Value.int .u8)) with|some r=>some (UInt8.ofNat z.toNat::r)|none=>none)=_;rw[h1],by rw[List.length_cons,List.length_cons,h2]⟩
theorem yO9 {n:Nat}{zs:List Int}(h:((zs.take n).map (Value.int .u8)).length=n):∃ raw,zXy n ((zs.take n).map (Value.int .u8))=some raw∧raw.size=n:=by
 obtain⟨bs,h1,h2⟩:=zSt (zs.take n)
 refine⟨⟨bs.toArray⟩,?_,?_⟩
 ·unfold zXy
  rw[zF4 (Nat.le_of_eq h.symm),List.take_of_length_le (Nat.le_of_eq h)]
  simp only[h1]
 ·show(List.toArray bs).size=n
  rw[List.size_toArray,h2]
  rw[List.length_map] at h
  exact h
theorem zV6:∀ (zs:List Int),yC3 dI (zs.map (Value.int .i64))=some zs
 |[]=>rfl
 |z::t=>by
  have e:dI (Value.int .i64 z)=some z:=rfl
  rw[List.map_cons,yC3,e]
  simp only[zV6 t]
theorem xAf {lv:Value}{len cap:Nat}{zs:List Int}(hl:((zs.take len).map (Value.int .i64)).length=len)(h:(len=0∧lv=.float .f64 1)∨(0 < len∧lv=.slice (some ⟨61,0,none⟩) len cap∧len≤cap∧len≤9223372036854775807)):
  ∃ t,tOf lv ((zs.take len).map (Value.int .i64))=some t∧t.length≤9223372036854775807:=by
 rcases h with⟨_,rfl⟩|⟨_,rfl,h1,h2⟩
 ·exact⟨[],rfl,by decide⟩
 ·refine⟨zs.take len,?_,by rw[List.length_map] at hl;omega⟩
  have e1:Nat.ble len cap=true:=Nat.ble_eq_true_of_le h1
  show(match Nat.ble len cap with|true=>(match zFd len ((zs.take len).map (Value.int .i64)) with|some r=>yC3 dI r|none=>none)|false=>none)=_
  rw[e1]
  simp only
  rw[zF4 (Nat.le_of_eq hl.symm),List.take_of_length_le (Nat.le_of_eq hl)]
  exact zV6 _
theorem xAg {φ:Ren}{u0 u1 u2 u3 u4 u5 u6 u7 v0 v1 v2 v3 v4 v5 v6 v7:Value}(h0:VR φ u0 v0)(h1:VR φ u1 v1)(h2:VR φ u2 v2)(h3:VR φ u3 v3)(h4:VR φ u4 v4)(h5:VR φ u5 v5)(h6:VR φ u6 v6)(h7:VR φ u7 v7):
  VRL φ [u0,u1,u2,u3,u4,u5,u6,u7] [v0,v1,v2,v3,v4,v5,v6,v7]:=by
 refine⟨rfl,fun i=>?_⟩
 match i with
 |0=>exact h0
 |1=>exact h1
 |2=>exact h2
 |3=>exact h3
 |4=>exact h4
 |5=>exact h5
 |6=>exact h6
 |7=>exact h7
 |n+8=>exact VR.any _
theorem zM0 {W:World}(hW:GoodW W){aR aL:Option Addr}{nR cR nL cL:Nat}{zR zL:List Int}(hR:yCv .u8 W aR nR cR zR)(hL:yCv .i64 W aL nL cL zL)(sR:∀ x,aR=some x→x.spot=none)(sL:∀ x,aL=some x→x.spot=none)
  {v a b n p0 p1 p2 p3 x0 x1 x2:Int} (ha:U6 a) (hb:U6 b) (hp1:U6 p1) (hp2:U6 p2) (hx1:U6 x1) (hx2:U6 x2):
  Calls Tryz.prog 3 #[.slice aR nR cR,.int .i64 v,.int .u64 a,.int .u64 b,.int .i64 n,.slice aL nL cL,.agg #[.int .i64 p0,.int .u64 p1,.int .u64 p2,.int .i64 p3],.agg #[.int .i64 x0,.int .u64 x1,.int .u64 x2]] W
   fun e W'=>e=.returned (.bool true)∧Below W.heap.size W W':=by
 obtain⟨b1,o1,c1,t1,f1,rc,rv,r1,r2,r3,r4,r5,r6,r7⟩:=yCz hW hR sR 60
 obtain⟨b2,o2,c2,t2,f2,lc,lv,l1,l2,l3,l4,l5,l6,l7⟩:=yCz hW hL sL 61
 have H:=yO8 hW r1 l1 r2 l2 (fun i hi=>r3 _ i hi) (fun i hi=>l3 _ i hi)
 have hA:VRL (two W (b1,o1,c1.size) (b2,o2,c2.size)) [rv,.int .i64 v,.int .u64 a,.int .u64 b,.int .i64 n,lv,.agg #[.int .i64 p0,.int .u64 p1,.int .u64 p2,.int .i64 p3],.agg #[.int .i64 x0,.int .u64 x1,.int .u64 x2]]
   [.slice aR nR cR,.int .i64 v,.int .u64 a,.int .u64 b,.int .i64 n,.slice aL nL cL,.agg #[.int .i64 p0,.int .u64 p1,.int .u64 p2,.int .i64 p3],.agg #[.int .i64 x0,.int .u64 x1,.int .u64 x2]]:=
  xAg (r4 _ (yHb _ _ _)) (VR.int _ _) (VR.int _ _) (VR.int _ _) (VR.int _ _) (l4 _ (yHc _ _ _)) (zCi rfl _) (zCi rfl _)
 obtain⟨t,ht,hl⟩:=xAf (lv:=lv) (zs:=zL) (len:=nL) (cap:=cL) (by rw[← l5];exact l6) l7
 rw[← l5] at ht
 have main:zAx Tryz.prog (cwC L3) (zAd Tryz.f3) (zAn [rv,.int .i64 v,.int .u64 a,.int .u64 b,.int .i64 n,lv,.agg #[.int .i64 p0,.int .u64 p1,.int .u64 p2,.int .i64 p3],.agg #[.int .i64 x0,.int .u64 x1,.int .u64 x2]] 8) (zAo (zQb rc (2 * t1) lc (2 * t2)) 64) (zA7 Tryz.prog Tryz.f3 fun v _=>v=.bool true):=by
  rcases r7 with⟨_,rfl⟩|⟨_,rfl,_,_⟩
  ·exact yO7 ha hb hp1 hp2 hx1 hx2 ht hl
  ·obtain⟨raw,q1,q2⟩:=yO9 (n:=nR) (zs:=zR) (by rw[← r5];exact r6)
   rw[← r5] at q1
   exact yO6 ha hb hp1 hp2 hx1 hx2 q1 q2 ht hl
 refine(zIv (P:=Tryz.prog) (w0:=W) (φ0:=two W (b1,o1,c1.size) (b2,o2,c2.size)) (G:=6) (fn:=Tryz.f3) (c:=zAd Tryz.f3) (zAt L3) (zHm (yTd hW) (Later.refl W)) (zHl (yTd hW)) zAs (yFy _ _ _) (yCx _ _ _) Tryz.func3 (by kernel_rfl) (by kernel_rfl) (by kernel_rfl) H hA (yCx _ _ _) (yCy _ _ _ _) (Nat.le_refl 64) main).mono ?_
 rintro e W' ⟨v1,v',s1,φ',rfl,rfl,hv,H',_,_⟩
 rw[zHd hv]
 exact⟨rfl,H'.os,H'.tape,H'.output,H'.size,fun j hj=>H'.old j hj⟩
end Go.Proofs.YtfnacgojmdbjmaaGreatDoor
section
namespace Go.Proofs.YtfnacgojmdbjmaaGreatDoor
open Go.ChangeShapes Go.WideShapes Go.ChangeAt Go.RowKit Go.Det
theorem zKw:laidOutB Tryz.prog=true:=by kernel_rfl
theorem zX0 {n:Int}(h:(Lit.int .u64 n).wf=true):U6 n:=by
 simp[Lit.wf,IntKind.min,IntKind.max,IntKind.signed,IntKind.bits] at h
 exact⟨by omega,by omega⟩
theorem zOt {P:Program}{w:World}{r:Reach}{base:Nat}{t e:TypeId}{a:Option Addr}{len cap:Nat}(ht:P.underlying t=some (.slice e))(h:Value.okWide P w r base t (.slice a len cap)):∀ x,a=some x→x.spot=none:=by
 rintro x rfl
 simp only[Value.okWide,ht,Cell.okWide,Cell.ok,World.has] at h
 exact h.2.2.2.1
section
variable {H:Type} {enc:TypeId×Value→H} {w:World} {base:Nat} {spare:Nat→Bool} {held:Bool}
theorem c30:Tryz.prog.cellsOf 30=4:=by kernel_rfl
theorem c28:Tryz.prog.cellsOf 28=3:=by kernel_rfl
theorem c26:Tryz.prog.cellsOf 26=2:=by kernel_rfl
theorem c23:Tryz.prog.cellsOf 23=1:=by kernel_rfl
theorem c3:Tryz.prog.cellsOf 3=1:=by kernel_rfl
theorem zSu {n:Nat}{u0 u1 u2:Value}{y:DataW H×List MemPlace}(h:DataW.trod enc Tryz.prog w base spare held n 28 [u0,u1,u2]=some y):
  ∃ a b c:Int,u0=.int .i64 a∧u1=.int .u64 b∧u2=.int .u64 c∧(Lit.int .u64 b).wf=true∧(Lit.int .u64 c).wf=true:=by
 obtain⟨y0,y1,m,_,_,h0,h1⟩:=trod_struct2 Tryz.underlying28 h
 simp only[c3,c26] at h0 h1
 have h0:DataW.trod enc Tryz.prog w base spare held m 3 [u0]=some y0:=h0
 have h1:DataW.trod enc Tryz.prog w base spare held m 26 [u1,u2]=some y1:=h1
 obtain⟨z0,z1,k,_,_,g0,g1⟩:=trod_struct2 Tryz.underlying26 h1
 simp only[c23] at g0 g1
 have g0:DataW.trod enc Tryz.prog w base spare held k 23 [u1]=some z0:=g0
 have g1:DataW.trod enc Tryz.prog w base spare held k 23 [u2]=some z1:=g1
 obtain⟨a,e0,_,_⟩:=DataW.trod_int Tryz.underlying3 h0
 obtain⟨b,e1,_,wb⟩:=DataW.trod_int Tryz.underlying23 g0
 obtain⟨c,e2,_,wc⟩:=DataW.trod_int Tryz.underlying23 g1
 simp only[List.cons.injEq,and_true] at e0 e1 e2
 exact⟨a,b,c,e0,e1,e2,wb,wc⟩
theorem yC0 {r:Reach}{b0:Nat}{v:Value}{d:DataW H}{p:List MemPlace}(hv:Value.okWide Tryz.prog w r b0 28 v)(h:DataW.Trod enc Tryz.prog w base spare held 28 v d p):
  ∃ a b c:Int,v=.agg #[.int .i64 a,.int .u64 b,.int .u64 c]∧(Lit.int .u64 b).wf=true∧(Lit.int .u64 c).wf=true:=by
 obtain⟨cs,rfl,hsz⟩:=okWide_struct Tryz.underlying28 hv
 obtain⟨u0,u1,u2,rfl⟩:=Joins.array3 (hsz.trans c28)
 obtain⟨fuel,hf⟩:=h
 obtain⟨a,b,c,rfl,rfl,rfl,wb,wc⟩:=zSu (by simpa [Value.cells] using hf)
 exact⟨a,b,c,rfl,wb,wc⟩
theorem yC1 {r:Reach}{b0:Nat}{v:Value}{d:DataW H}{p:List MemPlace}(hv:Value.okWide Tryz.prog w r b0 30 v)(h:DataW.Trod enc Tryz.prog w base spare held 30 v d p):
  ∃ a b c n:Int,v=.agg #[.int .i64 a,.int .u64 b,.int .u64 c,.int .i64 n]∧(Lit.int .u64 b).wf=true∧(Lit.int .u64 c).wf=true:=by
 obtain⟨cs,rfl,hsz⟩:=okWide_struct Tryz.underlying30 hv
 obtain⟨u0,u1,u2,u3,rfl⟩:=Joins.array4 (hsz.trans c30)
 obtain⟨fuel,hf⟩:=h
 have hf:DataW.trod enc Tryz.prog w base spare held fuel 30 [u0,u1,u2,u3]=some (d,p):=by simpa [Value.cells] using hf
 obtain⟨y0,y1,m,_,_,h0,h1⟩:=trod_struct2 Tryz.underlying30 hf
 rw[c28] at h0
 rw[c3] at h1
 have h0:DataW.trod enc Tryz.prog w base spare held m 28 [u0,u1,u2]=some y0:=h0
 have h1:DataW.trod enc Tryz.prog w base spare held m 3 [u3]=some y1:=h1
 obtain⟨a,b,c,rfl,rfl,rfl,wb,wc⟩:=zSu h0
 obtain⟨n,e0,_,_⟩:=DataW.trod_int Tryz.underlying3 h1
 obtain rfl:u3=.int .i64 n:=(List.cons.inj e0).1
 exact⟨a,b,c,n,rfl,wb,wc⟩
theorem zV7 {W:World}{k:IntKind}{t e:TypeId}{a:Option Addr}{len cap:Nat}{d:DataW H}{p:List MemPlace}(ht:Tryz.prog.underlying t=some (.slice e))(he:Tryz.prog.underlying e=some (.int k))(hc:Tryz.prog.cellsOf e=1)
  (h:DataW.Trod enc Tryz.prog W 0 (fun _=>true) true t (.slice a len cap) d p):∃ zs,yCv k W a len cap zs:=by
 obtain⟨fuel,hf⟩:=h
 rcases open_ints ht he hc hf with⟨hcs,_⟩|⟨x,l,c,zs,hcs,_,hl,hm,hz,_,hcell,hwz⟩
 ·simp[Value.cells] at hcs
  obtain⟨rfl,rfl,rfl⟩:=hcs
  exact⟨[],.inl ⟨rfl,rfl,rfl,rfl⟩⟩
 ·simp[Value.cells] at hcs
  obtain⟨rfl,rfl,rfl⟩:=hcs
  exact⟨zs,.inr ⟨_,rfl,hl,hm,by simpa using hz,hcell,hwz⟩⟩
end
theorem zKe (os:Os)(started:os.Started)(H:Type)(enc:TypeId×Value→H):
  ReturnsInHanded {} Tryz.checked os 3 .any (fun w args=>(Rows.prefTellsSpec.pre enc Tryz.prog Tryz.f3 [] false w args∧laidMetH Tryz.prog Rows.prefTellsRow.laid w)∧sizedMet enc Tryz.prog Tryz.f3 (OpenSpec.ofChange Rows.prefTellsSpec) false w args)
   (Rows.prefTellsSpec.post enc Tryz.prog Tryz.f3 false true false false):=by
 refine zTw (C:=Tryz.checked) (X:=fun w _=>laidMetH Tryz.prog Rows.prefTellsRow.laid w) (fun _ _ _ hh h=>h.of_heap hh) yNj started (by kernel_rfl) Tryz.func3
  (ChangeSpec.witness_shaped (enc:=enc) (C:=Tryz.checked) (os:=os) (X:=fun w _=>laidMetH Tryz.prog Rows.prefTellsRow.laid w) false (World.laidAll Tryz.prog os yD8) #[.slice none 0 0,.int .i64 0,.int .u64 0,.int .u64 0,.int .i64 0,.slice none 0 0,.agg #[.int .i64 0,.int .u64 0,.int .u64 0,.int .i64 0],.agg #[.int .i64 0,.int .u64 0,.int .u64 0]] 8 (World.laidAll_os _ _ _) (World.shaped_of_ZipB (by kernel_rfl) (by kernel_rfl)) (by kernel_rfl) (by kernel_rfl) (by kernel_rfl) (zZ0 os _)) ?_
 intro W base args ds gs before hval0 hW hL hsh
 obtain⟨t0,t2,t5,L,hs⟩:=yD9 hL
 have hG:GoodW W:=⟨⟨t0,t2,t5,L⟩,hs,Len.of_shape hsh hs⟩
 have hval:∀ (j:Nat) t v,Tryz.f3.params[j]?=some t→args[j]?=some v→Value.okWide Tryz.prog W .any base t v:=hval0
 have hW':=hW
 obtain⟨p,q,hA0,hV,rfl,hfz,hnd⟩:=hW
 have hA:DataW.TrodAll enc Tryz.prog W 0 (fun _=>true) true Tryz.f3.params.toList args.toList ds p:=hA0
 rw[Tryz.params3] at hA hval
 obtain⟨v0,vs0,d0,ds0,p0,q0,hargs,rfl,rfl,h0,r0⟩:=trodAll_cons hA
 obtain⟨v1,vs1,d1,ds1,p1,q1,rfl,rfl,rfl,h1,r1⟩:=trodAll_cons r0
 obtain⟨v2,vs2,d2,ds2,p2,q2,rfl,rfl,rfl,h2,r2⟩:=trodAll_cons r1
 obtain⟨v3,vs3,d3,ds3,p3,q3,rfl,rfl,rfl,h3,r3⟩:=trodAll_cons r2
 obtain⟨v4,vs4,d4,ds4,p4,q4,rfl,rfl,rfl,h4,r4⟩:=trodAll_cons r3
 obtain⟨v5,vs5,d5,ds5,p5,q5,rfl,rfl,rfl,h5,r5⟩:=trodAll_cons r4
 obtain⟨v6,vs6,d6,ds6,p6,q6,rfl,rfl,rfl,h6,r6⟩:=trodAll_cons r5
 obtain⟨v7,vs7,d7,ds7,p7,q7,rfl,rfl,rfl,h7,r7⟩:=trodAll_cons r6
 obtain⟨rfl,rfl,rfl⟩:=trodAll_nil r7
 obtain rfl:args=#[v0,v1,v2,v3,v4,v5,v6,v7]:=by cases args;simp_all
 obtain⟨rfl,rfl⟩:=trodVars_none hV
 obtain⟨a0,len0,cap0,rfl⟩:=okWide_slice Tryz.underlying22 (hval 0 22 v0 rfl rfl)
 obtain⟨n1,rfl,rfl,rfl,w1⟩:=open_int Tryz.underlying3 (hval 1 3 v1 rfl rfl) h1
 obtain⟨n2,rfl,rfl,rfl,w2⟩:=open_int Tryz.underlying23 (hval 2 23 v2 rfl rfl) h2
 obtain⟨n3,rfl,rfl,rfl,w3⟩:=open_int Tryz.underlying23 (hval 3 23 v3 rfl rfl) h3
 obtain⟨n4,rfl,rfl,rfl,w4⟩:=open_int Tryz.underlying3 (hval 4 3 v4 rfl rfl) h4
 obtain⟨a5,len5,cap5,rfl⟩:=okWide_slice Tryz.underlying24 (hval 5 24 v5 rfl rfl)
 obtain⟨e0,e1,e2,e3,rfl,we1,we2⟩:=yC1 (hval 6 30 v6 rfl rfl) h6
 obtain⟨g0,g1,g2,rfl,wg1,wg2⟩:=yC0 (hval 7 28 v7 rfl rfl) h7
 have lt:∀ (t:TypeId) (v:Value) (d:DataW H) (pp:List MemPlace),DataW.Trod enc Tryz.prog W 0 (fun _=>true) true t v d pp→∀ x∈pp,x.block < W.heap.size:=by
  intro t v d pp h
  obtain⟨m,hm⟩:=h
  exact DataW.trod_lt m _ _ _ hm
 obtain⟨z0,y0⟩:=zV7 Tryz.underlying22 Tryz.underlying5 (by kernel_rfl) h0
 obtain⟨z5,y5⟩:=zV7 Tryz.underlying24 Tryz.underlying3 (by kernel_rfl) h5
 refine(zM0 hG y0 y5 (zOt Tryz.underlying22 (hval 0 22 _ rfl rfl)) (zOt Tryz.underlying24 (hval 5 24 _ rfl rfl)) (zX0 w2) (zX0 w3) (zX0 we1) (zX0 we2) (zX0 wg1) (zX0 wg2)).mono fun e W' ⟨he,bel⟩=>?_
 subst he
 exact⟨_,rfl,_,_,_,[],_,[],hW',trodAll_mk1 (shut_bool Tryz.underlying4 _),(trodAll_cons_mk (Below.trod zKw (by kernel_rfl) (of_decide_eq_true (by kernel_rfl)) h0 bel (lt _ _ _ _ h0)) (trodAll_cons_mk (shut_int Tryz.underlying3 w1) (trodAll_cons_mk (shut_int Tryz.underlying23 w2) (trodAll_cons_mk (shut_int Tryz.underlying23 w3) (trodAll_cons_mk (shut_int Tryz.underlying3 w4)
  (trodAll_cons_mk (Below.trod zKw (by kernel_rfl) (of_decide_eq_true (by kernel_rfl)) h5 bel (lt _ _ _ _ h5)) (trodAll_cons_mk (Below.trod zKw (by kernel_rfl) (of_decide_eq_true (by kernel_rfl)) h6 bel (lt _ _ _ _ h6)) (trodAll_cons_mk (Below.trod zKw (by kernel_rfl) (of_decide_eq_true (by kernel_rfl)) h7 bel (lt _ _ _ _ h7)) trodAll_mk0)))))))),rfl,bel.frame _,fun h=>by cases h⟩
theorem prefTells_holds:Rows.PrefTellsSaid:=
 OpenClaim.holds_of_wide 3 Tryz.f3 rfl rfl rfl rfl rfl rfl rfl ⟨rfl,rfl,rfl,rfl,rfl⟩ rfl rfl rfl rfl rfl (by kernel_rfl) Tryz.func3 (by kernel_rfl)
  (of_decide_eq_true (by kernel_rfl)) (by unfold Func.isWrapper;first|(rw[if_pos (by decide +kernel)];kernel_rfl)|(rw[if_neg (by decide +kernel)];exact⟨rfl,rfl⟩))
  (fun os started H enc _=>zKe os started H enc)
theorem prefTells_card_holds:Rows.PrefTellsCardSaid:=
 Claim7.holds_tied_plain_at .later [] [.data,.data,.data,.data,.pinned] true (true,"1c36de9660843907b8c3e0895a467f8eef6e8407a06d415001d0f361211703f3") false
  prefTells_holds (fun _ h=>by cases h) (by kernel_rfl) (fun _ h=>by cases h) prefTells_row_tie rfl ⟨rfl,rfl⟩ (by kernel_rfl) rfl
  (fun f fn hf hfn=>by
   obtain rfl:f=3:=Option.some.inj ((show Tryz.prog.funcNamed "glebe/glebelaw3.PrefTells"=some 3 by kernel_rfl).symm.trans hf) |>.symm
   obtain rfl:fn=Tryz.f3:=(Option.some.inj (Tryz.func3.symm.trans hfn)).symm
   exact⟨by kernel_rfl,fun j t ht=>by
    rw[Tryz.params3] at ht
    have h3:t=3∨t=22∨t=23∨t=24∨t=28∨t=30:=by
     match j,ht with
     |0,ht=>simp at ht;subst ht;exact .inr (.inl rfl)
     |1,ht=>simp at ht;subst ht;exact .inl rfl
     |2,ht=>simp at ht;subst ht;exact .inr (.inr (.inl rfl))
     |3,ht=>simp at ht;subst ht;exact .inr (.inr (.inl rfl))
     |4,ht=>simp at ht;subst ht;exact .inl rfl
     |5,ht=>simp at ht;subst ht;exact .inr (.inr (.inr (.inl rfl)))
     |6,ht=>simp at ht;subst ht;exact .inr (.inr (.inr (.inr (.inr rfl))))
     |7,ht=>simp at ht;subst ht;exact .inr (.inr (.inr (.inr (.inl rfl))))
     |j+8,ht=>simp at ht
    rcases h3 with rfl|rfl|rfl|rfl|rfl|rfl
    ·exact(show Tryz.prog.wantsStandIn 3=false by kernel_rfl)
    ·exact(show Tryz.prog.wantsStandIn 22=false by kernel_rfl)
    ·exact(show Tryz.prog.wantsStandIn 23=false by kernel_rfl)
    ·exact(show Tryz.prog.wantsStandIn 24=false by kernel_rfl)
    ·exact(show Tryz.prog.wantsStandIn 28=false by kernel_rfl)
    ·exact(show Tryz.prog.wantsStandIn 30=false by kernel_rfl)⟩)
  (by kernel_rfl)
#print axioms prefTells_card_holds
end Go.Proofs.YtfnacgojmdbjmaaGreatDoor
end
end

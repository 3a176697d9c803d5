/- Texts of a proof, joined: words of the print (those that are named here) and printed functions. -/
import Derived.Test.YtfnacgojmdbjmaaGreatDoorQkm0
import Derived.Maps.RangeRun
import Derived.Orders
import Derived.Tactics
import GoSem.ClaimChange
import Derived.OpenShut
import Derived.LaidHandle
set_option linter.unusedSimpArgs false
set_option linter.unusedVariables false
set_option maxRecDepth 100000
noncomputable section
section
namespace Go.Det
variable {P:Program}
open Go.WideMaps
theorem zWl {k:TypeId}(h:yTz P k=true):KeyLaw P k:=by
 unfold yTz at h
 split at h
 ·rename_i hu;exact string_law hu
 ·rename_i hu
  rw[xG0] at h
  exact deep_law (m:=12) (by decide) h.1 h.2 (by rw[hu])
 ·rename_i hu
  rw[xG0] at h
  exact deep_law (m:=12) (by decide) h.1 h.2 (by rw[hu])
 ·cases h
theorem yAo {a b:ByteArray}:zLu a b=true↔a=b:=by
 unfold zLu
 rw[beq_iff_eq]
 constructor
 ·intro h
  obtain⟨⟨a⟩⟩:=a;obtain⟨⟨b⟩⟩:=b
  simp only at h
  rw[h]
 ·rintro rfl;rfl
theorem zJ3 {a b:Value}{r:Bool}(h:zRz a b=some r):r=true↔a=b:=by
 unfold zRz at h
 split at h
 ·split at h
  ·rename_i hk;cases h;have:=zIw hk;subst this;simp
  ·cases h
 ·cases h;simp
 ·cases h;rw[yAo];simp
 ·cases h
theorem zMh:∀ {a b:List Value} {r:Bool},zP2 a b=some r→(r=true↔a=b)
 |[],[],r,h=>by cases h;simp
 |[],_::_,r,h=>by cases h
 |_::_,[],r,h=>by cases h
 |a::s,b::t,r,h=>by
  unfold zP2 at h
  split at h
  case h_2=>cases h
  rename_i q hq
  have e:=zJ3 hq
  split at h
  ·have:=zMh h
   simp only[true_iff] at e
   rw[this,e];simp
  ·cases h
   simp only[xHz,false_iff] at e ⊢
   intro k;cases k;exact e rfl
theorem yAp {a b:Value}{r:Bool}(h:yKj a b=some r):r=true↔a=b:=by
 unfold yKj at h
 split at h
 ·rename_i p q
  rw[zMh h]
  constructor
  ·intro e;obtain⟨p⟩:=p;obtain⟨q⟩:=q;simp only at e;rw[e]
  ·intro e;cases e;rfl
 ·exact zJ3 h
theorem zO4 {kt:TypeId}{k:Value}:∀ {es:List (Value×Value×Nat)} {r:Option Nat},zX7 P kt k es=some r→
  (∀ e∈es,∃ l,keyOf P kt e.1=some l)∧(match r with|none=>∀ e∈es,e.1≠k|some j=>(∃ v n,es[j]?=some (k,v,n))∧∀ i e,es[i]?=some e→e.1=k→i=j)
 |[],r,h=>by cases h;exact⟨by simp,by simp⟩
 |e::t,r,h=>by
  unfold zX7 at h
  split at h
  case h_2=>cases h
  rename_i hl
  have hl:=xI9.1 hl
  split at h
  case h_2=>cases h
  rename_i r0 hr
  obtain⟨i1,i2⟩:=zO4 hr
  split at h
  case h_2=>cases h
  rename_i q hq
  have hk:=yAp hq
  refine⟨fun x hx=>by rcases xG6.1 hx with rfl|hx;exact hl;exact i1 x hx,?_⟩
  split at h
  ·simp only[true_iff] at hk
   split at h
   ·cases h
    simp only at i2 ⊢
    refine⟨⟨e.2.1,e.2.2,by rw[← hk];rfl⟩,fun i x hi hx=>?_⟩
    cases i with
    |zero=>rfl
    |succ i=>exact absurd hx (i2 x (xI2 (by simpa using hi)))
   ·cases h
  ·simp only[xHz,false_iff] at hk
   split at h
   ·cases h
    simp only at i2 ⊢
    intro x hx
    rcases xG6.1 hx with rfl|hx
    ·exact hk
    ·exact i2 x hx
   ·rename_i j
    cases h
    simp only at i2 ⊢
    obtain⟨⟨v,n,hv⟩,h2⟩:=i2
    refine⟨⟨v,n,by simpa using hv⟩,fun i x hi hx=>?_⟩
    cases i with
    |zero=>simp only[xHl,xGu] at hi;subst hi;exact absurd hx hk
    |succ i=>rw[h2 i x (by simpa using hi) hx]
theorem MapR.len {φ:Ren}{es:List (Value×Value×Nat)}{ms:List MapEntry}(h:MapR φ es ms):es.length=ms.length:=by
 induction h with
 |nil=>rfl
 |cons _ _ _ _ _ ih=>simp[ih]
theorem MapR.at {φ:Ren}{es:List (Value×Value×Nat)}{ms:List MapEntry}(h:MapR φ es ms):∀ {i:Nat} {m:MapEntry},ms[i]?=some m→∃ e,es[i]?=some e∧m.key=e.1∧VR φ e.2.1 m.val:=by
 induction h with
 |nil=>intro i m q;simp at q
 |cons e f n v _ ih=>
  intro i m q
  cases i with
  |zero=>simp only[xHl,xGu] at q;subst q;exact⟨_,rfl,e,v⟩
  |succ i=>obtain⟨x,h1,h2⟩:=ih (by simpa using q);exact⟨x,by simpa using h1,h2⟩
theorem MapR.mem {φ:Ren}{es:List (Value×Value×Nat)}{ms:List MapEntry}(h:MapR φ es ms){m:MapEntry}(hm:m∈ms):∃ e∈es,m.key=e.1:=by
 obtain⟨i,hi⟩:=List.getElem?_of_mem hm
 obtain⟨e,h1,h2,_⟩:=h.at hi
 exact⟨e,xI2 h1,h2⟩
theorem zLe {φ:Ren}{kt:TypeId}{k:Value}{es:List (Value×Value×Nat)}{ms:List MapEntry}{r:Option Nat}(hK:KeyLaw P kt)(hk:(keyOf P kt k).isSome=true)(h:zX7 P kt k es=some r)(hR:MapR φ es ms)(w:World):
  (match r with
   |none=>(Instr.findKey kt k ms).run P w=.ok none w
   |some j=>∃ m v n,ms[j]?=some m∧es[j]?=some (k,v,n)∧m.key=k∧VR φ v m.val∧(Instr.findKey kt k ms).run P w=.ok (some (j,m.val)) w):=by
 obtain⟨l,hl⟩:=xI9.1 hk
 obtain⟨h1,h2⟩:=zO4 h
 have hall:∀ m∈ms,∃ l,keyOf P kt m.key=some l:=fun m hm=>by
  obtain⟨e,he,q⟩:=hR.mem hm
  rw[q];exact h1 e he
 rcases hK.find w hl ms hall with⟨q1,q2⟩|⟨j,m,q1,q2,q3⟩
 ·cases r with
  |none=>exact q1
  |some j=>
   obtain⟨⟨v,n,hv⟩,_⟩:=h2
   have hlt:j < ms.length:=by rw[← hR.len];exact(xHu.1 hv).1
   obtain⟨e,p1,p2,_⟩:=hR.at (xGz hlt)
   rw[hv] at p1;cases p1
   exact absurd p2 (q2 _ (xH3 hlt))
 ·obtain⟨e,p1,p2,p3⟩:=hR.at q2
  cases r with
  |none=>exact absurd (by rw[← p2];exact q3) (h2 e (xI2 p1))
  |some j'=>
   obtain⟨⟨v,n,hv⟩,hu⟩:=h2
   have:=hu j e p1 (by rw[← p2];exact q3)
   subst this
   rw[hv] at p1;cases p1
   exact⟨m,v,n,q2,hv,q3,p3,q1⟩
theorem zQj {φ:Ren}{id:Nat}{x:Value}{b sh sz:Nat}(h:VR φ (.map (some id)) x)(k:φ id=some (b,sh,sz)):x=.map (some b):=by
 cases h with|map _ b' _ _ e=>rw[k] at e;cases e;rfl
theorem MapR.push {φ:Ren}{es:List (Value×Value×Nat)}{ms:List MapEntry}(h:MapR φ es ms){k v:Value}{m:MapEntry}(hk:m.key=k)(hf:zGx k=true)(hv:VR φ v m.val):MapR φ (es++[(k,v,m.born)]) (ms++[m]):=by
 induction h with
 |nil=>exact .cons hk hf rfl hv .nil
 |cons e f n q _ ih=>exact .cons e f n q ih
theorem MapR.set {φ:Ren}{es:List (Value×Value×Nat)}{ms:List MapEntry}(h:MapR φ es ms){k v v':Value}(hv:VR φ v v'):∀ {j:Nat},(∃ x n,es[j]?=some (k,x,n))→
  MapR φ (zR0 v es j) (ms.modify j fun e=>{ e with key:=k,val:=v' }):=by
 induction h with
 |nil=>rintro j ⟨x,n,q⟩;simp at q
 |cons e f n q t ih=>
  rintro j ⟨x,n',h1⟩
  cases j with
  |zero=>
   simp only[xHl,xGu] at h1
   cases h1
   simp only[zR0,List.modify_zero_cons]
   exact .cons rfl f n hv t
  |succ j=>
   simp only[zR0,List.modify_succ_cons]
   exact .cons e f n q (ih ⟨x,n',by simpa using h1⟩)
theorem zWm {n:Nat}:∀ {l:List Nat},yT0 n l=l.contains n
 |[]=>rfl
 |m::t=>by
  have e:Nat.beq n m=(n==m):=by
   cases h:Nat.beq n m
   ·have:=Nat.ne_of_beq_eq_false h;simp[this]
   ·have:=xG3 h;simp[this]
  rw[yT0,List.contains_cons,zWm,e]
theorem MapR.left {φ:Ren}{es:List (Value×Value×Nat)}{ms:List MapEntry}(seen:List Nat)(h:MapR φ es ms):MapR φ (zX8 seen es) (ms.filter fun e=>!seen.contains e.born):=by
 induction h with
 |nil=>exact .nil
 |@cons k v n t e t' h1 hf h2 h3 h4 ih=>
  rw[List.filter_cons]
  unfold zX8
  simp only
  rw[zWm,h2]
  cases hc:seen.contains n with
  |true=>exact ih
  |false=>exact .cons h1 hf h2 h3 ih
theorem zYu {φ:Ren}{since:Nat}{es:List (Value×Value×Nat)}{ms:List MapEntry}(h:MapR φ es ms)(k:zWd since es=true):∀ x∈ms,x.born < since:=by
 induction h with
 |nil=>simp
 |cons h1 _ h2 _ _ ih=>
  simp only[zWd,xG0] at k
  intro x hx
  rcases xG6.1 hx with rfl|hx
  ·rw[h2];exact xHg k.1
  ·exact ih k.2 x hx
theorem zO5:∀ {l:List Nat} {n:Nat},zX9 l=some n→(⟨l⟩:Array Nat).back?=some n
 |[],n,h=>by simp[zX9] at h
 |[a],n,h=>by simp[zX9] at h;simp[h]
 |a::b::t,n,h=>by
  have:=zO5 (l:=b::t) (n:=n) (by simpa [zX9] using h)
  simpa using this
theorem MapR.stamp {φ:Ren}{es:List (Value×Value×Nat)}{ms:List MapEntry}{n:Nat}(h:MapR φ es ms):∀ {e:Value×Value×Nat},zR2 n es=some e→∃ m,ms.find? (·.born==n)=some m∧m.key=e.1∧VR φ e.1 m.key∧VR φ e.2.1 m.val:=by
 induction h with
 |nil=>intro e q;simp[zR2] at q
 |@cons k v n' t m t' h1 hf h2 h3 h4 ih=>
  intro e q
  unfold zR2 at q
  split at q
  ·rename_i hb
   cases q
   have:=xG3 hb
   exact⟨m,by rw[List.find?_cons_of_pos];simpa [h2] using this,h1,by rw[h1];exact zEi hf φ,h3⟩
  ·rename_i hb
   obtain⟨m',q1,q2⟩:=ih q
   refine⟨m',?_,q2⟩
   rw[List.find?_cons_of_neg]
   ·exact q1
   ·simp only[h2,beq_iff_eq];exact Nat.ne_of_beq_eq_false hb
section
variable {w0 w:World} {φ:Ren} {l:zAv} {s s':St} {v:Value} {ρ:Operand→Value} {lo:Nat}
theorem ObR.map_inv {φ:Ren}{es:List (Value×Value×Nat)}{ck:Nat}{O:Obj}(h:ObR φ (.mp es ck) O):∃ ms,O=.map ms ck∧MapR φ es ms.toList:=by
 cases h with|mp h=>exact⟨_,rfl,h⟩
theorem ObR.it_inv {φ:Ren}{id since last:Nat}{seen:List Nat}{O:Obj}(h:ObR φ (.it (some id) since seen last) O):∃ b sh sz,O=.mapIter (some b) since ⟨seen⟩ last∧φ id=some (b,sh,sz):=by
 cases h with|it h=>exact⟨_,_,_,rfl,h⟩
theorem ObR.itn_inv {φ:Ren}{since last:Nat}{seen:List Nat}{O:Obj}(h:ObR φ (.it none since seen last) O):O=.mapIter none since ⟨seen⟩ last:=by
 cases h with|itn=>rfl
theorem zYv {t:TypeId}{x:Operand}(h:zP9 P t x l s=some (v,s'))(H:HR φ s.h w0 w)(hf:∀ id,s.next≤id→id < s'.next→φ id=none)(hx:VR φ (evalO l x) (ρ x)):
  Gives P w0 φ s.next s' v ((do pure (Next.value (← Instr.range t (ρ x))):Sem Next).run P w):=by
 unfold zP9 zOt at h
 split at h
 case h_2=>cases h
 rename_i kt e a ht hxv
 have ht:P.underlying t=some (.map kt e):=ht
 rw[hxv] at hx
 split at h
 ·cases h
  have hn:φ s.next=none:=hf _ (xGv _) (xHw _)
  rw[zIy hx]
  simp[Instr.range,run_underlying ht,Result.andThen]
  exact⟨upd φ s.next (w.heap.size,0,0),Ext.upd hn _,.ptr _ 0 _ 0 0 (zBd _ _ _),H.obNew hn rfl rfl rfl rfl .itn⟩
 ·rename_i id
  split at h
  case h_2=>cases h
  rename_i o hg
  split at h
  case h_2=>cases h
  rename_i es ck
  cases h
  have hn:φ s.next=none:=hf _ (xGv _) (xHw _)
  obtain⟨b,sh,sz,O,M⟩:=H.obs _ _ hg
  obtain⟨ms,rfl,hent⟩:=M.ob.map_inv
  rw[zQj hx M.at_]
  simp[Instr.range,run_underlying ht,MapKept.run_getObj_map M.blk,Result.andThen]
  exact⟨upd φ s.next (w.heap.size,0,0),Ext.upd hn _,.ptr _ 0 _ 0 0 (zBd _ _ _),H.obNew hn rfl rfl rfl rfl (.it M.at_)⟩
theorem zQk {ty:TypeId}{r since last:Nat}{seen:Array Nat}(hr:w.heap[r]?=some (.mapIter none since seen last)):
  (Instr.next (.pointer (some ⟨r,0,none⟩)) false ty).run P w=.ok (.tuple #[.bool false]) w:=by
 simp[Instr.next,getObj,Sem.run,hr,Result.andThen]
theorem yAq {ty:TypeId}{x:Operand}{str:Bool}(h:zWe x str l s=some (v,s'))(H:HR φ s.h w0 w)(hx:VR φ (evalO l x) (ρ x)):
  Gives P w0 φ lo s' v ((do pure (Next.value (← Instr.next (ρ x) str ty)):Sem Next).run P w):=by
 unfold zWe zUl at h
 split at h
 case h_2=>cases h
 rename_i r hxv
 rw[hxv] at hx
 split at h
 case h_2=>cases h
 rename_i o hg
 split at h
 case h_2=>cases h
 rename_i m since seen last
 obtain⟨b,sh,sz,O,M⟩:=H.obs _ _ hg
 obtain⟨b',sh',sz',e1,e2⟩:=zDu hx
 rw[M.at_] at e1;cases e1
 have hsh:sh=0:=M.zero
 subst hsh
 rw[e2]
 unfold zOu at h
 split at h
 ·cases h
  obtain rfl:=M.ob.itn_inv
  exact zAw (s:=s.read r) H (VR.tuple_of (VRL.cons (.bool false) (VRL.nil _))) (zQk M.blk)
 ·rename_i id
  split at h
  case h_2=>cases h
  rename_i o2 hg2
  split at h
  case h_2=>cases h
  rename_i es ck
  obtain⟨bm,shm,szm,rfl,hid⟩:=M.ob.it_inv
  obtain⟨b2,sh2,sz2,O2,M2⟩:=H.obs _ _ hg2
  rw[M2.at_] at hid;cases hid
  obtain⟨ms,rfl,hent⟩:=M2.ob.map_inv
  unfold zR1 at h
  split at h
  case h_2=>cases h
  rename_i hc
  rw[xG0] at hc
  have hleft:MapR φ (zX8 seen es) (leftOf ms ⟨seen⟩).toList:=by
   have:=hent.left seen
   unfold leftOf
   rw[Array.toList_filter]
   simpa using this
  have hrun:=run_next_at (P:=P) w ty b bm since last ⟨seen⟩ ms ck M.blk M2.blk (zYu hent hc.2) (xHg hc.1)
  split at h
  ·rename_i hl
   cases h
   rw[hl] at hleft
   have h0:(leftOf ms ⟨seen⟩).toList=[]:=by have:=hleft.len;exact xHq this.symm
   rcases hrun with⟨_,hrun⟩|⟨e,he,_⟩
   ·exact zAw (s:=(s.read r).read id) H (VR.tuple_of (VRL.cons (.bool false) (VRL.nil _))) hrun
   ·rw[h0] at he;cases he
  ·rename_i e t hl
   split at h
   case h_2=>cases h
   cases h
   rw[hl] at hleft
   rcases hrun with⟨h0,_⟩|⟨m,hm,w1,hw1,hrun⟩
   ·have:=hleft.len;simp[h0] at this
   ·obtain⟨L,hL⟩:∃ L,(leftOf ms ⟨seen⟩).toList=L:=⟨_,rfl⟩
    rw[hL] at hleft hm
    cases hleft with
    |cons q1 qf q2 q3 q4=>
     cases q4
     obtain rfl:=xHs.1 hm
     rw[Sem.run_bind,hrun]
     have H1:HR φ s.h w0 w1:=by
      rcases hw1 with rfl|rfl
      ·exact H
      ·exact H.drawn _
     refine⟨φ,Ext.refl _ _ _,VR.tuple_of (VRL.cons (.bool true) (VRL.cons (by rw[q1];exact zEi qf φ) (VRL.cons q3 (VRL.nil _)))),?_⟩
     refine H1.obTurn hg M.at_ rfl rfl rfl rfl ?_
     have:(⟨seen⟩:Array Nat).push m.born=⟨seen++[m.born]⟩:=by simp
     rw[this,q2]
     exact .it M2.at_
theorem zYw {x:Operand}(h:zQa x l s=some (v,s'))(H:HR φ s.h w0 w)(hx:VR φ (evalO l x) (ρ x)):
  Gives P w0 φ lo s' v ((do pure (Next.value (← Instr.entry (ρ x))):Sem Next).run P w):=by
 unfold zQa zR3 at h
 split at h
 case h_2=>cases h
 rename_i r hxv
 rw[hxv] at hx
 split at h
 case h_2=>cases h
 rename_i o hg
 split at h
 case h_2=>cases h
 rename_i m since seen last
 obtain⟨b,sh,sz,O,M⟩:=H.obs _ _ hg
 obtain⟨b',sh',sz',e1,e2⟩:=zDu hx
 rw[M.at_] at e1;cases e1
 have hsh:sh=0:=M.zero
 subst hsh
 rw[e2]
 unfold zP4 at h
 split at h
 case h_1=>cases h
 rename_i id
 split at h
 case h_2=>cases h
 rename_i o2 hg2
 split at h
 case h_2=>cases h
 rename_i es ck
 obtain⟨bm,shm,szm,rfl,hid⟩:=M.ob.it_inv
 obtain⟨b2,sh2,sz2,O2,M2⟩:=H.obs _ _ hg2
 rw[M2.at_] at hid;cases hid
 obtain⟨ms,rfl,hent⟩:=M2.ob.map_inv
 unfold zP3 at h
 split at h
 case h_2=>cases h
 rename_i n hc hn
 split at h
 case h_2=>cases h
 rename_i e he
 cases h
 obtain⟨m,q1,q2,qk,q3⟩:=hent.stamp he
 have hck:=xG3 hc
 subst hck
 refine zAw (s:=(s.read r).read id) H (v':=.tuple #[m.key,m.val]) (VR.tuple_of (VRL.cons qk (VRL.cons q3 (VRL.nil _)))) ?_
 have hf:ms.find? (·.born==n)=some m:=by rw[← Array.find?_toList];exact q1
 simp[Instr.entry,getObj,Sem.run,M.blk,M2.blk,Result.andThen,zO5 hn,hf]
theorem zSr {t:TypeId}{r:Option Operand}(h:zIt r l s=some (v,s'))(H:HR φ s.h w0 w)(hf:∀ id,s.next≤id→id < s'.next→φ id=none):
  Gives P w0 φ s.next s' v ((do pure (Next.value (← Instr.makeMap t (r.map ρ))):Sem Next).run P w):=by
 unfold zIt at h
 split at h
 case h_2=>cases h
 cases h
 have hn:φ s.next=none:=hf _ (xGv _) (xHw _)
 simp[Instr.makeMap,Result.andThen]
 exact⟨upd φ s.next (w.heap.size,0,0),Ext.upd hn _,.map _ _ _ _ (zBd _ _ _),H.obNew hn rfl rfl rfl rfl (.mp .nil)⟩
theorem zO6 {φ:Ren}{ok b:Bool}{v v':Value}(h:VR φ v v'):VR φ (zUk ok v b) (if ok=true then .tuple #[v',.bool b] else v'):=by
 cases ok with
 |true=>exact VR.tuple_of (VRL.cons h (VRL.cons (.bool b) (VRL.nil _)))
 |false=>exact h
theorem zUw {t:TypeId}{x k:Operand}{ok:Bool}(h:zK8 P t x k ok l s=some (v,s'))(H:HR φ s.h w0 w)(hx:VR φ (evalO l x) (ρ x))(hk:VR φ (evalO l k) (ρ k)):
  Gives P w0 φ lo s' v ((do pure (Next.value (← Instr.lookup t (ρ x) (ρ k) ok)):Sem Next).run P w):=by
 unfold zK8 zJw at h
 split at h
 case h_2=>cases h
 rename_i kt e ht
 have ht:P.underlying t=some (.map kt e):=ht
 split at h
 case h_2=>cases h
 rename_i hc
 simp only[xG0] at hc
 obtain⟨c1,c2,c3⟩:=hc
 have hK:=zWl c1
 rw[zCq c2 hk]
 obtain⟨kl,hkl⟩:=xI9.1 c3
 unfold zZ7 at h
 split at h
 case h_2=>cases h
 rename_i r hr
 obtain⟨es,s1⟩:=r
 simp only at h
 split at h
 case h_2=>cases h
 rename_i v' hv
 cases h
 have main:∀ (ms:List MapEntry),MapR φ es ms→∃ y,VR φ v y∧∀ em:Bool,(do
   Instr.checkKey em 10000 kt (evalO l k)
   let (v,b) ← match ← Instr.findKey kt (evalO l k) ms with
    |some (_,v)=>pure (v,true)
    |none=>pure (← zeroValue e,false)
   pure (if ok then .tuple #[v,.bool b] else v):Sem Value).run P w=.ok y w:=by
  intro ms hR
  unfold zZ8 at hv
  split at hv
  ·rename_i j hj
   have hfind:=zLe hK c3 hj hR w
   obtain⟨m,x0,n0,f1,f2,f3,f4,f5⟩:=hfind
   rw[yAk,f2] at hv
   cases hv
   refine⟨_,zO6 (ok:=ok) (b:=true) f4,fun em=>?_⟩
   simp[hK.check w em hkl,f5,Result.andThen]
  ·rename_i hj
   have hfind:=zLe hK c3 hj hR w
   simp only at hfind
   split at hv
   case h_2=>cases hv
   rename_i z hz
   cases hv
   refine⟨_,zO6 (ok:=ok) (b:=false) (zEi (zL6 hz) φ),fun em=>?_⟩
   simp[hK.check w em hkl,hfind,zCt hz,Result.andThen]
  ·cases hv
 split at hr
 case h_2=>cases hr
 rename_i a ha
 rw[ha] at hx
 split at hr
 ·cases hr
  rw[zIy hx]
  obtain⟨y,h1,h2⟩:=main [] .nil
  refine zAw H h1 ?_
  have:=h2 true
  simp only[Instr.lookup,Sem.run_bind,run_underlying ht,Result.andThen_ok,Sem.run_pure] at this ⊢
  exact this
 ·rename_i id
  split at hr
  case h_2=>cases hr
  rename_i o hg
  split at hr
  case h_2=>cases hr
  rename_i es' ck
  cases hr
  obtain⟨b,sh,sz,O,M⟩:=H.obs _ _ hg
  obtain⟨ms,rfl,hent⟩:=M.ob.map_inv
  obtain⟨y,h1,h2⟩:=main ms.toList hent
  have hxe:ρ x=.map (some b):=zQj hx M.at_
  rw[hxe]
  refine zAw (s:=s.read id) H h1 ?_
  have:=h2 ms.isEmpty
  simp only[Instr.lookup,Sem.run_bind,run_underlying ht,Result.andThen_ok,Sem.run_pure,MapKept.run_getObj_map M.blk] at this ⊢
  exact this
theorem zOm {t:TypeId}{x k y:Operand}(h:zF6 P t x k y l s=some (v,s'))(H:HR φ s.h w0 w)(hx:VR φ (evalO l x) (ρ x))(hk:VR φ (evalO l k) (ρ k))(hy:VR φ (evalO l y) (ρ y)):
  Gives P w0 φ lo s' v ((do Instr.mapUpdate t (ρ x) (ρ k) (ρ y);pure Next.skip:Sem Next).run P w):=by
 unfold zF6 zLv at h
 split at h
 case h_2=>cases h
 rename_i kt e id ht hxv
 have ht:P.underlying t=some (.map kt e):=ht
 split at h
 case h_2=>cases h
 rename_i hc
 simp only[xG0] at hc
 obtain⟨c1,c2,c3⟩:=hc
 have hK:=zWl c1
 rw[zCq c2 hk]
 obtain⟨kl,hkl⟩:=xI9.1 c3
 split at h
 case h_2=>cases h
 rename_i o hg
 split at h
 case h_2=>cases h
 rename_i es ck
 split at h
 case h_2=>cases h
 rename_i es' hu
 cases h
 obtain⟨b,sh,sz,O,M⟩:=H.obs _ _ hg
 obtain⟨ms,rfl,hent⟩:=M.ob.map_inv
 rw[hxv] at hx
 have hxe:ρ x=.map (some b):=zQj hx M.at_
 rw[hxe]
 unfold yRg at hu
 split at hu
 ·rename_i j hj
  cases hu
  obtain⟨m,x0,n0,f1,f2,f3,f4,f5⟩:=zLe hK c3 hj hent w
  have hm:ms[j]?=some m:=by simpa using f1
  have hrun:(do Instr.mapUpdate t (.map (some b)) (evalO l k) (ρ y);pure Next.skip:Sem Next).run P w=.ok .skip { w with heap:=w.heap.setIfInBounds b (.map (ms.modify j fun e=>{ e with key:=evalO l k,val:=ρ y }) ck) }:=by
   simp[Instr.mapUpdate,run_underlying ht,MapKept.run_getObj_map M.blk,hK.check w false hkl,f5,hm,f3,hK.stays w hkl,MapKept.run_setObj_map _ M.blk,Result.andThen]
  rw[hrun]
  refine⟨φ,Ext.refl _ _ _,.any _,H.obTurn hg M.at_ rfl rfl rfl rfl (.mp ?_)⟩
  rw[Array.toList_modify]
  exact hent.set hy ⟨x0,n0,f2⟩
 ·rename_i hj
  cases hu
  have f5:=zLe hK c3 hj hent w
  simp only at f5
  have hrun:(do Instr.mapUpdate t (.map (some b)) (evalO l k) (ρ y);pure Next.skip:Sem Next).run P w=.ok .skip { w with heap:=w.heap.setIfInBounds b (.map (ms.push { key:=evalO l k,val:=ρ y,born:=ck }) (ck+1)) }:=by
   simp[Instr.mapUpdate,run_underlying ht,MapKept.run_getObj_map M.blk,hK.check w false hkl,f5,MapKept.run_setObj_map _ M.blk,Result.andThen]
  rw[hrun]
  refine⟨φ,Ext.refl _ _ _,.any _,H.obTurn hg M.at_ rfl rfl rfl rfl (.mp ?_)⟩
  rw[Array.toList_push]
  exact hent.push (m:={ key:=evalO l k,val:=ρ y,born:=ck }) rfl c2 hy
 ·cases hu
end
end Go.Det
end
namespace Go.Det
variable {P:Program}
def bit (m i:Nat):Prop:=Nat.testBit m i=true
theorem zBl {a b i:Nat}:bit (Nat.lor a b) i↔bit a i∨bit b i:=by
 unfold bit
 rw[show Nat.lor a b=a ||| b from rfl,Nat.testBit_or,xIr]
theorem zD8 {i j:Nat}:bit (Nat.shiftLeft 1 i) j↔j=i:=by
 unfold bit
 rw[show Nat.shiftLeft 1 i=1 <<< i from rfl,Nat.one_shiftLeft,Nat.testBit_two_pow]
 simp;exact eq_comm
theorem zE4 {i:Nat}:¬ bit 0 i:=by simp[bit]
theorem zUx {m n i:Nat}:bit (Nat.mod m (Nat.shiftLeft 1 n)) i↔i < n∧bit m i:=by
 unfold bit
 rw[show Nat.shiftLeft 1 n=2 ^ n by rw[show Nat.shiftLeft 1 n=1 <<< n from rfl,Nat.one_shiftLeft],show Nat.mod m (2 ^ n)=m % 2 ^ n from rfl,Nat.testBit_mod_two_pow]
 simp
theorem yAr {m n i:Nat}(h:m+1≤Nat.shiftLeft 1 n)(k:bit m i):i < n:=by
 rw[show Nat.shiftLeft 1 n=2 ^ n by rw[show Nat.shiftLeft 1 n=1 <<< n from rfl,Nat.one_shiftLeft]] at h
 rcases xHr i n with q|q
 ·exact q
 ·have:=Nat.ge_two_pow_of_testBit k
  have:=xI8 (n:=2) (by omega) q
  omega
structure G1 (s s':St):Prop where
 next:s.next≤s'.next
 hi:s.hi≤s'.hi
 inv:s.next≤s.hi→s'.next≤s'.hi
 rd:∀ i,bit s.rd i→bit s'.rd i
 wr:∀ i,bit s.wr i→bit s'.wr i
 frame:∀ i,¬ bit s'.wr i→s'.h.get i=s.h.get i
 dom:∀ i,s'.h.get i≠none→s.h.get i≠none∨(s.next≤i∧i < s'.next)
 keep:∀ i,s.h.get i≠none→s'.h.get i≠none
 oldw:∀ i,bit s'.wr i→bit s.wr i∨(bit s'.rd i∧s.h.get i≠none)∨(s.next≤i∧i < s'.next)
 oldr:∀ i,bit s'.rd i→bit s.rd i∨s.h.get i≠none∨(s.next≤i∧i < s'.next)
theorem G1.refl (s:St):G1 s s:=⟨xGv _,xGv _,id,fun _=>id,fun _=>id,fun _ _=>rfl,fun _=>.inl,fun _=>id,fun _=>.inl,fun _=>.inl⟩
theorem G1.trans {a b c:St}(h:G1 a b)(k:G1 b c):G1 a c where
 next:=xHf h.next k.next
 hi:=xHf h.hi k.hi
 inv q:=k.inv (h.inv q)
 rd i q:=k.rd i (h.rd i q)
 wr i q:=k.wr i (h.wr i q)
 frame i q:=(k.frame i q).trans (h.frame i fun r=>q (k.wr i r))
 dom i q:=by
  rcases k.dom i q with r|r
  ·rcases h.dom i r with r|r
   ·exact .inl r
   ·right;have:=k.next;omega
  ·right;have:=h.next;omega
 keep i q:=k.keep i (h.keep i q)
 oldw i q:=by
  rcases k.oldw i q with r|⟨r,r2⟩|r
  ·rcases h.oldw i r with r|⟨r,r2⟩|r
   ·exact .inl r
   ·exact .inr (.inl ⟨k.rd i r,r2⟩)
   ·right;right;have:=k.next;omega
  ·rcases h.dom i r2 with r3|r3
   ·exact .inr (.inl ⟨r,r3⟩)
   ·right;right;have:=k.next;omega
  ·right;right;have:=h.next;omega
 oldr i q:=by
  rcases k.oldr i q with r|r|r
  ·rcases h.oldr i r with r|r|r
   ·exact .inl r
   ·exact .inr (.inl r)
   ·right;right;have:=k.next;omega
  ·rcases h.dom i r with r|r
   ·exact .inr (.inl r)
   ·right;right;have:=k.next;omega
  ·right;right;have:=h.next;omega
theorem G1.read {s:St}{id:Nat}{b:Blk}(h:s.h.get id=some b):G1 s (s.read id) where
 next:=xGv _
 hi:=xGv _
 inv q:=q
 rd i q:=zBl.2 (.inl q)
 wr i q:=q
 frame i _:=rfl
 dom i q:=.inl q
 keep i q:=q
 oldw i q:=.inl q
 oldr i q:=by
  rcases zBl.1 q with r|r
  ·exact .inl r
  ·right;left;rw[zD8.1 r,h];simp
theorem G1.write {s:St}{id:Nat}{b b':Blk}(h:s.h.get id=some b):G1 s (s.write id b') where
 next:=xGv _
 hi:=xGv _
 inv q:=q
 rd i q:=zBl.2 (.inl q)
 wr i q:=zBl.2 (.inl q)
 frame i q:=by
  have:i≠id:=by rintro rfl;exact q (zBl.2 (.inr (zD8.2 rfl)))
  show(s.h.set id b').get i=s.h.get i
  rw[Heap.get_set,xGr this]
 dom i q:=by
  have q:(s.h.set id b').get i≠none:=q
  rw[Heap.get_set] at q
  by_cases e:i=id
  ·left;rw[e,h];simp
  ·rw[xGr e] at q;exact .inl q
 keep i q:=by
  show(s.h.set id b').get i≠none
  rw[Heap.get_set]
  by_cases e:i=id
  ·rw[xGq e];simp
  ·rw[xGr e];exact q
 oldw i q:=by
  rcases zBl.1 q with r|r
  ·exact .inl r
  ·right;left;rw[zD8.1 r];exact⟨zBl.2 (.inr (zD8.2 rfl)),by rw[h];simp⟩
 oldr i q:=by
  rcases zBl.1 q with r|r
  ·exact .inl r
  ·right;left;rw[zD8.1 r,h];simp
theorem G1.new (s:St)(b:Blk):G1 s (s.new b) where
 next:=Nat.le_succ _
 hi:=Nat.le_max_left _ _
 inv q:=xIy _ _
 rd i q:=q
 wr i q:=zBl.2 (.inl q)
 frame i q:=by
  have:i≠s.next:=by rintro rfl;exact q (zBl.2 (.inr (zD8.2 rfl)))
  show(s.h.set s.next b).get i=s.h.get i
  rw[Heap.get_set,xGr this]
 dom i q:=by
  have q:(s.h.set s.next b).get i≠none:=q
  rw[Heap.get_set] at q
  by_cases e:i=s.next
  ·right;rw[e];exact⟨xGv _,xHw _⟩
  ·rw[xGr e] at q;exact .inl q
 keep i q:=by
  show(s.h.set s.next b).get i≠none
  rw[Heap.get_set]
  by_cases e:i=s.next
  ·rw[xGq e];simp
  ·rw[xGr e];exact q
 oldw i q:=by
  rcases zBl.1 q with r|r
  ·exact .inl r
  ·right;right;rw[zD8.1 r];exact⟨xGv _,xHw _⟩
 oldr i q:=.inl q
structure PW (s t s' t':St):Prop where
 next:t'.next=s'.next
 hi:t'.hi=s'.hi
 rd:t'.rd=s'.rd
 wr:t'.wr=s'.wr
 pt:∀ i,t'.h.get i=s'.h.get i∨(t'.h.get i=t.h.get i∧s'.h.get i=s.h.get i)
structure Beside (s t:St):Prop where
 next:t.next=s.next
 hi:t.hi=s.hi
 rd:t.rd=s.rd
 wr:t.wr=s.wr
theorem PW.refl {s t:St}(h:Beside s t):PW s t s t:=⟨h.next,h.hi,h.rd,h.wr,fun _=>.inr ⟨rfl,rfl⟩⟩
theorem PW.beside {s t s' t':St}(h:PW s t s' t'):Beside s' t':=⟨h.next,h.hi,h.rd,h.wr⟩
theorem PW.trans {s t s1 t1 s2 t2:St}(h:PW s t s1 t1)(k:PW s1 t1 s2 t2):PW s t s2 t2:=
 ⟨k.next,k.hi,k.rd,k.wr,fun i=>by
  rcases k.pt i with q|⟨q1,q2⟩
  ·exact .inl q
  ·rcases h.pt i with r|⟨r1,r2⟩
   ·left;rw[q1,q2,r]
   ·right;exact⟨q1.trans r1,q2.trans r2⟩⟩
theorem PW.read {s t:St}(h:Beside s t)(id:Nat):PW s t (s.read id) (t.read id):=
 ⟨h.next,h.hi,by show Nat.lor t.rd _=Nat.lor s.rd _;rw[h.rd],h.wr,fun _=>.inr ⟨rfl,rfl⟩⟩
theorem PW.write {s t:St}(h:Beside s t)(id:Nat)(b:Blk):PW s t (s.write id b) (t.write id b):=
 ⟨h.next,h.hi,by show Nat.lor t.rd _=Nat.lor s.rd _;rw[h.rd],by show Nat.lor t.wr _=Nat.lor s.wr _;rw[h.wr],fun i=>by
  show(t.h.set id b).get i=(s.h.set id b).get i∨((t.h.set id b).get i=t.h.get i∧(s.h.set id b).get i=s.h.get i)
  rw[Heap.get_set,Heap.get_set]
  by_cases e:i=id
  ·rw[xGq e,xGq e];exact .inl rfl
  ·rw[xGr e,xGr e];exact .inr ⟨rfl,rfl⟩⟩
theorem PW.new {s t:St}(h:Beside s t)(b:Blk):PW s t (s.new b) (t.new b):=
 ⟨by show t.next+1=s.next+1;rw[h.next],by show Nat.max t.hi (t.next+1)=Nat.max s.hi (s.next+1);rw[h.hi,h.next],h.rd,by show Nat.lor t.wr _=Nat.lor s.wr _;rw[h.wr,h.next],fun i=>by
  show(t.h.set t.next b).get i=(s.h.set s.next b).get i∨((t.h.set t.next b).get i=t.h.get i∧(s.h.set s.next b).get i=s.h.get i)
  rw[Heap.get_set,Heap.get_set,h.next]
  by_cases e:i=s.next
  ·rw[xGq e,xGq e];exact .inl rfl
  ·rw[xGr e,xGr e];exact .inr ⟨rfl,rfl⟩⟩
structure Full (B:Nat) (s:St):Prop where
 le:s.next≤s.hi
 get:∀ i,s.next≤i→i < B→s.h.get i=none
theorem Full.mono {B B':Nat}{s:St}(h:Full B s)(k:B'≤B):Full B' s:=⟨h.le,fun i a b=>h.get i a (xHd b k)⟩
theorem Full.step {B:Nat}{s s':St}(h:Full B s)(g:G1 s s'):Full B s':=by
 refine⟨g.inv h.le,fun i hi hB=>?_⟩
 cases e:s'.h.get i with
 |none=>rfl
 |some b=>
  rcases g.dom i (by rw[e];simp) with q|q
  ·exact absurd (h.get i (xHf g.next hi) hB) q
  ·omega
def Tr {α:Type}(f:St→Option (α×St)):Prop:=
 ∀ s a s',f s=some (a,s')→G1 s s'∧∀ t,Full s'.hi s→Beside s t→(∀ i,bit s'.rd i→t.h.get i=s.h.get i)→(∀ i,s.next≤i→i < s'.hi→t.h.get i=none)→
  ∃ t',f t=some (a,t')∧PW s t s' t'
theorem Tr.pure {α:Type}(a:Option α):Tr (fun s=>match a with|some v=>some (v,s)|none=>none):=by
 intro s v s' h
 cases a with
 |none=>cases h
 |some x=>
  simp only[xGu,xG5] at h
  obtain⟨rfl,rfl⟩:=h
  exact⟨G1.refl _,fun t _ hb _ _=>⟨t,rfl,PW.refl hb⟩⟩
theorem Tr.bind {α β:Type}{f:St→Option (α×St)}{g:α→St→Option (β×St)}(hf:Tr f)(hg:∀ a,Tr (g a)):
  Tr (fun s=>match f s with|some x=>g x.1 x.2|none=>none):=by
 intro s b s2 h
 simp only at h
 split at h
 case h_2=>cases h
 rename_i x hx
 obtain⟨a,s1⟩:=x
 simp only at h
 obtain⟨g1,t1⟩:=hf s a s1 hx
 obtain⟨g2,t2⟩:=hg a s1 b s2 h
 refine⟨g1.trans g2,fun t hF hb hr hn=>?_⟩
 obtain⟨u,hu,pu⟩:=t1 t (hF.mono g2.hi) hb (fun i q=>hr i (g2.rd i q)) (fun i q1 q2=>hn i q1 (by have:=g2.hi;omega))
 obtain⟨gu,_⟩:=hf t a u hu
 obtain⟨u2,hu2,pu2⟩:=t2 u (hF.step g1) pu.beside (fun i q=>by
   rcases pu.pt i with r|⟨r1,r2⟩
   ·exact r
   ·rw[r1,r2];exact hr i q) (fun i q1 q2=>by
   cases e:u.h.get i with
   |none=>rfl
   |some bb=>
    rcases gu.dom i (by rw[e];simp) with q|q
    ·exact absurd (hn i (by have:=g1.next;omega) q2) q
    ·rw[pu.next] at q;omega)
 exact⟨u2,by simp only[hu];exact hu2,pu.trans pu2⟩
end Go.Det
namespace Go.Det
variable {P:Program}
theorem zBx {m id:Nat}:bit (Nat.lor m (Nat.shiftLeft 1 id)) id:=zBl.2 (.inr (zD8.2 rfl))
theorem zQl (t:TypeId)(a:Value):Tr (fun s=>zD2 P s t a):=by
 intro s v s' h
 simp only at h
 unfold zD2 at h
 split at h
 case h_2=>cases h
 rename_i id off
 split at h
 case h_2=>cases h
 rename_i cs e ro hg
 split at h
 ·rename_i hb
  split at h
  case h_2=>cases h
  rename_i n hn
  split at h
  case h_2=>cases h
  rename_i r hr
  cases h
  refine⟨G1.read hg,fun u _ hbe hag _=>⟨u.read id,?_,PW.read hbe id⟩⟩
  have e1:u.h.get id=some (.cells cs e ro):=(hag id zBx).trans hg
  simp only[zD2,e1,hb,hn,hr]
 ·rename_i hb
  split at h
  case h_2=>cases h
  rename_i v1 t1 hd
  cases h
  refine⟨G1.read hg,fun u _ hbe hag _=>⟨u.read id,?_,PW.read hbe id⟩⟩
  have e1:u.h.get id=some (.cells cs e ro):=(hag id zBx).trans hg
  simp only[zD2,e1,hb,hd]
 ·cases h
theorem yAs (t:TypeId)(a:Operand)(l:zAv):Tr (zR4 P t a l):=zQl t _
theorem zYx (t:TypeId)(a x:Operand)(l:zAv):Tr (zG4 P t a x l):=by
 intro s v s' h
 unfold zG4 at h
 split at h
 case h_2=>cases h
 rename_i s1 hs1
 cases h
 unfold zOq at hs1
 split at hs1
 case h_2=>cases hs1
 rename_i id off hv
 split at hs1
 case h_2=>cases hs1
 rename_i cs e hg
 split at hs1
 case h_2=>cases hs1
 rename_i n hn
 simp only at hs1
 split at hs1
 case isFalse=>cases hs1
 rename_i hc
 split at hs1
 case h_2=>cases hs1
 rename_i cs' hp
 cases hs1
 refine⟨G1.write hg,fun u _ hbe hag _=>⟨u.write id (.cells cs' e false),?_,PW.write hbe id _⟩⟩
 have e1:u.h.get id=some (.cells cs e false):=(hag id zBx).trans hg
 simp only[zG4,zOq,hv,e1,hn,hc,if_true,hp]
theorem zIe (size n:Nat)(x:Value):Tr (fun s=>zBr s size n x):=by
 intro s v s' h
 simp only at h
 unfold zBr at h
 split at h
 ·rename_i id off n' c
  split at h
  ·rename_i h0
   cases h
   exact⟨G1.refl _,fun u _ hbe _ _=>⟨u,by simp only[zBr,h0,if_true],PW.refl hbe⟩⟩
  ·rename_i h0
   split at h
   case h_2=>cases h
   rename_i cs e' ro hg
   split at h
   case h_2=>cases h
   rename_i r' hr
   cases h
   refine⟨G1.read hg,fun u _ hbe hag _=>⟨u.read id,?_,PW.read hbe id⟩⟩
   have e1:u.h.get id=some (.cells cs e' ro):=(hag id zBx).trans hg
   simp only[zBr,h0,e1,hr];rfl
 ·split at h
  case isFalse=>cases h
  rename_i h0
  cases h
  exact⟨G1.refl _,fun u _ hbe _ _=>⟨u,by simp only[zBr,h0,if_true],PW.refl hbe⟩⟩
 ·split at h
  case isFalse=>cases h
  rename_i h0
  cases h
  exact⟨G1.refl _,fun u _ hbe _ _=>⟨u,by simp only[zBr,h0,if_true],PW.refl hbe⟩⟩
 ·split at h
  case isFalse=>cases h
  rename_i h0
  split at h
  case h_2=>cases h
  rename_i r hr
  cases h
  exact⟨G1.refl _,fun u _ hbe _ _=>⟨u,by simp only[zBr,h0,if_true,hr],PW.refl hbe⟩⟩
 ·cases h
theorem zI2 {α:Type}{f:St→Option (α×St)}(c:Option (Blk×(Nat→α)))(hf:∀ s,f s=match c with|some x=>some (x.2 s.next,s.new x.1)|none=>none):Tr f:=by
 intro s v s' h
 rw[hf] at h
 cases c with
 |none=>cases h
 |some x=>
  cases h
  refine⟨G1.new _ _,fun u _ hbe _ _=>⟨u.new x.1,?_,PW.new hbe _⟩⟩
  rw[hf,hbe.next]
theorem zBe {α:Type}{f:St→Option (α×St)}(c:Option α)(hf:∀ s,f s=match c with|some x=>some (x,s)|none=>none):Tr f:=by
 intro s v s' h
 rw[hf] at h
 cases c with
 |none=>cases h
 |some x=>cases h;exact⟨G1.refl _,fun u _ hbe _ _=>⟨u,by rw[hf],PW.refl hbe⟩⟩
theorem zSs (x:Operand)(l:zAv):Tr (zLw x l):=zBe (some (evalO l x)) fun _=>rfl
theorem zKm (c:Option Value):Tr (ofV c):=zBe c fun s=>by cases c<;>rfl
theorem yAt (c a b:Operand)(l:zAv):Tr (zIr c a b l):=by
 cases h:evalO l c with
 |bool t=>exact zBe (some (if t then evalO l a else evalO l b)) fun s=>by cases t<;>simp[zIr,h]
 |_=>exact zBe none fun s=>by simp[zIr,h]
theorem zYy (e:TypeId)(l:zAv):Tr (zLx P e l):=
 zI2 (match zCx P e with|some z=>some (.cells (zA8 z) (2 * e+1) false,fun n=>.pointer (some ⟨n,0,none⟩))|none=>none) fun s=>by
  unfold zLx;cases zCx P e<;>rfl
theorem yGg (e:TypeId)(x:Operand)(l:zAv):Tr (zYa e x l):=
 zI2 (if !zX4 (evalO l x) then some (.cells (zA8 (evalO l x)) (2 * e+1) false,fun n=>.pointer (some ⟨n,0,none⟩)) else none) fun s=>by
  unfold zYa;split<;>rfl
theorem zMi (t:TypeId)(n:Nat)(parts:Array (Nat×Operand))(l:zAv):Tr (zCy P t n parts l):=by
 intro s v s' h
 unfold zCy zF3 at h
 split at h
 case h_2=>cases h
 rename_i elem ht
 split at h
 case h_2=>cases h
 rename_i size z hs hz
 split at h
 case isFalse=>cases h
 rename_i hb
 split at h
 case h_2=>cases h
 rename_i cs hcs
 cases h
 refine⟨G1.new _ _,fun u _ hbe _ _=>⟨u.new _,?_,PW.new hbe _⟩⟩
 simp only[zCy,zF3,ht,hs,hz,hb,if_true,hcs,hbe.next]
theorem zOn (t:TypeId)(n c:Operand)(l:zAv):Tr (zC8 P t n c l):=by
 intro s v s' h
 unfold zC8 zHj at h
 split at h
 case h_2=>cases h
 rename_i elem k m ht hk hm
 split at h
 case h_2=>cases h
 rename_i ei hei
 split at h
 case h_2=>cases h
 rename_i z hz
 split at h
 case isFalse=>cases h
 rename_i hb
 cases h
 refine⟨G1.new _ _,fun u _ hbe _ _=>⟨u.new _,?_,PW.new hbe _⟩⟩
 simp only[zC8,zHj,ht,hk,hm,hei,hz,hb,if_true,hbe.next]
theorem yGh {α:Type}{f:St→Option (α×St)}(id:Nat)(k:Blk→St→Option (α×St))(hf:∀ s,f s=match s.h.get id with|some b=>k b s|none=>none)
  (hk:∀ b s a s',s.h.get id=some b→k b s=some (a,s')→bit s'.rd id∧G1 s s'∧∀ t,Beside s t→∃ t',k b t=some (a,t')∧PW s t s' t'):Tr f:=by
 intro s a s' h
 rw[hf] at h
 split at h
 case h_2=>cases h
 rename_i b hb
 obtain⟨h1,h2,h3⟩:=hk b s a s' hb h
 refine⟨h2,fun t _ hbe hag _=>?_⟩
 obtain⟨t',e,p⟩:=h3 t hbe
 refine⟨t',?_,p⟩
 rw[hf,(hag id h1).trans hb]
 exact e
theorem yAu (elem : TypeId) (size bytes : Nat) (zeros : Bool) (x : Value) : Tr (fun s => match zGs P s elem size bytes zeros x with | some r => some ((r.1, r.2.1), r.2.2) | none => none) := by
  cases zeros with
  | true =>
    refine zBe (match x with
      | .int _ m => if 0 ≤ m ∧ m < 1048576 then
          (match zCx P elem with
           | some z => if Nat.ble (m.toNat * bytes) 1099511627776 then some (m.toNat, zCk (zA8 z) m.toNat) else none
           | none => none) else none
      | _ => none) fun s => ?_
    cases x with
    | int k m =>
      by_cases h:0≤m∧m < 1048576
      · cases hz : zCx P elem with
        | none => simp only [zGs, xGq h, hz]
        | some z => by_cases hb : Nat.ble (m.toNat * bytes) 1099511627776 = true <;> simp only [zGs, xGq h, hz, hb, if_true] <;> rfl
      · simp only [zGs, xGr h]
    | _ => rfl
  | false =>
    cases hm:yF3 x with
    | none => exact zBe none fun s => by simp [zGs, hm]
    | some m =>
      intro s a s' h
      have e : ∀ s, (match zGs P s elem size bytes false x with | some r => some ((r.1, r.2.1), r.2.2) | none => none) = (match zBr s size m x with | some x => some ((m, x.1), x.2) | none => none) := by
        intro s
        simp only[zGs,hm]
        cases zBr s size m x <;> rfl
      simp only[e] at h ⊢
      cases hc:zBr s size m x with
      | none => rw [hc] at h; cases h
      | some y =>
        rw[hc] at h
        cases h
        obtain⟨g,k⟩:=zIe size m x s y.1 y.2 hc
        refine ⟨g, fun u h1 h2 h3 h4 => ?_⟩
        obtain⟨u',e1,p⟩:=k u h1 h2 h3 h4
        exact ⟨u', by simp only at e1; simp only [e1], p⟩
theorem zI3 (id off at_ need c:Nat)(cs:List Value)(e:TypeId)(ws:List Value){s:St}{a:Value}{s':St}{b:Blk}(hg:s.h.get id=some b)(h:zCs s id off at_ need c cs e ws=some (a,s')):
  bit s'.rd id∧G1 s s'∧∀ t,Beside s t→∃ t',zCs t id off at_ need c cs e ws=some (a,t')∧PW s t s' t':=by
 unfold zCs at h
 split at h
 case h_2=>cases h
 rename_i cs' hp
 cases h
 exact⟨zBx,G1.write hg,fun t hbe=>⟨_,by simp only[zCs,hp],PW.write hbe id _⟩⟩
theorem yGi (elem:TypeId)(size:Nat)(base:Option Addr)(n c m:Nat)(ws:List Value):Tr (fun s=>zN9 s elem size base n c m ws):=by
 cases base with
 |none=>
  exact zI2 (if Nat.beq c 0&&Nat.beq n 0 then some (.cells ([]++ws) (2 * elem) false,fun k=>.slice (some ⟨k,0,none⟩) m (zBa+size)) else none) fun s=>by
   by_cases h:(Nat.beq c 0&&Nat.beq n 0)=true<;>simp only[zN9,zOr,h,if_true]<;>rfl
 |some a=>
  obtain⟨id,off,sp⟩:=a
  cases sp with
  |some q=>exact zBe none fun s=>rfl
  |none=>
   refine yGh id (fun b s=>match b with
    |.cells cs e ro=>
     if Nat.ble zBa c then
      if Nat.beq c (zBa+size)&&(!ro&&Nat.beq e (2 * elem)) then
       if Nat.ble (off+(n+m) * size) cs.length then zCs s id off (off+n * size) (n+m) c cs e ws
       else match zEm (n * size) (zFo off cs) with
        |some old=>some (zJu s id elem size (n+m) old ws)
        |none=>none
      else none
     else if Nat.ble (n+m) c then
      if !ro then zCs s id off (off+n * size) (n+m) c cs e ws else none
     else match zEm (n * size) (zFo off cs) with
      |some old=>some (zOr (s.read id) elem size (n+m) old ws)
      |none=>none
    |.ob _=>none
    |.dead=>none) (fun s=>?_) (fun b s a s' hg h=>?_)
   ·cases hh:s.h.get id with
    |none=>simp only[zN9,hh]
    |some b=>cases b<;>simp only[zN9,hh]<;>(try rfl)
   ·cases b with
    |dead=>cases h
    |ob es=>cases h
    |cells cs e ro=>
     simp only at h ⊢
     split at h
     ·rename_i h1
      split at h
      case isFalse=>cases h
      rename_i h2
      split at h
      ·rename_i h3
       obtain⟨k1,k2,k3⟩:=zI3 id off (off+n * size) (n+m) c cs e ws hg h
       exact⟨k1,k2,fun t hbe=>by obtain⟨t',e1,p⟩:=k3 t hbe;exact⟨t',by simp only[h1,h2,h3,if_true];exact e1,p⟩⟩
      ·rename_i h3
       split at h
       case h_2=>cases h
       rename_i old hold
       cases h
       refine⟨zBx,(G1.write hg).trans (G1.new _ _),fun t hbe=>⟨(t.write id .dead).new _,?_,(PW.write hbe id _).trans (PW.new (PW.write hbe id _).beside _)⟩⟩
       simp only[h1,h2,h3,if_true,zJu,hbe.next];rfl
     ·rename_i h1
      split at h
      ·rename_i h2
       split at h
       case isFalse=>cases h
       rename_i h3
       obtain⟨k1,k2,k3⟩:=zI3 id off (off+n * size) (n+m) c cs e ws hg h
       exact⟨k1,k2,fun t hbe=>by obtain⟨t',e1,p⟩:=k3 t hbe;exact⟨t',by simp only[h1,h2,h3,if_true];exact e1,p⟩⟩
      ·rename_i h2
       split at h
       case h_2=>cases h
       rename_i old hold
       cases h
       refine⟨zBx,(G1.read hg).trans (G1.new _ _),fun t hbe=>⟨(t.read id).new _,?_,(PW.read hbe id).trans (PW.new (PW.read hbe id).beside _)⟩⟩
       simp only[h1,h2,zOr]
       simp[St.read,hbe.next]
theorem zA4 {α:Type}{f:St→Option (α×St)}(hf:∀ s,f s=none):Tr f:=zBe none hf
theorem yGj (elem:TypeId)(size bytes:Nat)(base:Option Addr)(n c m:Nat)(ws:List Value):Tr (fun s=>zOa P s elem size bytes base n c m ws):=by
 by_cases h1:Nat.beq m 0=true
 ·exact zBe (if Nat.ble zBa c||Nat.ble n c then some (.slice base n c) else none) fun s=>by
   simp only[zOa,h1,if_true];split<;>rfl
 ·by_cases h2:(Nat.ble 1 size&&(Nat.ble ((n+m) * bytes) 1099511627776&&(zV9 ws&&Nat.ble (n+m) 1099511627776)))=true
  ·cases h3:zCx P elem with
   |none=>exact zA4 fun s=>by simp only[zOa,h1,h2,h3,if_true];rfl
   |some z=>
    have:(fun s=>zOa P s elem size bytes base n c m ws)=fun s=>zN9 s elem size base n c m ws:=by
     funext s;simp only[zOa,h1,h2,h3,if_true];rfl
    rw[this];exact yGi elem size base n c m ws
  ·exact zA4 fun s=>by simp only[zOa,h1,h2];rfl
theorem zYz (ts:Array TypeId)(args:List Value):Tr (fun s=>zG2 P s ts args):=by
 intro s v s' h
 simp only at h
 unfold zG2 at h
 split at h
 case h_2=>cases h
 rename_i sT rest base n c x ha
 split at h
 case h_2=>cases h
 rename_i elem hu
 split at h
 case h_2=>cases h
 rename_i ei zeros hei hz
 split at h
 case h_2=>cases h
 rename_i q hq
 obtain⟨m,ws,s1⟩:=q
 have T:=Tr.bind (yAu (P:=P) elem ei.size ei.bytes zeros x) (fun a=>yGj (P:=P) elem ei.size ei.bytes base n c a.1 a.2)
 obtain⟨g,k⟩:=T s v s' (by simp only[hq];exact h)
 refine⟨g,fun u h1 h2 h3 h4=>?_⟩
 obtain⟨u',e,p⟩:=k u h1 h2 h3 h4
 refine⟨u',?_,p⟩
 simp only[zG2,ha,hu,hei,hz]
 simp only at e
 cases hc:zGs P u elem ei.size ei.bytes zeros x with
 |none=>rw[hc] at e;cases e
 |some y=>rw[hc] at e;exact e
theorem yAv (k:Nat)(base:Option Addr)(ws:List Value):Tr (fun s=>zRw s k base ws):=by
 intro s v s' h
 simp only at h
 unfold zRw at h
 split at h
 ·cases h;exact⟨G1.refl _,fun u _ hbe _ _=>⟨u,rfl,PW.refl hbe⟩⟩
 ·rename_i w1 ws
  split at h
  case isFalse=>cases h
  rename_i ho
  split at h
  case h_2=>cases h
  rename_i id off
  split at h
  case h_2=>cases h
  rename_i cs e hg
  split at h
  case h_2=>cases h
  rename_i c2 hp
  cases h
  refine⟨G1.write hg,fun u _ hbe hag _=>⟨u.write id _,?_,PW.write hbe id _⟩⟩
  have e1:u.h.get id=some (.cells cs e false):=(hag id zBx).trans hg
  simp only[zRw,ho,if_true,e1,hp]
theorem yGk (ts:Array TypeId)(args:List Value):Tr (fun s=>zX5 P s ts args):=by
 intro s v s' h
 simp only at h
 unfold zX5 at h
 split at h
 case h_2=>cases h
 rename_i dT rest base n c x ha
 split at h
 case h_2=>cases h
 rename_i elem hu
 split at h
 case h_2=>cases h
 rename_i size m hsz hm
 split at h
 case h_2=>cases h
 rename_i q hq
 have T:=Tr.bind (zIe size (Nat.min m n) x) (fun ws=>yAv (Nat.min m n) base ws)
 obtain⟨g,k⟩:=T s v s' (by simp only[hq];exact h)
 refine⟨g,fun u h1 h2 h3 h4=>?_⟩
 obtain⟨u',e,p⟩:=k u h1 h2 h3 h4
 refine⟨u',?_,p⟩
 simp only[zX5,ha,hu,hsz,hm]
 simp only at e
 cases hc:zBr u size (Nat.min m n) x with
 |none=>rw[hc] at e;cases e
 |some y=>rw[hc] at e;exact e
theorem zY0 (base:Option Addr)(ws:List Value):Tr (fun s=>zLr s base ws):=by
 intro s v s' h
 simp only at h
 unfold zLr at h
 split at h
 case h_2=>cases h
 rename_i id off ho
 split at h
 case h_2=>cases h
 rename_i cs e hg
 split at h
 case h_2=>cases h
 rename_i c2 hp
 cases h
 refine⟨G1.write hg,fun u _ hbe hag _=>⟨u.write id _,?_,PW.write hbe id _⟩⟩
 have e1:u.h.get id=some (.cells cs e false):=(hag id zBx).trans hg
 simp only[zLr,ho,e1,hp]
theorem yAw (ts:Array TypeId)(args:List Value):Tr (fun s=>zKh P s ts args):=by
 intro s v s' h
 simp only at h
 unfold zKh at h
 split at h
 case h_2=>cases h
 rename_i dT x ha
 split at h
 case h_2=>cases h
 rename_i elem hu
 split at h
 ·cases h
  exact⟨G1.refl _,fun u _ hbe _ _=>⟨u,by simp only[zKh,ha,hu],PW.refl hbe⟩⟩
 ·rename_i base n c
  split at h
  ·cases h
   exact⟨G1.refl _,fun u _ hbe _ _=>⟨u,by simp only[zKh,ha,hu],PW.refl hbe⟩⟩
  ·rename_i m
   split at h
   case h_2=>cases h
   rename_i z hz
   obtain⟨g,k⟩:=zY0 base (zCk (zA8 z) (m+1)) s v s' h
   refine⟨g,fun u h1 h2 h3 h4=>?_⟩
   obtain⟨u',e,p⟩:=k u h1 h2 h3 h4
   exact⟨u',by simp only[zKh,ha,hu,hz];exact e,p⟩
 ·cases h
theorem zUy (src dst:TypeId)(x:Value):Tr (fun s=>zCf P s src dst x):=by
 intro s v s' h
 simp only at h
 unfold zCf at h
 split at h
 ·rename_i b
  split at h
  case h_2=>cases h
  rename_i d hd
  unfold zJv at h
  split at h
  ·rename_i e he
   split at h
   case h_2=>cases h
   rename_i hu
   cases h
   exact⟨G1.new _ _,fun u _ hbe _ _=>⟨u.new _,by simp only[zCf,hd,zJv,he,hu,hbe.next],PW.new hbe _⟩⟩
  ·rename_i he
   cases h
   exact⟨G1.refl _,fun u _ hbe _ _=>⟨u,by simp only[zCf,hd,zJv,he],PW.refl hbe⟩⟩
  ·cases h
 ·rename_i a n c
  cases hsd:Nat.beq src dst with
  |true=>
   simp only[hsd] at h
   unfold zIq at h
   split at h
   case h_2=>cases h
   rename_i e hs
   split at h
   case h_2=>cases h
   rename_i hu
   split at h
   case h_2=>cases h
   rename_i id off
   split at h
   case h_2=>cases h
   rename_i cs el hg
   cases h
   refine⟨G1.write hg,fun u _ hbe hag _=>⟨u.write id _,?_,PW.write hbe id _⟩⟩
   have e1:u.h.get id=some (.cells cs el false):=(hag id zBx).trans hg
   simp only[zCf,hsd,zIq,hs,hu,e1]
  |false=>
   simp only[hsd] at h
   unfold zEp at h
   split at h
   case h_2=>cases h
   rename_i e hs hd
   split at h
   case h_2=>cases h
   rename_i hu
   split at h
   ·cases h
    exact⟨G1.refl _,fun u _ hbe _ _=>⟨u,by simp only[zCf,hsd,hd,zEp,hs,hu],PW.refl hbe⟩⟩
   ·rename_i id off
    split at h
    case h_2=>cases h
    rename_i cs e' ro hg
    split at h
    case h_2=>cases h
    rename_i r' hr
    split at h
    case h_2=>cases h
    rename_i bs hbs
    cases h
    refine⟨G1.read hg,fun u _ hbe hag _=>⟨u.read id,?_,PW.read hbe id⟩⟩
    have e1:u.h.get id=some (.cells cs e' ro):=(hag id zBx).trans hg
    simp only[zCf,hsd,hd,zEp,hs,hu,e1,hr,hbs]
   ·cases h
 ·rename_i a
  unfold zG3 at h
  split at h
  ·rename_i t hs hd
   split at h
   ·cases h
    exact⟨G1.refl _,fun u _ hbe _ _=>⟨u,by simp only[zCf,hd,zG3,hs],PW.refl hbe⟩⟩
   ·rename_i id off
    split at h
    case h_2=>cases h
    rename_i cs e ro n hg hn
    split at h
    case isFalse=>cases h
    rename_i hc
    cases h
    refine⟨G1.read hg,fun u _ hbe hag _=>⟨u.read id,?_,PW.read hbe id⟩⟩
    have e1:u.h.get id=some (.cells cs e ro):=(hag id zBx).trans hg
    simp only[zCf,hd,zG3,hs,e1,hn,hc,if_true]
   ·cases h
  ·rename_i t hs hd
   split at h
   ·cases h
    exact⟨G1.refl _,fun u _ hbe _ _=>⟨u,by simp only[zCf,hd,zG3,hs],PW.refl hbe⟩⟩
   ·rename_i id
    split at h
    case h_2=>cases h
    rename_i cs e ro n hg hn
    split at h
    case isFalse=>cases h
    rename_i hc
    cases h
    refine⟨G1.read hg,fun u _ hbe hag _=>⟨u.read id,?_,PW.read hbe id⟩⟩
    have e1:u.h.get id=some (.cells cs e ro):=(hag id zBx).trans hg
    simp only[zCf,hd,zG3,hs,e1,hn,hc,if_true]
   ·cases h
  ·cases h
 ·unfold zLt at h
  split at h
  case h_2=>cases h
  rename_i e hs hd
  split at h
  case h_2=>cases h
  rename_i hu
  cases h
  exact⟨G1.refl _,fun u _ hbe _ _=>⟨u,by simp only[zCf,hd,zLt,hs,hu],PW.refl hbe⟩⟩
 ·rename_i n1 n2 n3 n4
  split at h
  case isFalse=>cases h
  rename_i hf
  split at h
  case h_2=>cases h
  rename_i r hr
  split at h
  case isFalse=>cases h
  rename_i hfr
  cases h
  refine⟨G1.refl _,fun u _ hbe _ _=>⟨u,?_,PW.refl hbe⟩⟩
  unfold zCf
  split
  ·exact absurd rfl (n1 _)
  ·exact absurd rfl (n2 _ _ _)
  ·exact absurd rfl (n3 _)
  ·exact absurd rfl n4
  ·simp only[hf,if_true,hr,hfr]
theorem zK3 (pt:Option TypeDesc)(args:List Value):Tr (fun s=>zCg P s pt args):=by
 intro s v s' h
 simp only at h
 unfold zCg at h
 split at h
 case h_2=>cases h
 rename_i a k n
 split at h
 ·split at h
  case isFalse=>cases h
  rename_i hn
  cases h
  exact⟨G1.refl _,fun u _ hbe _ _=>⟨u,by simp only[zCg,hn,if_true],PW.refl hbe⟩⟩
 ·rename_i id off
  split at h
  case h_2=>cases h
  rename_i ut cs e hg
  split at h
  case isFalse=>cases h
  rename_i hn
  split at h
  case isFalse=>cases h
  rename_i hc
  split at h
  case h_2=>cases h
  rename_i r' hr
  split at h
  case h_2=>cases h
  rename_i bs hbs
  cases h
  refine⟨G1.write hg,fun u _ hbe hag _=>⟨u.write id _,?_,PW.write hbe id _⟩⟩
  have e1:u.h.get id=some (.cells cs e false):=(hag id zBx).trans hg
  simp only[zCg,e1,xGq hn,hc,if_true,hr,hbs]
 ·cases h
theorem zSt (b:Builtin)(ts:Array TypeId)(type:TypeId)(xs:Array Operand)(l:zAv):Tr (zFr P b ts type xs l):=by
 show Tr (fun s=>zBs P s b ts type (zEs l xs.toList))
 cases b
 case append=>exact zYz ts _
 case copy=>exact yGk ts _
 case clear=>exact yAw ts _
 case len=>
  cases ht:ts.toList with
  |nil=>exact zA4 fun s=>by simp only[zBs,ht]
  |cons t r=>cases hx:zEs l xs.toList with
   |nil=>exact zA4 fun s=>by simp only[zBs,ht]
   |cons x xs=>exact zBe ((yRe P (typ P t) x).map fun n=>.int .i64 n) fun s=>by simp only[zBs,ht,ofN];cases yRe P (typ P t) x<;>rfl
 case cap=>
  cases ht:ts.toList with
  |nil=>exact zA4 fun s=>by simp only[zBs,ht]
  |cons t r=>cases hx:zEs l xs.toList with
   |nil=>exact zA4 fun s=>by simp only[zBs,ht]
   |cons x xs=>exact zBe ((yRf (typ P t) x).map fun n=>.int .i64 n) fun s=>by simp only[zBs,ht,ofN];cases yRf (typ P t) x<;>rfl
 case unsafeSliceData=>
  intro s v s' h
  simp only[zBs] at h
  unfold zEh at h
  split at h
  case h_2=>cases h
  rename_i a n c hx
  split at h
  ·cases h
   exact⟨G1.refl _,fun u _ hbe _ _=>⟨u,by simp only[zBs,zEh,hx],PW.refl hbe⟩⟩
  ·split at h
   ·rename_i h1
    split at h
    case isFalse=>cases h
    rename_i h2
    cases h
    exact⟨G1.refl _,fun u _ hbe _ _=>⟨u,by simp only[zBs,zEh,hx,h1,h2,if_true],PW.refl hbe⟩⟩
   ·rename_i h1
    split at h
    case isFalse=>cases h
    rename_i h2
    cases h
    exact⟨G1.refl _,fun u _ hbe _ _=>⟨u,by simp only[zBs,zEh,hx,h1,h2,if_true];rfl,PW.refl hbe⟩⟩
 case unsafeString=>
  cases ht:ts.toList with
  |nil=>exact zA4 fun s=>by simp only[zBs,ht]
  |cons t r=>
   have:(fun s=>zBs P s .unsafeString ts type (zEs l xs.toList))=fun s=>zCg P s (typ P t) (zEs l xs.toList):=by funext s;simp only[zBs,ht]
   rw[this];exact zK3 _ _
 case min=>
  intro s v s' h
  simp only[zBs] at h
  unfold zH8 at h
  split at h
  ·rename_i h1
   split at h
   ·rename_i r hr
    split at h
    ·rename_i h3
     cases h
     exact⟨G1.refl _,fun u _ hbe _ _=>⟨u,by simp only[zBs,zH8,h1,hr,h3],PW.refl hbe⟩⟩
    ·cases h
   ·cases h
  ·cases h
 case max=>
  intro s v s' h
  simp only[zBs] at h
  unfold zH8 at h
  split at h
  ·rename_i h1
   split at h
   ·rename_i r hr
    split at h
    ·rename_i h3
     cases h
     exact⟨G1.refl _,fun u _ hbe _ _=>⟨u,by simp only[zBs,zH8,h1,hr,h3],PW.refl hbe⟩⟩
    ·cases h
   ·cases h
  ·cases h
 all_goals exact zA4 fun s=>rfl
theorem yKr (op:UnOp)(x:Operand)(l:zAv):Tr (yKk P op x l):=by
 intro s v s' h
 unfold yKk at h
 split at h
 ·rename_i h1
  split at h
  ·rename_i r hr
   split at h
   ·rename_i h3
    cases h
    exact⟨G1.refl _,fun u _ hbe _ _=>⟨u,by simp only[yKk,h1,hr,h3],PW.refl hbe⟩⟩
   ·cases h
  ·cases h
 ·cases h
theorem zSu (r:Option Operand)(l:zAv):Tr (zIt r l):=by
 cases r with
 |none=>exact zI2 (some (.ob (.mp [] 0),fun n=>.map (some n))) fun s=>rfl
 |some _=>exact zA4 fun s=>rfl
theorem zY1 (d:Option TypeDesc)(x k:Value)(ok:Bool):Tr (fun s=>zJw P s d x k ok):=by
 intro s v s' h
 simp only at h
 unfold zJw at h
 split at h
 case h_2=>cases h
 rename_i kt e
 split at h
 case h_2=>cases h
 rename_i hk
 unfold zZ7 at h
 split at h
 case h_2=>cases h
 rename_i r hr
 obtain⟨es,s1⟩:=r
 split at h
 case h_2=>cases h
 rename_i v' hv
 cases h
 split at hr
 case h_2=>cases hr
 rename_i a
 split at hr
 ·cases hr
  exact⟨G1.refl _,fun u _ hbe _ _=>⟨u,by simp only[zJw,hk,zZ7,hv],PW.refl hbe⟩⟩
 ·rename_i id
  split at hr
  case h_2=>cases hr
  rename_i o hg
  split at hr
  case h_2=>cases hr
  rename_i es' ck
  cases hr
  refine⟨G1.read hg,fun u _ hbe hag _=>⟨u.read id,?_,PW.read hbe id⟩⟩
  have e1:u.h.get id=some (.ob (.mp es ck)):=(hag id zBx).trans hg
  simp only[zJw,hk,zZ7,e1,hv]
theorem zY2 (d:Option TypeDesc)(x k v:Value):Tr (fun s=>zLv P s d x k v):=by
 intro s a s' h
 simp only at h
 unfold zLv at h
 split at h
 case h_2=>cases h
 rename_i kt e id
 split at h
 case h_2=>cases h
 rename_i hk
 split at h
 case h_2=>cases h
 rename_i o hg
 split at h
 case h_2=>cases h
 rename_i es ck
 split at h
 case h_2=>cases h
 rename_i es' hu
 cases h
 refine⟨G1.write hg,fun u _ hbe hag _=>⟨u.write id _,?_,PW.write hbe id _⟩⟩
 have e1:u.h.get id=some (.ob (.mp es ck)):=(hag id zBx).trans hg
 simp only[zLv,hk,e1,hu]
theorem yAx (d:Option TypeDesc)(x:Value):Tr (fun s=>zOt s d x):=by
 intro s v s' h
 simp only at h
 unfold zOt at h
 split at h
 case h_2=>cases h
 rename_i kt e a
 split at h
 ·cases h
  exact⟨G1.new _ _,fun u _ hbe _ _=>⟨u.new _,by simp only[zOt,hbe.next],PW.new hbe _⟩⟩
 ·rename_i id
  split at h
  case h_2=>cases h
  rename_i o hg
  split at h
  case h_2=>cases h
  rename_i es ck
  cases h
  refine⟨(G1.read hg).trans (G1.new _ _),fun u _ hbe hag _=>⟨(u.read id).new _,?_,(PW.read hbe id).trans (PW.new (PW.read hbe id).beside _)⟩⟩
  have e1:u.h.get id=some (.ob (.mp es ck)):=(hag id zBx).trans hg
  simp only[zOt,e1,hbe.next]
theorem yGl (x:Value)(str:Bool):Tr (fun s=>zUl s x str):=by
 intro s v s' h
 simp only at h
 unfold zUl at h
 split at h
 case h_2=>cases h
 rename_i r
 split at h
 case h_2=>cases h
 rename_i o hg
 split at h
 case h_2=>cases h
 rename_i m since seen last
 unfold zOu at h
 split at h
 ·cases h
  refine⟨G1.read hg,fun u _ hbe hag _=>⟨u.read r,?_,PW.read hbe r⟩⟩
  have e1:u.h.get r=some (.ob (.it none since seen last)):=(hag r zBx).trans hg
  simp only[zUl,e1,zOu]
 ·rename_i id
  split at h
  case h_2=>cases h
  rename_i o2 hg2
  split at h
  case h_2=>cases h
  rename_i es ck
  unfold zR1 at h
  split at h
  case h_2=>cases h
  rename_i hc
  split at h
  ·rename_i hl
   cases h
   have hg2':(s.read r).h.get id=some (.ob (.mp es ck)):=hg2
   refine⟨(G1.read hg).trans (G1.read hg2'),fun u _ hbe hag _=>⟨(u.read r).read id,?_,(PW.read hbe r).trans (PW.read (PW.read hbe r).beside id)⟩⟩
   have e1:u.h.get r=some (.ob (.it (some id) since seen last)):=(hag r (zBl.2 (.inl zBx))).trans hg
   have e2:u.h.get id=some (.ob (.mp es ck)):=(hag id zBx).trans hg2
   simp only[zUl,e1,zOu,e2,zR1,hc,hl]
  ·rename_i e t hl
   split at h
   case h_2=>cases h
   cases h
   have hg1:(s.read id).h.get r=some (.ob (.it (some id) since seen last)):=hg
   refine⟨(G1.read hg2).trans (G1.write hg1),fun u _ hbe hag _=>⟨(u.read id).write r _,?_,(PW.read hbe id).trans (PW.write (PW.read hbe id).beside r _)⟩⟩
   have e1:u.h.get r=some (.ob (.it (some id) since seen last)):=(hag r zBx).trans hg
   have e2:u.h.get id=some (.ob (.mp es ck)):=(hag id (zBl.2 (.inl zBx))).trans hg2
   simp only[zUl,e1,zOu,e2,zR1,hc,hl]
theorem yAy (x:Value):Tr (fun s=>zR3 s x):=by
 intro s v s' h
 simp only at h
 unfold zR3 at h
 split at h
 case h_2=>cases h
 rename_i r
 split at h
 case h_2=>cases h
 rename_i o hg
 split at h
 case h_2=>cases h
 rename_i m since seen last
 unfold zP4 at h
 split at h
 case h_1=>cases h
 rename_i id
 split at h
 case h_2=>cases h
 rename_i o2 hg2
 split at h
 case h_2=>cases h
 rename_i es ck
 unfold zP3 at h
 split at h
 case h_2=>cases h
 rename_i n hc hn
 split at h
 case h_2=>cases h
 rename_i e he
 cases h
 have hg2':(s.read r).h.get id=some (.ob (.mp es ck)):=hg2
 refine⟨(G1.read hg).trans (G1.read hg2'),fun u _ hbe hag _=>⟨(u.read r).read id,?_,(PW.read hbe r).trans (PW.read (PW.read hbe r).beside id)⟩⟩
 have e1:u.h.get r=some (.ob (.it (some id) since seen last)):=(hag r (zBl.2 (.inl zBx))).trans hg
 have e2:u.h.get id=some (.ob (.mp es ck)):=(hag id zBx).trans hg2
 simp only[zR3,e1,zP4,e2,zP3,hc,hn,he]
theorem zSv {call:Call}(hc:∀ f args,Tr (call f args))(o:Oper)(l:zAv):Tr (opD P call o l):=by
 unfold opD
 cases hop:o.op
 case move x=>exact zSs _ _
 case assign x=>exact zSs _ _
 case pick c a b=>exact yAt _ _ _ _
 case alloc e=>exact zYy _ _
 case box e x=>exact yGg _ _ _
 case build t ps=>exact zKm _
 case buildSlice t n ps=>exact zMi _ _ _ _
 case load t a=>exact yAs _ _ _
 case store t a x=>exact zYx _ _ _ _
 case nilCheck x=>
  cases hv:evalO l x with
  |pointer a=>cases a with
   |none=>exact zA4 fun s=>by simp[zC1,hv]
   |some a=>exact zBe (some (.pointer (some a))) fun s=>by simp[zC1,hv]
  |func f a b=>cases f with
   |func f=>exact zBe (some (.func (.func f) a b)) fun s=>by simp[zC1,hv]
   |_=>exact zA4 fun s=>by simp[zC1,hv]
  |_=>exact zA4 fun s=>by simp[zC1,hv]
 case binOp op t x y yt=>exact zKm _
 case unOp op xt x=>exact yKr _ _ _
 case convert a b x=>exact zUy _ _ _
 case makeInterface t x=>
  cases ht:typ P t with
  |none=>exact zA4 fun s=>by simp only[zB6,ht]
  |some d=>
   cases d
   case interface=>exact zA4 fun s=>by simp only[zB6,ht]
   all_goals exact zBe (some (.iface t (evalO l x))) fun s=>by simp only[zB6,ht]
 case makeFunc fn a b=>exact zBe (some _) fun s=>rfl
 case makeSlice t n c=>exact zOn _ _ _ _
 case slice t x lo hi mx=>exact zKm _
 case fieldAddr t x f=>exact zKm _
 case field t x f=>exact zKm _
 case indexAddr t x i=>exact zKm _
 case index t x i=>exact zKm _
 case extract t i=>
  show Tr (zDj t i l)
  cases hv:evalO l t with
  |tuple vs=>cases hl:vs.toList with
   |nil=>exact zA4 fun s=>by simp only[zDj,hv,hl]
   |cons w ws=>
    have:zDj t i l=ofV (nth (w::ws) i):=by funext s;simp only[zDj,hv,hl]
    rw[this];exact zKm _
  |_=>exact zA4 fun s=>by simp only[zDj,hv]
 case makeMap t r=>exact zSu _ _
 case lookup t x k ok=>exact zY1 _ _ _ _
 case mapUpdate t x k v=>exact zY2 _ _ _ _
 case range t x=>exact yAx _ _
 case next x str=>exact yGl _ _
 case entry x=>exact yAy _
 case call c=>
  show Tr (zIu P call c o.type l)
  unfold zIu
  cases hcal:c.callee with
  |builtin b=>exact zSt _ _ _ _ _
  |value f=>
   show Tr (zFi call f c.args l)
   cases hv:evalO l f with
   |func g first cap=>cases g with
    |func g=>
     have:zFi call f c.args l=call g (first.toList++(zEs l c.args.toList++cap.toList)):=by funext s;simp only[zFi,hv]
     rw[this];exact hc _ _
    |_=>exact zA4 fun s=>by simp only[zFi,hv]
   |_=>exact zA4 fun s=>by simp only[zFi,hv]
  |invoke _ _=>exact zA4 fun s=>rfl
 all_goals exact zA4 fun s=>rfl
end Go.Det
section
namespace Go.Det
variable {P:Program}
def Glob (G:Nat)(φ:Ren):Prop:=∀ g,g < G→∃ sz,φ g=some (g,0,sz)
theorem Glob.mono {G:Nat}{φ φ':Ren}(h:Glob G φ)(k:Le φ φ'):Glob G φ':=fun g hg=>let ⟨sz,e⟩:=h g hg;⟨sz,k _ _ e⟩
def zH3 (P:Program)(w0:World)(G:Nat)(call:Call):Prop:=
 ∀ f args s v s',call f args s=some (v,s')→∀ φ w args',HR φ s.h w0 w→Glob G φ→VRL φ args args'→(∀ id,s.next≤id→id < s'.hi→φ id=none)→Full s'.hi s→
  Gives P w0 φ s.next s' v ((callFunc f ⟨args'⟩).run P w)
section
variable {w0 w:World} {φ:Ren} {l:zAv} {s s':St} {v:Value} {ρ:Operand→Value} {lo G:Nat} {call:Call}
theorem yI5 (hcall:zH3 P w0 G call)(hT:∀ f args,Tr (call f args)){o:Oper}(h:opD P call o l s=some (v,s'))(H:HR φ s.h w0 w)(hG:Glob G φ)
  (hρ:∀ x∈o.op.operands.toList,VR φ (evalO l x) (ρ x)) (hf:∀ id,s.next≤id→id < s'.hi→φ id=none) (hi:Full s'.hi s):Gives P w0 φ s.next s' v ((execOp ρ o).run P w):=by
 have hg1:=(zSv (P:=P) hT o l s v s' h).1
 have hf':∀ id,s.next≤id→id < s'.next→φ id=none:=fun id a b=>hf id a (xHd b (hg1.inv hi.le))
 unfold opD at h
 unfold execOp
 cases hop:o.op<;>rw[hop] at h hρ<;>simp only[Op.operands] at hρ<;>simp only at h ⊢
 case move x=>exact zSb h H (hρ x (by simp))
 case assign x=>exact zSb h H (hρ x (by simp))
 case pick c a b=>exact yAe h H (hρ c (by simp)) (hρ a (by simp)) (hρ b (by simp))
 case alloc e=>exact zYm h H hf'
 case box e x=>exact yGa h H hf' (hρ x (by simp))
 case build t ps=>exact zYn h H fun x hx=>hρ x.2 (by simp;exact⟨x.1,by simpa using hx⟩)
 case buildSlice t n ps=>exact zMb h H hf' fun x hx=>hρ x.2 (by simp;exact⟨x.1,by simpa using hx⟩)
 case load t a=>exact(yAj h H (hρ a (by simp))).1
 case store t a x=>exact zYp h H (hρ a (by simp)) (hρ x (by simp))
 case nilCheck x=>
  have:=zQf (P:=P) (ρ:=ρ) (lo:=s.next) (o:=o) h H (hρ x (by simp)) hop
  unfold execOp at this
  rw[hop] at this
  exact this
 case binOp op t x y yt=>exact yF8 h H (hρ x (by simp)) (hρ y (by simp))
 case unOp op xt x=>exact yKn h H (hρ x (by simp))
 case convert a b x=>exact(zSp h H hf' (hρ x (by simp))).1
 case makeInterface t x=>exact zIz h H (hρ x (by simp))
 case makeFunc fn a b=>exact zQe h H (fun x hx=>hρ x (by simp at hx ⊢;exact .inl hx)) (fun x hx=>hρ x (by simp at hx ⊢;exact .inr hx))
 case makeSlice t n c=>exact zOi h H hf' (hρ n (by simp)) (hρ c (by simp))
 case slice t x lo hi mx=>exact zYl h H (hρ x (by simp)) (fun y hy=>hρ y (by subst hy;simp)) (fun y hy=>hρ y (by subst hy;simp)) (fun y hy=>hρ y (by subst hy;simp))
 case fieldAddr t x f=>exact zOg h H (hρ x (by simp))
 case field t x f=>exact zYi h H (hρ x (by simp))
 case indexAddr t x i=>exact zOh h H (hρ x (by simp)) (hρ i (by simp))
 case index t x i=>exact zYj h H (hρ x (by simp)) (hρ i (by simp))
 case extract t i=>exact zSk h H (hρ t (by simp))
 case makeMap t r=>exact zSr h H hf'
 case lookup t x k ok=>exact zUw h H (hρ x (by simp)) (hρ k (by simp))
 case range t x=>exact zYv h H hf' (hρ x (by simp))
 case next x str=>exact yAq h H (hρ x (by simp))
 case entry x=>exact zYw h H (hρ x (by simp))
 case mapUpdate t x k v=>exact zOm h H (hρ x (by simp)) (hρ k (by simp)) (hρ v (by simp))
 case call c=>
  unfold zIu at h
  unfold resolve
  cases hcal:c.callee with
  |builtin b=>
   simp only[hcal] at h hρ ⊢
   simp only[Sem.run_bind,Sem.run_pure,Result.andThen_ok,invoke]
   exact(zSq (P:=P) (ρ:=ρ) h H hf' (fun x hx=>hρ x (by simp[Call.operands,hcal];simpa using hx))).1
  |value f=>
   simp only[hcal] at h hρ ⊢
   unfold zFi at h
   split at h
   case h_2=>cases h
   rename_i g first cap hv
   split at h
   case h_2=>cases h
   rename_i g
   have hff:=hρ f (by simp[Call.operands,hcal])
   rw[hv] at hff
   obtain⟨a',c',e,q1,q2⟩:=zK9 hff
   have hargs:VRL φ (zEs l c.args.toList) (c.args.map ρ).toList:=by
    rw[Array.toList_map];exact zLa fun x hx=>hρ x (by simp[Call.operands,hcal];right;simpa using hx)
   have hall:=q1.append (hargs.append q2)
   have g1:=hcall _ _ _ _ _ h φ w _ H hG hall hf hi
   have e2:(⟨a'.toList++((c.args.map ρ).toList++c'.toList)⟩:Array Value)=(a'++c.args.map ρ)++c':=by apply Array.ext';simp
   rw[e2] at g1
   simpa [e,Deferred.ofValue,invoke] using g1
  |invoke r m=>simp only[hcal] at h;cases h
 all_goals cases h
end
end Go.Det
end
namespace Go.Det
variable {P:Program}
def obind {α β:Type}(r:Option (α×St))(g:α→St→Option (β×St)):Option (β×St):=match r with
 |some x=>g x.1 x.2
 |none=>none
def omap {α β:Type}(r:Option (α×St))(g:α→β):Option (β×St):=match r with
 |some x=>some (g x.1,x.2)
 |none=>none
def asc (r:Option (Ex×zAv×St)):Option ((Ex×zAv)×St):=match r with
 |some x=>some ((x.1,x.2.1),x.2.2)
 |none=>none
theorem Tr.congr {α:Type}{f g:St→Option (α×St)}(h:Tr f)(e:∀ s,g s=f s):Tr g:=by
 have:g=f:=funext e
 rw[this];exact h
theorem Tr.obind {α β:Type}{f:St→Option (α×St)}{g:α→St→Option (β×St)}(hf:Tr f)(hg:∀ a,Tr (g a)):Tr (fun s=>Det.obind (f s) g):=
 (Tr.bind hf hg).congr fun s=>by
  unfold Det.obind
  cases f s<;>rfl
theorem Tr.map {α β:Type}{f:St→Option (α×St)}(hf:Tr f)(g:α→β):Tr (fun s=>match f s with|some x=>some (g x.1,x.2)|none=>none):=by
 intro s b s' h
 simp only at h
 split at h
 case h_2=>cases h
 rename_i x hx
 obtain⟨a,s1⟩:=x
 cases h
 obtain⟨g1,k⟩:=hf s a s1 hx
 refine⟨g1,fun t h1 h2 h3 h4=>?_⟩
 obtain⟨t',e,p⟩:=k t h1 h2 h3 h4
 exact⟨t',by simp only[e],p⟩
theorem Tr.omap {α β:Type}{f:St→Option (α×St)}(hf:Tr f)(g:α→β):Tr (fun s=>Det.omap (f s) g):=
 (Tr.map hf g).congr fun s=>by
  unfold Det.omap
  cases f s<;>rfl
theorem yAz {f:St→Option (Value×St)}{ih:zAv→St→Option (zAv×St)}(hf:Tr f)(hi:∀ l,Tr (ih l))(l:zAv)(d:Option Tmp):Tr (fun s=>zOw l d ih (f s)):=by
 exact(Tr.obind hf (fun v=>hi (zJx l d v))).congr fun s=>by unfold zOw Det.obind;cases f s<;>rfl
theorem yGm (call:Call)(all:List Oper)(l:zAv)(s:St):zYb P call all [] l s=some (l,s):=rfl
theorem zG9 (call:Call)(all:List Oper)(o:Oper)(rest:List Oper)(l:zAv)(s:St):
  zYb P call all (o::rest) l s=zH9 (opD P call o) o.dst (fun l=>zBw all l o) (zYb P call all rest) l s:=rfl
theorem zMj {call:Call}(hc:∀ f args,Tr (call f args))(all:List Oper):∀ (ops:List Oper) (l:zAv),Tr (zYb P call all ops l)
 |[],l=>zBe (some l) fun _=>rfl
 |o::rest,l=>by
  cases hw:zBw all l o with
  |none=>exact zA4 fun s=>by rw[zG9];simp only[zH9,hw]
  |some b=>cases b with
   |true=>
    have e:zYb P call all (o::rest) l=fun s=>zOw l o.dst (zYb P call all rest) (opD P call o l s):=by funext s;rw[zG9];simp only[zH9,hw]
    rw[e];exact yAz (zSv hc o l) (zMj hc all rest) l o.dst
   |false=>
    have e:zYb P call all (o::rest) l=zYb P call all rest (zJx l o.dst skp):=by funext s;rw[zG9];simp only[zH9,hw]
    rw[e];exact zMj hc all rest _
def solo (s:St):St:={ h:=s.h,next:=s.next,hi:=s.next,rd:=0,wr:=0 }
def zSw (s x:St):St:={ h:=x.h,next:=x.hi,hi:=Nat.max s.hi x.hi,rd:=Nat.lor s.rd x.rd,wr:=Nat.lor s.wr x.wr }
theorem G1.solo {s x:St}(g:G1 (solo s) x):G1 s (zSw s x):=by
 have hi:x.next≤x.hi:=g.inv (xGv _)
 have hn:s.next≤x.next:=g.next
 refine⟨xHf hn hi,Nat.le_max_left _ _,fun _=>xIy _ _,fun i q=>zBl.2 (.inl q),fun i q=>zBl.2 (.inl q),fun i q=>g.frame i fun r=>q (zBl.2 (.inr r)),fun i q=>?_,fun i q=>g.keep i q,fun i q=>?_,fun i q=>?_⟩
 ·rcases g.dom i q with r|r
  ·exact .inl r
  ·right;exact⟨r.1,xHd r.2 hi⟩
 ·rcases zBl.1 q with r|r
  ·exact .inl r
  ·rcases g.oldw i r with r|⟨r1,r2⟩|r
   ·exact absurd r zE4
   ·exact .inr (.inl ⟨zBl.2 (.inr r1),r2⟩)
   ·right;right;exact⟨r.1,xHd r.2 hi⟩
 ·rcases zBl.1 q with r|r
  ·exact .inl r
  ·rcases g.oldr i r with r|r|r
   ·exact absurd r zE4
   ·exact .inr (.inl r)
   ·right;right;exact⟨r.1,xHd r.2 hi⟩
def yGn {α:Type}(s:St)(r:Option (α×St)):Option ((α×Nat×Nat)×St):=match r with
 |some x=>some ((x.1,x.2.rd,x.2.wr),zSw s x.2)
 |none=>none
theorem Tr.solo {α:Type}{f:St→Option (α×St)}(hf:Tr f):Tr (fun s=>yGn s (f (Det.solo s))):=by
 intro s a s' h
 simp only at h
 unfold yGn at h
 split at h
 case h_2=>cases h
 rename_i x hx
 obtain⟨v,y⟩:=x
 cases h
 obtain⟨g,k⟩:=hf _ _ _ hx
 refine⟨g.solo,fun t hF hb hr hn=>?_⟩
 obtain⟨t',e,p⟩:=k (Det.solo t) ⟨xGv _,fun i hi hB=>hF.get i hi (xHd hB (xIy _ _))⟩ ⟨hb.next,hb.next,rfl,rfl⟩ (fun i q=>hr i (zBl.2 (.inr q))) (fun i q1 q2=>hn i q1 (xHd q2 (xIy _ _)))
 refine⟨zSw t t',by simp only[yGn,e,p.rd,p.wr],⟨?_,?_,?_,?_,p.pt⟩⟩
 ·exact p.hi
 ·show Nat.max t.hi t'.hi=Nat.max s.hi y.hi;rw[hb.hi,p.hi]
 ·show Nat.lor t.rd t'.rd=Nat.lor s.rd y.rd;rw[hb.rd,p.rd]
 ·show Nat.lor t.wr t'.wr=Nat.lor s.wr y.wr;rw[hb.wr,p.wr]
theorem yA0 (call:Call)(all:List Oper)(done:List zDz)(sl:List zKz)(l:zAv)(s:St):zK0 P call all [] done sl l s=some (l,s):=rfl
theorem zHp (call:Call)(all:List Oper)(o:Oper)(rest:List Oper)(done:List zDz)(sl:List zKz)(l:zAv)(s:St):
  zK0 P call all (o::rest) done sl l s=(match zF7 done.length o.after.toList with
   |true=>zHm P all o done sl (zK0 P call all rest) l s (zC9 (opD P call o) (fun l=>zBw all l o) l (solo s))
   |false=>none):=rfl
theorem zO7 {f:OpF}(w:zAv→Option Bool)(l:zAv)(hf:Tr (f l)):Tr (zC9 f w l):=by
 cases hw:w l with
 |none=>exact zA4 fun s=>by simp only[zC9,hw]
 |some b=>cases b with
  |true=>
   have:zC9 f w l=f l:=by funext s;simp only[zC9,hw]
   rw[this];exact hf
  |false=>exact zBe (some skp) fun s=>by simp only[zC9,hw]
def zDl (all:List Oper)(o:Oper)(done:List zDz)(rd wr:Nat):zDz:={ rt:=zOv all o,wt:=zQb o,rd:=rd,wr:=wr,before:=zHl done o.after.toList }
theorem zY3 (x:Option zKz):Tr (fun s=>match zJy P x s with|some s'=>some ((),s')|none=>none):=by
 cases x with
 |none=>exact zA4 fun s=>rfl
 |some y=>cases y with
  |none=>exact zA4 fun s=>rfl
  |some z=>
   obtain⟨ty,a,v⟩:=z
   refine(Tr.obind (zQl (P:=P) ty a) (g:=fun r s=>match zYc v r with|true=>some ((),s)|false=>none) fun r=>?_).congr fun s=>?_
   ·cases zYc v r with
    |true=>exact zBe (some ()) fun s=>rfl
    |false=>exact zA4 fun s=>rfl
   ·simp only[Det.obind,zJy]
    cases hl:zD2 P s ty a with
    |none=>rfl
    |some r=>simp only;cases zYc v r.1<;>rfl
theorem zMk (f:zDz):∀ (done:List zDz) (i:Nat) (sl:List zKz),Tr (fun s=>match zEa P f i done sl s with|some s'=>some ((),s')|none=>none)
 |[],i,sl=>zBe (some ()) fun s=>by simp only[zEa]
 |g::t,i,sl=>by
  cases h1:(Nat.testBit f.before i||apart g f) with
  |true=>exact(zMk f t (i+1) sl.tail).congr fun s=>by simp only[zEa,h1]
  |false=>cases h2:apartS g f with
   |false=>exact zA4 fun s=>by simp only[zEa,h1,h2]
   |true=>
    refine(Tr.obind (zY3 (P:=P) sl.head?) (g:=fun _ s=>match zEa P f (i+1) t sl.tail s with|some s'=>some ((),s')|none=>none) fun _=>zMk f t (i+1) sl.tail).congr fun s=>?_
    simp only[Det.obind,zEa,h1,h2]
    cases zJy P sl.head? s<;>rfl
def zWn (call:Call)(all:List Oper)(o:Oper)(rest:List Oper)(done:List zDz)(sl:List zKz)(l:zAv)(a:Value×Nat×Nat)(s:St):Option (zAv×St):=
 zOx P (zDl all o done a.2.1 a.2.2) done sl (zK0 P call all rest (done++[zDl all o done a.2.1 a.2.2]) (sl++[zKj all o l a.1])) (zJx l o.dst a.1) s
theorem zQm {call:Call}(hc:∀ f args,Tr (call f args))(all:List Oper):∀ (ops:List Oper) (done:List zDz) (sl:List zKz) (l:zAv),Tr (zK0 P call all ops done sl l)
 |[],_,_,l=>zBe (some l) fun _=>rfl
 |o::rest,done,sl,l=>by
  cases he:zF7 done.length o.after.toList with
  |false=>exact zA4 fun s=>by rw[zHp];simp only[he]
  |true=>
   refine(Tr.obind (Tr.solo (zO7 (f:=opD P call o) (fun l=>zBw all l o) l (zSv hc o l))) (g:=zWn (P:=P) call all o rest done sl l) (fun a=>?_)).congr fun s=>?_
   ·refine(Tr.obind (zMk (P:=P) (zDl all o done a.2.1 a.2.2) done 0 sl) (g:=fun _=>zK0 P call all rest (done++[zDl all o done a.2.1 a.2.2]) (sl++[zKj all o l a.1]) (zJx l o.dst a.1)) fun _=>zQm hc all rest _ _ _).congr fun s=>?_
    simp only[zWn,zOx,Det.obind]
    cases zEa P (zDl all o done a.2.1 a.2.2) 0 done sl s<;>rfl
   ·rw[zHp]
    try simp only[he]
    unfold zHm yGn Det.obind
    cases zC9 (opD P call o) (fun l=>zBw all l o) l (solo s)<;>rfl
def TrC (f:zDh):Prop:=∀ l,Tr (fun s=>asc (f l s))
theorem yA1 {f:St→Option (zAv×St)}(hf:Tr f):Tr (fun s=>asc (yI2 (f s))):=
 (hf.omap (fun l=>(Ex.normal,l))).congr fun s=>by unfold asc yI2 Det.omap;cases f s<;>rfl
def yKs (g:zDh)(a:Ex×zAv)(s:St):Option ((Ex×zAv)×St):=match a.1 with
 |.normal=>asc (g a.2 s)
 |e=>some ((e,a.2),s)
theorem yA2 {f g:zDh}(hf:TrC f)(hg:TrC g):TrC (yKm f g):=by
 intro l
 refine(Tr.obind (hf l) (g:=yKs g) (fun a=>?_)).congr fun s=>?_
 ·obtain⟨e,l1⟩:=a
  cases e with
  |normal=>exact hg l1
  |exit i=>exact zBe (some (Ex.exit i,l1)) fun _=>rfl
  |ret=>exact zBe (some (Ex.ret,l1)) fun _=>rfl
 ·unfold yKm andThen
  cases f l s with
  |none=>rfl
  |some x=>obtain⟨e,l1,s1⟩:=x;cases e<;>rfl
theorem zQn {f:zDh}(hf:TrC f):∀ k,TrC (yAa k f)
 |0=>fun _=>zA4 fun _=>rfl
 |k+1=>yA2 hf (zQn hf k)
def yUn (id:Nat)(a:Ex×zAv):Ex×zAv:=match a.1 with
 |.exit i=>(match Nat.beq i id with|true=>Ex.normal|false=>Ex.exit i,a.2)
 |e=>(e,a.2)
theorem yA3 {f:zDh}(hf:TrC f)(id:Nat):TrC (zR5 id f):=by
 intro l
 refine((hf l).omap (yUn id)).congr fun s=>?_
 unfold zR5 zUn
 cases f l s with
 |none=>rfl
 |some x=>
  obtain⟨e,l1,s1⟩:=x
  cases e with
  |exit i=>
   show asc (match Nat.beq i id with|true=>some (Ex.normal,l1,s1)|false=>some (Ex.exit i,l1,s1))=some (yUn id (Ex.exit i,l1),s1)
   unfold yUn
   cases hb:Nat.beq i id<;>simp only[hb]<;>rfl
  |_=>rfl
theorem yGo {f g:zDh}(hf:TrC f)(hg:TrC g)(c:Operand):TrC (zUm c f g):=by
 intro l
 cases hv:evalO l c with
 |bool b=>cases b with
  |true=>exact(hf l).congr fun s=>by simp only[zUm,hv]
  |false=>exact(hg l).congr fun s=>by simp only[zUm,hv]
 |_=>exact zA4 fun s=>by simp only[zUm,hv];rfl
theorem zI4 {call:Call}(hc:∀ f args,Tr (call f args))(k:Nat)(c:Code):TrC (zOb P call k c):=by
 induction c with
 |skip=>exact fun l=>zBe (some (Ex.normal,l)) fun _=>rfl
 |region id ops draw=>
  cases draw with
  |true=>exact fun l=>yA1 (zQm hc ops.toList ops.toList [] [] l)
  |false=>exact fun l=>yA1 (zMj hc ops.toList ops.toList l)
 |seq a b ha hb=>exact yA2 ha hb
 |cond c a b ha hb=>exact yGo ha hb c
 |block id a ha=>exact yA3 ha id
 |loop a ha=>exact zQn ha k
 |exit id=>exact fun l=>zBe (some (Ex.exit id,l)) fun _=>rfl
 |ret=>exact fun l=>zBe (some (Ex.ret,l)) fun _=>rfl
 |_=>exact fun l=>zA4 fun _=>rfl
end Go.Det
namespace Go.Det
variable {P:Program}
theorem yGp (l:zAv)(s:St):zR6 P l s []=some ([],s):=rfl
theorem zQo (l:zAv)(s:St)(t:Tmp)(rest:List ResultVar):zR6 P l s (.tmp t::rest)=match zR6 P l s rest with|some (vs,s)=>some (zD7 l t::vs,s)|none=>none:=rfl
theorem zMl (l:zAv)(s:St)(a:Tmp)(t:TypeId)(rest:List ResultVar):zR6 P l s (.cell a t::rest)=match zD2 P s t (zD7 l a) with
  |some (v,s)=>(match zR6 P l s rest with|some (vs,s)=>some (v::vs,s)|none=>none)
  |none=>none:=rfl
theorem zMm (l:zAv):∀ rs,Tr (fun s=>zR6 P l s rs)
 |[]=>zBe (some []) fun _=>rfl
 |.tmp t::rest=>((zMm l rest).omap (fun vs=>zD7 l t::vs)).congr fun s=>by
   rw[zQo];unfold omap;cases zR6 P l s rest<;>rfl
 |.cell a t::rest=>(Tr.obind (zQl t (zD7 l a)) (fun v=>(zMm l rest).omap (fun vs=>v::vs))).congr fun s=>by
   rw[zMl];unfold obind omap
   cases zD2 P s t (zD7 l a) with
   |none=>rfl
   |some x=>obtain⟨v,s1⟩:=x;simp only;cases zR6 P l s1 rest<;>rfl
def yI6 (s:St):St:={ h:=s.h,next:=s.next,hi:=s.hi,rd:=s.rd,wr:=0 }
theorem Tr.gc {f:St→Option (Value×St)}(hf:Tr f):Tr (fun s=>match f (yI6 s) with|some x=>gcD s x.1 x.2|none=>none):=by
 intro s v s' h
 simp only at h
 split at h
 case h_2=>cases h
 rename_i x hx
 obtain⟨v1,y⟩:=x
 simp only at h
 obtain⟨g,k⟩:=hf _ _ _ hx
 unfold gcD at h
 cases hc:(flat v1&&(Nat.beq (Nat.mod y.wr (Nat.shiftLeft 1 s.next)) 0&&Nat.ble (Nat.lor y.rd y.wr+1) (Nat.shiftLeft 1 y.next)))<;>rw[hc] at h<;>simp only[xGu,xG5] at h<;>obtain⟨rfl,rfl⟩:=h
 ·refine⟨⟨g.next,g.hi,g.inv,g.rd,fun i q=>zBl.2 (.inl q),fun i q=>g.frame i fun r=>q (zBl.2 (.inr r)),g.dom,g.keep,fun i q=>?_,g.oldr⟩,fun t hF hb hr hn=>?_⟩
  ·rcases zBl.1 q with r|r
   ·exact .inl r
   ·rcases g.oldw i r with r|r|r
    ·exact absurd r zE4
    ·exact .inr (.inl r)
    ·exact .inr (.inr r)
  ·obtain⟨t',e,p⟩:=k (yI6 t) ⟨hF.le,hF.get⟩ ⟨hb.next,hb.hi,hb.rd,rfl⟩ hr hn
   refine⟨{ h:=t'.h,next:=t'.next,hi:=t'.hi,rd:=t'.rd,wr:=Nat.lor t.wr t'.wr },?_,⟨p.next,p.hi,p.rd,?_,p.pt⟩⟩
   ·simp only[e]
    unfold gcD
    have hc':(flat v1&&(Nat.beq (Nat.mod t'.wr (Nat.shiftLeft 1 t.next)) 0&&Nat.ble (Nat.lor t'.rd t'.wr+1) (Nat.shiftLeft 1 t'.next)))=false:=by rw[p.rd,p.wr,p.next,hb.next];exact hc
    rw[hc']
   ·show Nat.lor t.wr t'.wr=Nat.lor s.wr y.wr;rw[hb.wr,p.wr]
 ·refine⟨⟨xGv _,g.hi,fun q=>xHf q g.hi,fun i q=>zBl.2 (.inl q),fun i q=>q,fun i _=>rfl,fun i q=>.inl q,fun i q=>q,fun i q=>.inl q,fun i q=>?_⟩,fun t hF hb hr hn=>?_⟩
  ·rcases zBl.1 q with r|r
   ·exact .inl r
   ·obtain⟨r1,r2⟩:=zUx.1 r
    rcases g.oldr i r2 with r|r|r
    ·exact .inl r
    ·exact .inr (.inl r)
    ·exact absurd r1 (xH2.2 r.1)
  ·have hle:y.next≤y.hi:=g.inv hF.le
   have hbd:∀ i,bit y.rd i→i < y.next:=fun i q=>by
    rw[xG0,xG0] at hc
    exact yAr (xHg hc.2.2) (zBl.2 (.inl q))
   obtain⟨t',e,p⟩:=k (yI6 t) ⟨hF.le,hF.get⟩ ⟨hb.next,hb.hi,hb.rd,rfl⟩ (fun i q=>by
     rcases g.oldr i q with r|r|r
     ·exact hr i (zBl.2 (.inl r))
     ·have:i < s.next:=by
       rcases xHr i s.next with q2|q2
       ·exact q2
       ·exact absurd (hF.get i q2 (xHd (hbd i q) hle)) r
      exact hr i (zBl.2 (.inr (zUx.2 ⟨this,q⟩)))
     ·exact(hn i r.1 (xHd r.2 hle)).trans (hF.get i r.1 (xHd r.2 hle)).symm) hn
   refine⟨{ h:=t.h,next:=t.next,hi:=t'.hi,rd:=Nat.lor t.rd (Nat.mod t'.rd (Nat.shiftLeft 1 t.next)),wr:=t.wr },?_,⟨hb.next,p.hi,?_,hb.wr,fun i=>.inr ⟨rfl,rfl⟩⟩⟩
   ·simp only[e]
    unfold gcD
    have hc':(flat v1&&(Nat.beq (Nat.mod t'.wr (Nat.shiftLeft 1 t.next)) 0&&Nat.ble (Nat.lor t'.rd t'.wr+1) (Nat.shiftLeft 1 t'.next)))=true:=by rw[p.rd,p.wr,p.next,hb.next];exact hc
    rw[hc']
   ·show Nat.lor t.rd (Nat.mod t'.rd (Nat.shiftLeft 1 t.next))=Nat.lor s.rd (Nat.mod y.rd (Nat.shiftLeft 1 s.next));rw[hb.rd,p.rd,hb.next]
def yA4 (fn:Func)(a:Ex×zAv)(s:St):Option (Value×St):=match a.1 with
 |.exit _=>none
 |_=>omap (zR6 P a.2 s fn.results.toList) zHz
theorem yA5 (fn:Func)(a:Ex×zAv):Tr (yA4 (P:=P) fn a):=by
 obtain⟨e,l⟩:=a
 cases e with
 |exit i=>exact zA4 fun _=>rfl
 |normal=>exact(zMm l _).omap zHz
 |ret=>exact(zMm l _).omap zHz
theorem zMn (run:Code→zDh)(fn:Func)(c:Code)(args:List Value)(s:St):
  zWg P run fn c args s=match Nat.ble args.length fn.ntmps with
   |true=>(match obind (asc (run c (zAg args 8) (yI6 s))) (yA4 (P:=P) fn) with|some x=>gcD s x.1 x.2|none=>none)
   |false=>none:=by
 unfold zWg
 cases Nat.ble args.length fn.ntmps with
 |false=>rfl
 |true=>
  simp only
  unfold yXz yI3 obind asc yA4 omap yI6
  cases run c (zAg args 8) { h:=s.h,next:=s.next,hi:=s.hi,rd:=s.rd,wr:=0 } with
  |none=>rfl
  |some x=>
   obtain⟨e,l,s1⟩:=x
   cases e with
   |exit i=>rfl
   |normal=>simp only;cases zR6 P l s1 fn.results.toList<;>rfl
   |ret=>simp only;cases zR6 P l s1 fn.results.toList<;>rfl
theorem yA6 {run:Code→zDh}(fn:Func)(c:Code)(hr:TrC (run c))(args:List Value):Tr (zWg P run fn c args):=by
 cases hb:Nat.ble args.length fn.ntmps with
 |false=>exact zA4 fun s=>by rw[zMn,hb]
 |true=>
  exact(Tr.gc (Tr.obind (hr (zAg args 8)) (yA5 (P:=P) fn))).congr fun s=>by rw[zMn,hb]
abbrev zUf:=FuncId→Option (List Value→St→Option (Value×St))
theorem zY4 (intr:zUf)(n:Nat)(f:FuncId)(args:List Value)(s:St):zJz P intr n 0 f args s=none:=rfl
theorem zO8 (intr:zUf)(n k:Nat)(f:FuncId):zJz P intr n (k+1) f=match intr f with
  |some g=>g
  |none=>yF7 P (zOb P (zJz P intr n k) n) (nth P.funcs.toList f):=rfl
theorem zWo {intr:zUf}(hi:∀ f g,intr f=some g→∀ args,Tr (g args))(n:Nat):∀ k f args,Tr (zJz P intr n k f args)
 |0,f,args=>zA4 fun _=>rfl
 |k+1,f,args=>by
  rw[zO8]
  cases hf:intr f with
  |some g=>exact hi f g hf args
  |none=>
   simp only
   unfold yF7
   cases nth P.funcs.toList f with
   |none=>exact zA4 fun _=>rfl
   |some fn=>
    simp only
    cases fn.body with
    |none=>exact zA4 fun _=>rfl
    |some c=>exact yA6 fn c (zI4 (zWo hi n k) n c) args
end Go.Det
section
namespace Go.Det
variable {P:Program}
structure Fr (n:Nat) (φ:Ren) (l:zAv) (a:Act):Prop where
 size:a.tmps.size=n
 tmp:∀ t,VR φ (zD7 l t) (a.tmps.getD t undef)
 defers:a.defers=[]
def zI5 (G:Nat):Operand→Bool
 |.const v=>flat v
 |.global g=>Nat.ble (g+1) G
 |_=>true
def zHq (G:Nat):List Operand→Bool
 |[]=>true
 |x::t=>zI5 G x&&zHq G t
def yRi (n:Nat):Option Tmp→Bool
 |some d=>Nat.ble (d+1) n
 |none=>true
def zKn (n G:Nat)(o:Oper):Bool:=zHq G o.op.operands.toList&&yRi n o.dst
theorem zFj {G:Nat}:∀ {l:List Operand},zHq G l=true→∀ x∈l,zI5 G x=true
 |[],_,x,hx=>by cases hx
 |y::t,h,x,hx=>by
  simp only[zHq,xG0] at h
  rcases xG6.1 hx with rfl|hx
  ·exact h.1
  ·exact zFj h.2 x hx
theorem Fr.mono {n:Nat}{φ φ':Ren}{l:zAv}{a:Act}(h:Fr n φ l a)(k:Le φ φ'):Fr n φ' l a:=⟨h.size,fun t=>(h.tmp t).mono k,h.defers⟩
theorem Fr.put {n:Nat}{φ:Ren}{l:zAv}{a:Act}(h:Fr n φ l a){dst:Option Tmp}{v v':Value}(hd:yRi n dst=true)(hv:VR φ v v'):Fr n φ (zJx l dst v) (a.put dst v'):=by
 cases dst with
 |none=>exact h
 |some d=>
  have hd:d < n:=xHg hd
  refine⟨by simp[Act.put,h.size],fun t=>?_,h.defers⟩
  show VR φ (zD7 (zZz l d v) t) ((a.tmps.setIfInBounds d v').getD t undef)
  rw[zF9]
  by_cases e:t=d
  ·subst e
   have:(a.tmps.setIfInBounds t v').getD t undef=v':=by
    simp[xHb,h.size,hd]
   rw[xGq rfl,this];exact hv
  ·have:(a.tmps.setIfInBounds d v').getD t undef=a.tmps.getD t undef:=by
    simp[xHb,xI7 (Ne.symm e)]
   rw[xGr e,this];exact h.tmp t
theorem zLf {n G:Nat}{φ:Ren}{l:zAv}{a:Act}(hG:Glob G φ)(h:Fr n φ l a){x:Operand}(hx:zI5 G x=true):VR φ (evalO l x) (a.eval x):=by
 cases x with
 |tmp t=>exact h.tmp t
 |const v=>exact zCp hx φ
 |global g=>
  obtain⟨sz,e⟩:=hG g (xHg hx)
  exact .ptr g 0 g 0 sz e
 |func f=>exact .func _ [] [] [] [] rfl (fun _=>.any _) rfl (fun _=>.any _)
theorem yGq {φ:Ren}{v v':Value}(h:VR φ v v')(h1:∀ vs,v≠.tuple vs)(h2:∀ b,v≠.bool b):∀ b,v'≠.bool b:=by
 intro b e
 subst e
 cases h with
 |any=>exact h1 _ rfl
 |bool=>exact h2 _ rfl
theorem zE5 {α:Type}:∀ (l:List α) (n:Nat),nth l n=l[n]?
 |[],_=>rfl
 |_::_,0=>rfl
 |_::t,n+1=>by rw[nth,zE5 t n];rfl
theorem zSx {n:Nat}{φ:Ren}{l:zAv}{a:Act}{all:Array Oper}{o:Oper}{b:Bool}(hF:Fr n φ l a)(h:zBw all.toList l o=some b):
  Region.wanted o (yielded all a.tmps)=b:=by
 unfold zBw at h
 unfold Region.wanted
 cases hg:o.guard with
 |none=>simp only[hg,xGu] at h ⊢;exact h
 |some g=>
  obtain⟨j,want⟩:=g
  simp only[hg] at h ⊢
  split at h
  case h_2=>cases h
  rename_i q hq
  rw[zE5,xHp] at hq
  split at h
  case h_2=>cases h
  rename_i d hd
  have hv:=hF.tmp d
  unfold yielded
  rw[hq]
  simp only[xGp,hd]
  rw[xHb] at hv
  split at h
  ·rename_i c hc
   rw[hc] at hv
   cases h
   have:=zHn hv
   cases he:a.tmps[d]? with
   |none=>rw[he] at this;simp[undef] at this
   |some v'=>rw[he] at this;simp only[Option.getD_some] at this;subst this;cases c<;>cases want<;>rfl
  ·cases h
  ·rename_i h1 h2
   cases h
   have:=yGq hv (fun vs e=>h2 vs e) (fun b e=>h1 b e)
   cases he:a.tmps[d]? with
   |none=>rfl
   |some v'=>
    rw[he] at this
    cases v'<;>first|rfl|exact absurd rfl (this _)
section
variable {w0:World} {n G:Nat} {call:Call}
theorem zUz (hcall:zH3 P w0 G call)(hT:∀ f args,Tr (call f args))(all:Array Oper){Q:Exit→Act→World→Prop}:∀ (rest:List Oper),(∀ o∈rest,zKn n G o=true)→
  ∀ (l:zAv) (s:St) (l':zAv) (s':St) (φ:Ren) (a:Act) (w:World),zYb P call all.toList rest l s=some (l',s')→HR φ s.h w0 w→Glob G φ→Fr n φ l a→
  (∀ id,s.next≤id→id < s'.hi→φ id=none)→Full s'.hi s→
  (∀ φ' a' w',Ext φ φ' s.next s'.next→HR φ' s'.h w0 w'→Fr n φ' l' a'→Q .normal a' w')→wpList P all Q rest a w
 |[],_,l,s,l',s',φ,a,w,h,H,_,hF,_,_,k=>by
  rw[yGm] at h
  cases h
  exact k φ a w (Ext.refl _ _ _) H hF
 |o::rest,hok,l,s,l',s',φ,a,w,h,H,hG,hF,hf,hi,k=>by
  rw[zG9] at h
  unfold zH9 at h
  have hoo:=hok o (by simp)
  unfold zKn at hoo
  rw[xG0] at hoo
  have hrest:∀ o∈rest,zKn n G o=true:=fun o h=>hok o (by simp[h])
  split at h
  case h_2=>cases h
  rename_i b hb
  have hw:=zSx hF hb
  unfold wpList
  cases b with
  |false=>
   simp only at h
   rw[xGr (by rw[hw];simp)]
   exact zUz hcall hT all rest hrest _ _ _ _ φ _ w h H hG (hF.put hoo.2 .skip) hf hi k
  |true=>
   simp only at h
   rw[xGq hw]
   left
   unfold zOw at h
   split at h
   case h_2=>cases h
   rename_i x hx
   obtain⟨v,s1⟩:=x
   simp only at h
   have g1:=(zSv (P:=P) hT o l s v s1 hx).1
   have g2:=(zMj (P:=P) hT all.toList rest _ s1 l' s' h).1
   have hgv:=yI5 (ρ:=a.eval) hcall hT hx H hG (fun x hx=>zLf hG hF (zFj hoo.1 x hx)) (fun id p q=>hf id p (xHd q g2.hi)) (hi.mono g2.hi)
   refine hgv.wp fun φ' v' w' e hv H'=>?_
   refine zUz hcall hT all rest hrest _ s1 l' s' φ' _ w' h H' (hG.mono e.le) ((hF.mono e.le).put hoo.2 hv) (fun id p q=>?_) (hi.step g1) fun φ2 a2 w2 e2 H2 F2=>?_
   ·cases hφ:φ' id with
    |none=>rfl
    |some y=>
     rcases e.new id (by rw[hφ];simp) with r|r
     ·exact absurd (hf id (xHf g1.next p) q) r
     ·omega
   ·exact k φ2 a2 w2 (e.trans e2 (xGv _) g2.next g1.next (xGv _)) H2 F2
end
end Go.Det
end
namespace Go.Det
variable {P:Program}
theorem zEt {l l':zAv}:∀ {xs:List Operand},(∀ x∈xs,evalO l x=evalO l' x)→zEs l xs=zEs l' xs
 |[],_=>rfl
 |x::t,h=>by rw[zEs,zEs,h x (by simp),zEt fun y hy=>h y (by simp[hy])]
theorem zHa {l l':zAv}:∀ {xs:List (Nat×Operand)},(∀ x∈xs,evalO l x.2=evalO l' x.2)→zFq l xs=zFq l' xs
 |[],_=>rfl
 |(i,x)::t,h=>by rw[zFq,zFq,h (i,x) (by simp),zHa fun y hy=>h y (by simp[hy])]
theorem zGg {l l':zAv}{x:Option Operand}(h:∀ y,x=some y→evalO l y=evalO l' y):zC7 l x=zC7 l' x:=by
 cases x with
 |none=>rfl
 |some y=>rw[zC7,zC7,h y rfl]
theorem zSy {call:Call}{o:Oper}{l l':zAv}(h:∀ x∈o.op.operands.toList,evalO l x=evalO l' x):opD P call o l=opD P call o l':=by
 unfold opD
 cases hop:o.op<;>rw[hop] at h<;>simp only[Op.operands] at h<;>simp only
 case move x=>funext s;simp only[zLw,h x (by simp)]
 case assign x=>funext s;simp only[zLw,h x (by simp)]
 case pick c a b=>funext s;simp only[zIr,h c (by simp),h a (by simp),h b (by simp)]
 case alloc e=>rfl
 case box e x=>funext s;simp only[zYa,h x (by simp)]
 case build t ps=>funext s;simp only[zP5,zHa (xs:=ps.toList) (l:=l) (l':=l') fun x hx=>h x.2 (by simp;exact⟨x.1,by simpa using hx⟩)]
 case buildSlice t n ps=>funext s;simp only[zCy,zHa (xs:=ps.toList) (l:=l) (l':=l') fun x hx=>h x.2 (by simp;exact⟨x.1,by simpa using hx⟩)]
 case load t a=>funext s;simp only[zR4,h a (by simp)]
 case store t a x=>funext s;simp only[zG4,h a (by simp),h x (by simp)]
 case nilCheck x=>funext s;simp only[zC1,h x (by simp)]
 case binOp op t x y yt=>funext s;simp only[yF5,h x (by simp),h y (by simp)]
 case unOp op xt x=>funext s;simp only[yKk,h x (by simp)]
 case convert a b x=>funext s;simp only[zIs,h x (by simp)]
 case makeInterface t x=>funext s;simp only[zB6,h x (by simp)]
 case makeFunc fn a b=>
  funext s
  simp only[zHk,zEt (xs:=a.toList) (l:=l) (l':=l') (fun x hx=>h x (by simp at hx ⊢;exact .inl hx)),zEt (xs:=b.toList) (l:=l) (l':=l') (fun x hx=>h x (by simp at hx ⊢;exact .inr hx))]
 case makeSlice t n c=>funext s;simp only[zC8,h n (by simp),h c (by simp)]
 case slice t x lo hi mx=>
  funext s
  simp only[zP6,h x (by simp),zGg (l:=l) (l':=l') (x:=lo) (fun y hy=>h y (by subst hy;simp)),zGg (l:=l) (l':=l') (x:=hi) (fun y hy=>h y (by subst hy;simp)),
   zGg (l:=l) (l':=l') (x:=mx) (fun y hy=>h y (by subst hy;simp))]
 case fieldAddr t x f=>funext s;simp only[zF4,h x (by simp)]
 case field t x f=>funext s;simp only[zP7,h x (by simp)]
 case indexAddr t x i=>funext s;simp only[zF5,h x (by simp),h i (by simp)]
 case index t x i=>funext s;simp only[zP8,h x (by simp),h i (by simp)]
 case extract t i=>funext s;simp only[zDj,h t (by simp)]
 case lookup t x k ok=>funext s;simp only[zK8,h x (by simp),h k (by simp)]
 case range t x=>funext s;simp only[zP9,h x (by simp)]
 case next x str=>funext s;simp only[zWe,h x (by simp)]
 case entry x=>funext s;simp only[zQa,h x (by simp)]
 case mapUpdate t x k v=>funext s;simp only[zF6,h x (by simp),h k (by simp),h v (by simp)]
 case call c=>
  unfold zIu
  cases hcal:c.callee with
  |builtin b=>
   simp only at h ⊢
   funext s
   simp only[zFr,zEt (xs:=c.args.toList) (l:=l) (l':=l') (fun x hx=>h x (by simp[Call.operands,hcal];simpa using hx))]
  |value f=>
   simp only at h ⊢
   funext s
   simp only[zFi,h f (by simp[Call.operands,hcal]),zEt (xs:=c.args.toList) (l:=l) (l':=l') (fun x hx=>h x (by simp[Call.operands,hcal];right;simpa using hx))]
  |invoke r m=>rfl
 all_goals rfl
theorem zY5 {l:List Operand}{t:Nat}(h:Operand.tmp t∈l):bit (zWf l) t:=by
 induction l with
 |nil=>cases h
 |cons x r ih=>
  rw[zWf]
  rcases xG6.1 h with rfl|h
  ·exact zBl.2 (.inl (zD8.2 rfl))
  ·exact zBl.2 (.inr (ih h))
theorem zY6 {l l':zAv}{x:Operand}(h:∀ t,x=.tmp t→zD7 l t=zD7 l' t):evalO l x=evalO l' x:=by
 cases x with
 |tmp t=>exact h t rfl
 |_=>rfl
theorem zQp {call:Call}{all:List Oper}{o:Oper}{l l':zAv}(h:∀ t,bit (zOv all o) t→zD7 l t=zD7 l' t):
  zBw all l o=zBw all l' o∧zC9 (opD P call o) (fun l=>zBw all l o) l=zC9 (opD P call o) (fun l=>zBw all l o) l':=by
 have e:zBw all l o=zBw all l' o:=by
  unfold zBw
  cases hg:o.guard with
  |none=>rfl
  |some g=>
   simp only
   cases hn:nth all g.1 with
   |none=>rfl
   |some q=>
    simp only
    cases hd:q.dst with
    |none=>rfl
    |some d=>
     simp only
     rw[h d (by unfold zOv;rw[hg];simp only[hn,hd];exact zBl.2 (.inr (zD8.2 rfl)))]
 refine⟨e,?_⟩
 funext s
 unfold zC9
 simp only[e]
 rw[zSy fun x hx=>zY6 fun t ht=>h t (by subst ht;exact zBl.2 (.inl (zY5 hx)))]
def Last {α:Type}(W:Nat→Nat→Prop)(val:Nat→Nat→α)(v0:Nat→α)(E:Nat→Prop)(x:Nat)(v:α):Prop:=
 (∃ j,E j∧W j x∧(∀ k,E k→W k x→k≤j)∧v=val j x)∨((∀ j,E j→¬ W j x)∧v=v0 x)
theorem Last.unique {α:Type}{W:Nat→Nat→Prop}{val:Nat→Nat→α}{v0:Nat→α}{E E':Nat→Prop}{x:Nat}{v v':α}(h:Last W val v0 E x v)(h':Last W val v0 E' x v')
  (e:∀ j,W j x→(E j↔E' j)):v=v':=by
 rcases h with⟨j,h1,h2,h3,rfl⟩|⟨h1,rfl⟩<;>rcases h' with⟨j',k1,k2,k3,rfl⟩|⟨k1,rfl⟩
 ·have a:=h3 j' ((e j' k2).2 k1) k2
  have b:=k3 j ((e j h2).1 h1) h2
  obtain rfl:j=j':=by omega
  rfl
 ·exact absurd h2 (k1 j ((e j h2).1 h1))
 ·exact absurd k2 (h1 j' ((e j' k2).2 k1))
 ·rfl
theorem Last.add {α:Type}{W:Nat→Nat→Prop}{val:Nat→Nat→α}{v0:Nat→α}{E:Nat→Prop}{x i:Nat}(hw:W i x)(hl:∀ k,E k→W k x→k≤i):
  Last W val v0 (fun j=>j=i∨E j) x (val i x):=
 .inl ⟨i,.inl rfl,hw,fun k hk hkw=>by rcases hk with rfl|hk;exact xGv _;exact hl k hk hkw,rfl⟩
theorem Last.skip {α:Type}{W:Nat→Nat→Prop}{val:Nat→Nat→α}{v0:Nat→α}{E:Nat→Prop}{x i:Nat}{v:α}(h:Last W val v0 E x v)(hw:¬ W i x):
  Last W val v0 (fun j=>j=i∨E j) x v:=by
 rcases h with⟨j,h1,h2,h3,h4⟩|⟨h1,h4⟩
 ·exact .inl ⟨j,.inr h1,h2,fun k hk hkw=>by rcases hk with rfl|hk;exact absurd hkw hw;exact h3 k hk hkw,h4⟩
 ·exact .inr ⟨fun j hj=>by rcases hj with rfl|hj;exact hw;exact h1 j hj,h4⟩
theorem Last.iff {α:Type}{W:Nat→Nat→Prop}{val:Nat→Nat→α}{v0:Nat→α}{E E':Nat→Prop}{x:Nat}{v:α}(h:Last W val v0 E x v)(e:∀ j,E j↔E' j):Last W val v0 E' x v:=by
 have:E=E':=funext fun j=>propext (e j)
 rw[← this];exact h
end Go.Det
section
namespace Go.Det
variable {P:Program}
def yGr (P:Program)(call:Call)(all:List Oper)(o:Oper):zAv→St→Option (Value×St):=zC9 (opD P call o) (fun l=>zBw all l o)
theorem zU0 {call:Call}(hT:∀ f args,Tr (call f args))(all:List Oper)(o:Oper)(l:zAv):Tr (yGr P call all o l):=
 zO7 (f:=opD P call o) (fun l=>zBw all l o) l (zSv hT o l)
structure Trace (P:Program) (call:Call) (all rest:List Oper) (done:List zDz) (sl:List zKz) (fs:List zDz) (ss:List zKz) (L:Nat→zAv) (S X:Nat→St) (V:Nat→Value):Prop where
 len:fs.length=rest.length
 slen:ss.length=rest.length
 run:∀ i o,rest[i]?=some o→yGr P call all o (L i) (solo (S i))=some (V i,X i)
 nl:∀ i o,rest[i]?=some o→L (i+1)=zJx (L i) o.dst (V i)
 ft:∀ i o,rest[i]?=some o→∃ f,fs[i]?=some f∧f=zDl all o (done++fs.take i) (X i).rd (X i).wr∧zEa P f 0 (done++fs.take i) (sl++ss.take i) (zSw (S i) (X i))=some (S (i+1))
 so:∀ i o,rest[i]?=some o→ss[i]?=some (zKj all o (L i) (V i))
 ed:∀ i o,rest[i]?=some o→zF7 (done.length+i) o.after.toList=true
theorem zMo {call:Call}{all:List Oper}:∀ (rest:List Oper) (done:List zDz) (sl:List zKz) (l:zAv) (s:St) (l':zAv) (s':St),zK0 P call all rest done sl l s=some (l',s')→
  ∃ fs ss L S X V,Trace P call all rest done sl fs ss L S X V∧L 0=l∧S 0=s∧L rest.length=l'∧S rest.length=s'
 |[],done,sl,l,s,l',s',h=>by
  rw[yA0] at h
  cases h
  exact⟨[],[],fun _=>l,fun _=>s,fun _=>s,fun _=>und,⟨rfl,rfl,fun i o h=>by simp at h,fun i o h=>by simp at h,fun i o h=>by simp at h,fun i o h=>by simp at h,fun i o h=>by simp at h⟩,rfl,rfl,rfl,rfl⟩
 |o::rest,done,sl,l,s,l',s',h=>by
  rw[zHp] at h
  split at h
  case h_2=>cases h
  rename_i he
  unfold zHm at h
  split at h
  case h_2=>cases h
  rename_i x hx
  obtain⟨v,y⟩:=x
  simp only at h
  unfold zOx at h
  split at h
  case h_2=>cases h
  rename_i s1 hap
  obtain⟨fs,ss,L,S,X,V,T,e1,e2,e3,e4⟩:=zMo rest _ _ _ _ _ _ h
  refine⟨zDl all o done y.rd y.wr::fs,zKj all o l v::ss,fun i=>match i with|0=>l|i+1=>L i,fun i=>match i with|0=>s|i+1=>S i,fun i=>match i with|0=>y|i+1=>X i,
   fun i=>match i with|0=>v|i+1=>V i,⟨by simp[T.len],by simp[T.slen],fun i q hq=>?_,fun i q hq=>?_,fun i q hq=>?_,fun i q hq=>?_,fun i q hq=>?_⟩,rfl,rfl,e3,e4⟩
  ·cases i with
   |zero=>simp only[xHl,xGu] at hq;subst hq;exact hx
   |succ i=>exact T.run i q (by simpa using hq)
  ·cases i with
   |zero=>simp only[xHl,xGu] at hq;subst hq;exact e1
   |succ i=>exact T.nl i q (by simpa using hq)
  ·cases i with
   |zero=>
    simp only[xHl,xGu] at hq;subst hq
    refine⟨_,rfl,by simp,?_⟩
    simp only[List.take_zero,xI3,xIz]
    rw[e2];exact hap
   |succ i=>
    obtain⟨f,f1,f2,f3⟩:=T.ft i q (by simpa using hq)
    refine⟨f,by simpa using f1,?_,?_⟩
    ·rw[f2];simp[zDl,xIa]
    ·have:=f3;simpa [zDl,xIa] using this
  ·cases i with
   |zero=>simp only[xHl,xGu] at hq;subst hq;rfl
   |succ i=>simpa using T.so i q (by simpa using hq)
  ·cases i with
   |zero=>simp only[xHl,xGu] at hq;subst hq;simpa using he
   |succ i=>
    have:=T.ed i q (by simpa using hq)
    simpa [xI1,Nat.add_comm 1 i] using this
theorem zWp {a b:Option Addr}(h:yF6 a b=true):a=b:=by
 unfold yF6 at h
 split at h
 ·rfl
 ·rw[xG0] at h
  rw[xG3 h.1,xG3 h.2]
 ·cases h
theorem yGs {a b:Value}(h:zYc a b=true):a=b:=by
 unfold zYc at h
 split at h
 ·rw[zWp h]
 ·simp only[xG0] at h
  rw[zWp h.1,xG3 h.2.1,xG3 h.2.2]
 ·split at h
  ·rename_i r hr;exact(zJ3 hr).1 h
  ·cases h
theorem zSz {x:Option zKz}{s s':St}(h:zJy P x s=some s'):∃ t a v,x=some (some (t,a,v))∧zD2 P s t a=some (v,s'):=by
 unfold zJy at h
 split at h
 case h_2=>cases h
 split at h
 case h_2=>cases h
 rename_i z
 split at h
 case h_2=>cases h
 rename_i r hr
 split at h
 case h_2=>cases h
 rename_i hv
 cases h
 exact⟨z.1,z.2.1,z.2.2,rfl,by rw[hr,yGs hv]⟩
theorem zJ4 {s s':St}{t:TypeId}{a v:Value}(h:zD2 P s t a=some (v,s')):∃ id off,a=.pointer (some ⟨id,off,none⟩)∧s'=s.read id∧s.h.get id≠none∧
  ∀ u:St,u.h.get id=s.h.get id→zD2 P u t a=some (v,u.read id):=by
 unfold zD2 at h
 split at h
 case h_2=>cases h
 rename_i id off
 split at h
 case h_2=>cases h
 rename_i cs e ro hg
 refine⟨id,off,rfl,?_⟩
 split at h
 ·rename_i hb
  split at h
  case h_2=>cases h
  rename_i n hn
  split at h
  case h_2=>cases h
  rename_i r hr
  cases h
  refine⟨rfl,by rw[hg];simp,fun u hu=>?_⟩
  simp only[zD2,hu,hg,hb,hn,hr]
 ·rename_i hb
  split at h
  case h_2=>cases h
  rename_i v1 t1 hd
  cases h
  refine⟨rfl,by rw[hg];simp,fun u hu=>?_⟩
  simp only[zD2,hu,hg,hb,hd]
 ·cases h
theorem zDx {f:zDz}:∀ {done:List zDz} {j:Nat} {sl:List zKz} {s s':St},zEa P f j done sl s=some s'→
  G1 s s'∧s'.h=s.h∧s'.next=s.next∧s'.hi=s.hi∧∀ k g,done[k]?=some g→bit f.before (j+k)∨apart g f=true∨(apartS g f=true∧∃ t a v,sl[k]?=some (some (t,a,v))∧∃ u u',u.h=s.h∧zD2 P u t a=some (v,u'))
 |[],j,sl,s,s',h=>by
  simp only[zEa,xGu] at h
  subst h
  exact⟨G1.refl _,rfl,rfl,rfl,fun k g hk=>by simp at hk⟩
 |x::t,j,sl,s,s',h=>by
  have tl:∀ k:Nat,sl.tail[k]?=sl[k+1]?:=fun k=>by cases sl<;>simp
  unfold zEa at h
  split at h
  ·rename_i h1
   obtain⟨g1,g2,g3,g4,g5⟩:=zDx h
   refine⟨g1,g2,g3,g4,fun k g hk=>?_⟩
   cases k with
   |zero=>
    simp only[xHl,xGu] at hk;subst hk
    rw[xIr] at h1
    rcases h1 with h1|h1
    ·exact .inl h1
    ·exact .inr (.inl h1)
   |succ k=>
    have:=g5 k g (by simpa using hk)
    rwa [show j+1+k=j+(k+1) by omega,tl] at this
  ·rename_i h1
   split at h
   case h_2=>cases h
   rename_i h2
   split at h
   case h_2=>cases h
   rename_i s1 h3
   obtain⟨ty,a,v,q1,q2⟩:=zSz h3
   obtain⟨id,off,rfl,rfl,hne,_⟩:=zJ4 q2
   obtain⟨g1,g2,g3,g4,g5⟩:=zDx h
   obtain⟨b,hb⟩:=Option.ne_none_iff_exists'.1 hne
   refine⟨(G1.read hb).trans g1,g2,g3,g4,fun k g hk=>?_⟩
   cases k with
   |zero=>
    simp only[xHl,xGu] at hk;subst hk
    refine .inr (.inr ⟨h2,ty,_,v,?_,s,_,rfl,q2⟩)
    cases sl with
    |nil=>simp at q1
    |cons y ys=>simpa using q1
   |succ k=>
    have:=g5 k g (by simpa using hk)
    rwa [show j+1+k=j+(k+1) by omega,tl] at this
theorem zHb {f:zDz}:∀ {done:List zDz} {j:Nat} {sl:List zKz} {s:St},zF8 f j done=true→zEa P f j done sl s=some s
 |[],_,_,_,_=>rfl
 |x::t,j,sl,s,h=>by
  simp only[zF8,xG0] at h
  simp only[zEa,h.1]
  exact zHb h.2
theorem zMp {i:Nat}:∀ {es:List Edge},zF7 i es=true→∀ e∈es,Region.binds .any e=true→e.on < i
 |[],_,e,he,_=>by cases he
 |x::t,h,e,he,hb=>by
  simp only[zF7,xG0] at h
  rcases xG6.1 he with rfl|he
  ·have h1:=h.1
   unfold Region.binds at hb
   cases hg:e.ground<;>rw[hg] at h1 hb<;>first|exact xHg h1|(simp at hb)
  ·exact zMp h.2 e he hb
theorem zKo {done:List zDz} {k:Nat}:∀ {es:List Edge},bit (zHl done es) k→∃ e∈es,Region.binds .any e=true∧(k=e.on∨∃ f,nth done e.on=some f∧bit f.before k)
  | [], h => absurd h zE4
  | x :: t, h => by
    rw[zHl] at h
    rcases zBl.1 h with h | h
    · refine ⟨x, by simp, ?_⟩
      cases hg : x.ground <;> rw [hg] at h <;> simp only at h <;> first
        | exact absurd h zE4
        | (refine ⟨by unfold Region.binds; rw [hg], ?_⟩
           rcases zBl.1 h with h | h
           · exact .inl (zD8.1 h)
           · right
             split at h
             · rename_i f hf; exact ⟨f, hf, h⟩
             · exact absurd h zE4)
    · obtain ⟨e, he, r⟩ := zKo h
      exact ⟨e, by simp [he], r⟩
theorem zLg {a b i:Nat}(h:Nat.beq (Nat.land a b) 0=true)(ha:bit a i)(hb:bit b i):False:=by
 have e:a &&& b=0:=xG3 h
 have:Nat.testBit (a &&& b) i=true:=by rw[Nat.testBit_and];unfold bit at ha hb;rw[ha,hb];rfl
 rw[e] at this
 simp at this
section
variable {call:Call} {all:List Oper} {fs:List zDz} {ss:List zKz} {L:Nat→zAv} {S X:Nat→St} {V:Nat→Value}
def zE6 (fs:List zDz)(i:Nat):zDz:=(fs[i]?).getD ⟨0,0,0,0,0⟩
theorem Trace.foot (T:Trace P call all all [] [] fs ss L S X V){i:Nat}{o:Oper}(ho:all[i]?=some o):
  (zE6 fs i).rt=zOv all o∧(zE6 fs i).wt=zQb o∧(zE6 fs i).rd=(X i).rd∧(zE6 fs i).wr=(X i).wr:=by
 obtain⟨f,f1,f2,_⟩:=T.ft i o ho
 unfold zE6
 rw[f1]
 subst f2
 exact⟨rfl,rfl,rfl,rfl⟩
theorem Trace.edge (T:Trace P call all all [] [] fs ss L S X V){i:Nat}{o:Oper}(ho:all[i]?=some o){e:Edge}(he:e∈o.after.toList)(hb:Region.binds .any e=true):e.on < i:=by
 have:=zMp (T.ed i o ho) e he hb
 simpa using this
theorem Trace.before (T:Trace P call all all [] [] fs ss L S X V){i:Nat}{o:Oper}(ho:all[i]?=some o){k:Nat}(h:bit (zE6 fs i).before k):
  ∃ e∈o.after.toList,Region.binds .any e=true∧(k=e.on∨bit (zE6 fs e.on).before k):=by
 obtain⟨f,f1,f2,_⟩:=T.ft i o ho
 have e1:zE6 fs i=f:=by unfold zE6;rw[f1];rfl
 rw[e1,f2] at h
 obtain⟨e,he,hb,r⟩:=zKo (show bit (zHl ([]++fs.take i) o.after.toList) k from h)
 refine⟨e,he,hb,?_⟩
 rcases r with r|⟨f,hf,hk⟩
 ·exact .inl r
 ·right
  rw[zE5,xH4,xIh] at hf
  split at hf
  ·unfold zE6;rw[hf];exact hk
  ·cases hf
def zS0 (P:Program)(ss:List zKz)(X:Nat→St)(i j:Nat):Prop:=∃ t a v,ss[i]?=some (some (t,a,v))∧∃ u u',u.h=(X j).h∧zD2 P u t a=some (v,u')
theorem Trace.apart (T:Trace P call all all [] [] fs ss L S X V){i j:Nat}(hij:i < j)(hj:j < all.length):
  bit (zE6 fs j).before i∨Det.apart (zE6 fs i) (zE6 fs j)=true∨(apartS (zE6 fs i) (zE6 fs j)=true∧zS0 P ss X i j):=by
 obtain⟨o,ho⟩:∃ o,all[j]?=some o:=⟨all[j],xGz hj⟩
 obtain⟨f,f1,_,f3⟩:=T.ft j o ho
 have hi:i < fs.length:=by rw[T.len];omega
 have:=(zDx f3).2.2.2.2 i fs[i] (by rw[xH4,xIh,xGq hij,xGz hi])
 have e1:zE6 fs j=f:=by unfold zE6;rw[f1];rfl
 have e2:zE6 fs i=fs[i]:=by unfold zE6;rw[xGz hi];rfl
 rw[e1,e2]
 rcases this with r|r|⟨r1,t,a,v,r2,r3⟩
 ·exact .inl (by simpa using r)
 ·exact .inr (.inl r)
 ·refine .inr (.inr ⟨r1,t,a,v,?_,r3⟩)
  rw[xH4,xIh,xGq hij] at r2
  exact r2
theorem yA7 {a b:zDz}(h:Det.apart a b=true):apartS a b=true:=by
 simp only[Det.apart,xG0] at h
 simp only[apartS,xG0]
 exact⟨h.1.1,h.1.2⟩
theorem Trace.apartS (T:Trace P call all all [] [] fs ss L S X V){i j:Nat}(hij:i < j)(hj:j < all.length):bit (zE6 fs j).before i∨Det.apartS (zE6 fs i) (zE6 fs j)=true:=by
 rcases T.apart hij hj with r|r|r
 ·exact .inl r
 ·exact .inr (yA7 r)
 ·exact .inr r.1
theorem Trace.clashT (T:Trace P call all all [] [] fs ss L S X V){i j t:Nat}(hij:i < j)(hj:j < all.length)
  (h:(bit (zE6 fs i).wt t∧(bit (zE6 fs j).rt t∨bit (zE6 fs j).wt t))∨(bit (zE6 fs j).wt t∧bit (zE6 fs i).rt t)):bit (zE6 fs j).before i:=by
 rcases T.apartS hij hj with r|r
 ·exact r
 ·simp only[Det.apartS,xG0] at r
  rcases h with⟨a,b⟩|⟨a,b⟩
  ·exact(zLg r.1.1 a (zBl.2 b)).elim
  ·exact(zLg r.1.2 a b).elim
theorem Trace.clashM (T:Trace P call all all [] [] fs ss L S X V){i j t:Nat}(hij:i < j)(hj:j < all.length)
  (h:bit (zE6 fs i).wr t∧(bit (zE6 fs j).rd t∨bit (zE6 fs j).wr t)):bit (zE6 fs j).before i:=by
 rcases T.apartS hij hj with r|r
 ·exact r
 ·simp only[Det.apartS,xG0] at r
  exact(zLg r.2 h.1 (zBl.2 h.2)).elim
theorem Trace.clashR (T:Trace P call all all [] [] fs ss L S X V){i j t:Nat}(hij:i < j)(hj:j < all.length)
  (h:bit (zE6 fs j).wr t∧bit (zE6 fs i).rd t):bit (zE6 fs j).before i∨zS0 P ss X i j:=by
 rcases T.apart hij hj with r|r|r
 ·exact .inl r
 ·simp only[Det.apart,xG0] at r
  exact(zLg r.2 h.1 h.2).elim
 ·exact .inr r.2
def Closed (all:List Oper)(E:Nat→Prop):Prop:=∀ j o e,E j→all[j]?=some o→e∈o.after.toList→Region.binds .any e=true→E e.on
theorem Trace.down (T:Trace P call all all [] [] fs ss L S X V){E:Nat→Prop}(hE:Closed all E)(hin:∀ j,E j→j < all.length):∀ j,E j→∀ k,bit (zE6 fs j).before k→E k:=by
 intro j
 induction j using Nat.strongRecOn with
 |_ j ih=>
  intro hj k hk
  obtain⟨o,ho⟩:∃ o,all[j]?=some o:=⟨all[j]'(hin j hj),xGz (hin j hj)⟩
  obtain⟨e,he,hb,r⟩:=T.before ho hk
  have h1:=hE j o e hj ho he hb
  rcases r with rfl|r
  ·exact h1
  ·exact ih e.on (T.edge ho he hb) h1 k r
theorem Trace.down1 (T:Trace P call all all [] [] fs ss L S X V){E:Nat→Prop}(hE:Closed all E)(hin:∀ j,E j→j < all.length){i:Nat}{o:Oper}(ho:all[i]?=some o)
  (hi:∀ e∈o.after.toList,Region.binds .any e=true→E e.on) (k:Nat) (hk:bit (zE6 fs i).before k):E k:=by
 obtain⟨e,he,hb,r⟩:=T.before ho hk
 rcases r with rfl|r
 ·exact hi e he hb
 ·exact T.down hE hin _ (hi e he hb) k r
end
end Go.Det
end
section
namespace Go.Det
variable {P:Program}
def WT (all:List Oper)(j t:Nat):Prop:=∃ o,all[j]?=some o∧o.dst=some t
def WM (m:Nat)(X:Nat→St)(j id:Nat):Prop:=j < m∧bit (X j).wr id
structure Ctx (P:Program) (w0:World) (n G:Nat) (call:Call) (ops:Array Oper) (fs:List zDz) (ss:List zKz) (L:Nat→zAv) (S X:Nat→St) (V:Nat→Value) (φ0:Ren):Prop where
 hcall:zH3 P w0 G call
 hT:∀ f args,Tr (call f args)
 T:Trace P call ops.toList ops.toList [] [] fs ss L S X V
 full:Full (S ops.toList.length).hi (S 0)
 fresh:∀ id,(S 0).next≤id→id < (S ops.toList.length).hi→φ0 id=none
 glob:Glob G φ0
 ok:∀ o∈ops.toList,zKn n G o=true
structure Done (w0:World) (n:Nat) (ops:Array Oper) (L:Nat→zAv) (S X:Nat→St) (V:Nat→Value) (φ0:Ren) (E:Nat→Prop) (φ:Ren) (h:Heap) (l:zAv) (a:Act) (w:World):Prop where
 hr:HR φ h w0 w
 fr:Fr n φ l a
 tm:∀ t,Last (WT ops.toList) (fun j _=>V j) (zD7 (L 0)) E t (zD7 l t)
 bl:∀ id,Last (WM ops.toList.length X) (fun j id=>(X j).h.get id) (S 0).h.get E id (h.get id)
 le:Le φ0 φ
 new:∀ id,φ id≠none→φ0 id≠none∨∃ j,E j∧(S j).next≤id∧id < (X j).next
 inside:∀ j,E j→j < ops.toList.length
 closed:Closed ops.toList E
theorem yI7 {all:List Oper}{j:Nat}(h:j < all.length):∃ o,all[j]?=some o:=⟨all[j],xGz h⟩
section
variable {w0:World} {n G:Nat} {call:Call} {ops:Array Oper} {fs:List zDz} {ss:List zKz} {L:Nat→zAv} {S X:Nat→St} {V:Nat→Value} {φ0:Ren}
theorem Ctx.g (C:Ctx P w0 n G call ops fs ss L S X V φ0){i:Nat}(hi:i < ops.toList.length):G1 (solo (S i)) (X i):=by
 obtain⟨o,ho⟩:=yI7 hi
 exact(zU0 C.hT ops.toList o (L i) _ _ _ (C.T.run i o ho)).1
theorem Ctx.g' (C:Ctx P w0 n G call ops fs ss L S X V φ0){i:Nat}(hi:i < ops.toList.length):G1 (S i) (S (i+1)):=by
 obtain⟨o,ho⟩:=yI7 hi
 obtain⟨f,_,_,f3⟩:=C.T.ft i o ho
 exact(C.g hi).solo.trans (zDx f3).1
theorem Ctx.snext (C:Ctx P w0 n G call ops fs ss L S X V φ0){i:Nat}(hi:i < ops.toList.length):(S (i+1)).next=(X i).hi:=by
 obtain⟨o,ho⟩:=yI7 hi
 obtain⟨f,_,_,f3⟩:=C.T.ft i o ho
 rw[(zDx f3).2.2.1];rfl
theorem Ctx.sheap (C:Ctx P w0 n G call ops fs ss L S X V φ0){i:Nat}(hi:i < ops.toList.length):(S (i+1)).h=(X i).h:=by
 obtain⟨o,ho⟩:=yI7 hi
 obtain⟨f,_,_,f3⟩:=C.T.ft i o ho
 rw[(zDx f3).2.1];rfl
theorem Ctx.gs (C:Ctx P w0 n G call ops fs ss L S X V φ0){i:Nat}:∀ {j:Nat},i≤j→j≤ops.toList.length→G1 (S i) (S j):=by
 intro j hij
 induction hij with
 |refl=>exact fun _=>G1.refl _
 |step hij ih=>exact fun hj=>(ih (Nat.le_of_succ_le hj)).trans (C.g' hj)
theorem Ctx.xnext (C:Ctx P w0 n G call ops fs ss L S X V φ0){i:Nat}(hi:i < ops.toList.length):(S i).next≤(X i).next∧(X i).next≤(X i).hi:=⟨(C.g hi).next,(C.g hi).inv (xGv _)⟩
theorem Ctx.xhi (C:Ctx P w0 n G call ops fs ss L S X V φ0){i j:Nat}(hij:i < j)(hj:j≤ops.toList.length):(X i).hi≤(S j).next:=by
 rw[← C.snext (xHd hij hj)]
 exact(C.gs hij hj).next
theorem Ctx.top (C:Ctx P w0 n G call ops fs ss L S X V φ0){i:Nat}(hi:i < ops.toList.length):(X i).hi≤(S ops.toList.length).hi:=
 xHf (C.xhi hi (xGv _)) ((C.gs (xIc _) (xGv _)).inv C.full.le)
theorem Ctx.fullAt (C:Ctx P w0 n G call ops fs ss L S X V φ0){i:Nat}(hi:i≤ops.toList.length):Full (S ops.toList.length).hi (S i):=C.full.step (C.gs (xIc _) hi)
theorem Ctx.lastT (C:Ctx P w0 n G call ops fs ss L S X V φ0)(t:Nat):∀ i,i≤ops.toList.length→Last (WT ops.toList) (fun j _=>V j) (zD7 (L 0)) (fun j=>j < i) t (zD7 (L i) t)
 |0,_=>.inr ⟨fun j hj=>absurd hj (Nat.not_lt_zero _),rfl⟩
 |i+1,hi=>by
  obtain⟨o,ho⟩:=yI7 hi
  have ih:=C.lastT t i (Nat.le_of_succ_le hi)
  rw[C.T.nl i o ho]
  have hiff:∀ j,(j=i∨j < i)↔j < i+1:=fun j=>by omega
  cases hd:o.dst with
  |none=>exact(ih.skip (i:=i) (fun⟨o',h1,h2⟩=>by rw[ho] at h1;cases h1;rw[hd] at h2;cases h2)).iff hiff
  |some d=>
   show Last _ _ _ _ t (zD7 (zZz (L i) d (V i)) t)
   rw[zF9]
   by_cases e:t=d
   ·rw[xGq e]
    exact(Last.add (val:=fun j _=>V j) (i:=i) ⟨o,ho,by rw[hd,e]⟩ (fun k hk _=>xH5 hk)).iff hiff
   ·rw[xGr e]
    exact(ih.skip (i:=i) (fun⟨o',h1,h2⟩=>by rw[ho] at h1;cases h1;rw[hd] at h2;cases h2;exact e rfl)).iff hiff
theorem Ctx.lastM (C:Ctx P w0 n G call ops fs ss L S X V φ0)(id:Nat):∀ i,i≤ops.toList.length→Last (WM ops.toList.length X) (fun j id=>(X j).h.get id) (S 0).h.get (fun j=>j < i) id ((S i).h.get id)
 |0,_=>.inr ⟨fun j hj=>absurd hj (Nat.not_lt_zero _),rfl⟩
 |i+1,hi=>by
  have ih:=C.lastM id i (Nat.le_of_succ_le hi)
  rw[C.sheap hi]
  have hiff:∀ j,(j=i∨j < i)↔j < i+1:=fun j=>by omega
  by_cases hb:bit (X i).wr id
  ·exact(Last.add (val:=fun j id=>(X j).h.get id) (i:=i) ⟨hi,hb⟩ (fun k hk _=>xH5 hk)).iff hiff
  ·have e:(X i).h.get id=(S i).h.get id:=(C.g hi).frame id hb
   rw[e]
   exact(ih.skip (i:=i) (fun h=>hb h.2)).iff hiff
variable {E:Nat→Prop} {φ:Ren} {h:Heap} {l:zAv} {a:Act} {w:World}
theorem WT.bit (C:Ctx P w0 n G call ops fs ss L S X V φ0){j t:Nat}(hw:WT ops.toList j t):j < ops.toList.length∧bit (zE6 fs j).wt t:=by
 obtain⟨o,h1,h2⟩:=hw
 refine⟨(xHu.1 h1).1,?_⟩
 rw[(C.T.foot h1).2.1]
 unfold zQb
 rw[h2]
 exact zD8.2 rfl
theorem WM.bit (C:Ctx P w0 n G call ops fs ss L S X V φ0){j id:Nat}(hw:WM ops.toList.length X j id):Det.bit (zE6 fs j).wr id:=by
 obtain⟨o,ho⟩:=yI7 hw.1
 rw[(C.T.foot ho).2.2.2];exact hw.2
structure Ready (ops:Array Oper) (E:Nat→Prop) (i:Nat) (o:Oper):Prop where
 op:ops.toList[i]?=some o
 new:¬ E i
 edges:∀ e∈o.after.toList,Region.binds .any e=true→E e.on
theorem Ready.lt {i:Nat}{o:Oper}(R:Ready ops E i o):i < ops.toList.length:=(xHu.1 R.op).1
theorem yI8 (C:Ctx P w0 n G call ops fs ss L S X V φ0)(D:Done w0 n ops L S X V φ0 E φ h l a w){i:Nat}{o:Oper}(R:Ready ops E i o){t:Nat}(ht:bit (zE6 fs i).rt t∨bit (zE6 fs i).wt t)
  (j:Nat) (hj:WT ops.toList j t):E j↔j < i:=by
 obtain⟨jm,jb⟩:=WT.bit C hj
 rcases Nat.lt_trichotomy j i with q|q|q
 ·exact⟨fun _=>q,fun _=>C.T.down1 D.closed D.inside R.op R.edges j (C.T.clashT q R.lt (.inl ⟨jb,ht⟩))⟩
 ·exact⟨fun e=>absurd (q ▸ e) R.new,fun e=>absurd e (by omega)⟩
 ·refine⟨fun e=>absurd (C.T.down D.closed D.inside j e i (C.T.clashT (t:=t) q jm ?_)) R.new,fun e=>absurd e (by omega)⟩
  rcases ht with ht|ht
  ·exact .inr ⟨jb,ht⟩
  ·exact .inl ⟨ht,.inr jb⟩
def yUo (P:Program)(ops:Array Oper)(ss:List zKz)(X:Nat→St)(i:Nat):Prop:=∀ j,i < j→j < ops.toList.length→¬ zS0 P ss X i j
theorem yA8 (C:Ctx P w0 n G call ops fs ss L S X V φ0)(D:Done w0 n ops L S X V φ0 E φ h l a w){i:Nat}{o:Oper}(R:Ready ops E i o){id:Nat}(ht:bit (X i).rd id∨bit (X i).wr id)
  (j:Nat) (hj:WM ops.toList.length X j id) (q:j < i):E j:=by
 have jb:=WM.bit C hj
 have ht:bit (zE6 fs i).rd id∨bit (zE6 fs i).wr id:=by rw[(C.T.foot R.op).2.2.1,(C.T.foot R.op).2.2.2];exact ht
 exact C.T.down1 D.closed D.inside R.op R.edges j (C.T.clashM q R.lt ⟨jb,ht⟩)
theorem yI9 (C:Ctx P w0 n G call ops fs ss L S X V φ0)(D:Done w0 n ops L S X V φ0 E φ h l a w){i:Nat}{o:Oper}(R:Ready ops E i o){id:Nat}(ht:(yUo P ops ss X i∧bit (X i).rd id)∨bit (X i).wr id)
  (j:Nat) (hj:WM ops.toList.length X j id):E j↔j < i:=by
 have jb:=WM.bit C hj
 rcases Nat.lt_trichotomy j i with q|q|q
 ·exact⟨fun _=>q,fun _=>yA8 C D R (ht.imp And.right (fun q=>q)) j hj q⟩
 ·exact⟨fun e=>absurd (q ▸ e) R.new,fun e=>absurd e (by omega)⟩
 ·refine⟨fun e=>absurd (C.T.down D.closed D.inside j e i ?_) R.new,fun e=>absurd e (by omega)⟩
  rcases ht with⟨hh,ht⟩|ht
  ·rcases C.T.clashR (t:=id) q hj.1 ⟨jb,by rw[(C.T.foot R.op).2.2.1];exact ht⟩ with r|r
   ·exact r
   ·exact absurd r (hh j q hj.1)
  ·exact C.T.clashM (t:=id) q hj.1 ⟨by rw[(C.T.foot R.op).2.2.2];exact ht,.inr jb⟩
theorem yUp (C:Ctx P w0 n G call ops fs ss L S X V φ0)(D:Done w0 n ops L S X V φ0 E φ h l a w){i:Nat}{o:Oper}(R:Ready ops E i o)(t:Nat)(ht:bit (zOv ops.toList o) t):zD7 l t=zD7 (L i) t:=
 (D.tm t).unique (C.lastT t i (xH5 R.lt)) (yI8 C D R (.inl (by rw[(C.T.foot R.op).1];exact ht)))
theorem yRj (C:Ctx P w0 n G call ops fs ss L S X V φ0)(D:Done w0 n ops L S X V φ0 E φ h l a w){i:Nat}{o:Oper}(R:Ready ops E i o)(id:Nat)(ht:(yUo P ops ss X i∧bit (X i).rd id)∨bit (X i).wr id):h.get id=(S i).h.get id:=
 (D.bl id).unique (C.lastM id i (xH5 R.lt)) (yI9 C D R ht)
theorem yRk (C:Ctx P w0 n G call ops fs ss L S X V φ0)(D:Done w0 n ops L S X V φ0 E φ h l a w){i:Nat}{o:Oper}(R:Ready ops E i o){k:Nat}(_:i < k)(_:k < ops.toList.length)(hs:zS0 P ss X i k):
  ∀ u:St,u.h=h→∃ id,yGr P call ops.toList o (L i) u=some (V i,u.read id)∧X i=(solo (S i)).read id:=by
 obtain⟨t,ad,v,h1,u0,u0',h2,h3⟩:=hs
 have h4:=C.T.so i o R.op
 rw[h1] at h4
 have h4:=xHc h4
 unfold zKj at h4
 split at h4
 case h_2=>cases h4
 rename_i t' a' hop
 split at h4
 case h_2=>cases h4
 rename_i b hw
 split at h4
 case h_2=>cases h4
 cases h4
 have hro:∀ u,yGr P call ops.toList o (L i) u=zD2 P u t (evalO (L i) a'):=by
  intro u
  unfold yGr zC9
  simp only[hw]
  unfold opD
  rw[hop]
  rfl
 have hrun:=C.T.run i o R.op
 rw[hro] at hrun
 obtain⟨id,off,e1,e2,e3,e4⟩:=zJ4 hrun
 have hrd:bit (X i).rd id:=by rw[e2];exact zBx
 intro u hu
 refine⟨id,?_,e2⟩
 rw[hro]
 have key:h.get id=(S i).h.get id∨∃ j,i < j∧j < ops.toList.length∧zS0 P ss X i j∧h.get id=(X j).h.get id:=by
  rcases D.bl id with⟨j,p1,p2,p3,p4⟩|⟨p1,p4⟩
  ·rcases Nat.lt_trichotomy j i with q|q|q
   ·left
    rw[p4]
    refine Last.unique (E:=E) (E':=fun j=>j < i) (.inl ⟨j,p1,p2,p3,rfl⟩:Last (WM ops.toList.length X) (fun j id=>(X j).h.get id) (S 0).h.get E id ((X j).h.get id)) ?_ ?_
    ·exact C.lastM id i (xH5 R.lt)
    ·exact fun j' hj'=>⟨fun e=>xH7 (p3 j' e hj') q,fun e=>yA8 C D R (.inl hrd) j' hj' e⟩
   ·exact absurd (q ▸ p1) R.new
   ·right
    have hb:¬ bit (zE6 fs j).before i:=fun hb=>R.new (C.T.down D.closed D.inside j p1 i hb)
    refine⟨j,q,p2.1,?_,p4⟩
    rcases C.T.clashR (t:=id) q p2.1 ⟨WM.bit C p2,by rw[(C.T.foot R.op).2.2.1];exact hrd⟩ with r|r
    ·exact absurd r hb
    ·exact r
  ·left
   rw[p4]
   refine Last.unique (E:=E) (E':=fun j=>j < i) (.inr ⟨p1,rfl⟩:Last (WM ops.toList.length X) (fun j id=>(X j).h.get id) (S 0).h.get E id ((S 0).h.get id)) (C.lastM id i (xH5 R.lt)) ?_
   exact fun j' hj'=>⟨fun e=>absurd hj' (p1 j' e),fun e=>yA8 C D R (.inl hrd) j' hj' e⟩
 rcases key with q|⟨j,q1,q2,⟨t2,a2,v2,k1,u2,u2',k2,k3⟩,q3⟩
 ·exact e4 u (by rw[hu];exact q)
 ·rw[h1] at k1;cases k1
  obtain⟨id2,off2,f1,_,_,f4⟩:=zJ4 k3
  rw[e1] at f1;cases f1
  exact f4 u (by rw[hu,q3,k2])
theorem Ctx.chain (C:Ctx P w0 n G call ops fs ss L S X V φ0){i id:Nat}(hid:id < (X i).hi):∀ {j:Nat},i+1≤j→j≤ops.toList.length→(S j).h.get id≠none→(S (i+1)).h.get id≠none:=by
 intro j hij
 induction hij with
 |refl=>exact fun _ h=>h
 |@step k hij ih=>
  intro hj hn
  rcases(C.g' hj).dom id hn with r|r
  ·exact ih (Nat.le_of_succ_le hj) r
  ·exact absurd hid (xH2.2 (xHf (C.xhi hij (Nat.le_of_succ_le hj)) r.1))
theorem Ctx.zero (C:Ctx P w0 n G call ops fs ss L S X V φ0){i:Nat}(hi:i≤ops.toList.length):(S 0).next≤(S i).next:=(C.gs (xIc _) hi).next
theorem yJa (C:Ctx P w0 n G call ops fs ss L S X V φ0)(D:Done w0 n ops L S X V φ0 E φ h l a w){i:Nat}{o:Oper}(R:Ready ops E i o)(id:Nat)(h1:(S i).next≤id)(h2:id < (X i).hi):h.get id=none:=by
 have ht:=xHd h2 (C.top R.lt)
 have e:h.get id=(S 0).h.get id:=(D.bl id).unique (E':=fun _=>False) (.inr ⟨fun _=>False.elim,rfl⟩) fun j hj=>by
  refine⟨fun hE=>?_,False.elim⟩
  have hne:j≠i:=fun q=>R.new (q ▸ hE)
  have gj:=C.g hj.1
  have hx:=C.xnext hj.1
  rcases gj.oldw id hj.2 with r|⟨r1,r2⟩|r
  ·exact zE4 r
  ·have hlt:id < (S j).next:=by
    rcases xHr id (S j).next with q|q
    ·exact q
    ·exact absurd ((C.fullAt (xH5 hj.1)).get id q ht) r2
   have hij:i < j:=by
    rcases xHr i j with q|q
    ·exact q
    ·have:=(C.gs q (xH5 R.lt)).next
     omega
   have hn:=C.chain h2 hij (xH5 hj.1) r2
   rw[C.sheap R.lt] at hn
   have hw:bit (X i).wr id:=Classical.byContradiction fun hb=>hn (((C.g R.lt).frame id hb).trans ((C.fullAt (xH5 R.lt)).get id h1 ht))
   obtain⟨oj,hoj⟩:=yI7 hj.1
   have hb:=C.T.clashM (t:=id) hij hj.1 ⟨by rw[(C.T.foot R.op).2.2.2];exact hw,.inl (by rw[(C.T.foot hoj).2.2.1];exact r1)⟩
   exact R.new (C.T.down D.closed D.inside j hE i hb)
  ·have r1:(S j).next≤id:=r.1
   rcases Nat.lt_or_gt_of_ne hne with q|q
   ·have:=C.xhi q (xH5 R.lt)
    omega
   ·have:=C.xhi q (xH5 hj.1)
    omega
 rw[e]
 exact C.full.get id (xHf (C.zero (xH5 R.lt)) h1) ht
theorem yKt (C:Ctx P w0 n G call ops fs ss L S X V φ0)(D:Done w0 n ops L S X V φ0 E φ h l a w){i:Nat}{o:Oper}(R:Ready ops E i o)(id:Nat)(h1:(S i).next≤id)(h2:id < (X i).hi):φ id=none:=by
 cases hφ:φ id with
 |none=>rfl
 |some y=>
  exfalso
  rcases D.new id (by rw[hφ];simp) with r|⟨j,hE,r1,r2⟩
  ·exact r (C.fresh id (xHf (C.zero (xH5 R.lt)) h1) (xHd h2 (C.top R.lt)))
  ·have hne:j≠i:=fun q=>R.new (q ▸ hE)
   have hjm:=D.inside j hE
   have hx:=C.xnext hjm
   rcases Nat.lt_or_gt_of_ne hne with q|q
   ·have:=C.xhi q (xH5 R.lt)
    omega
   ·have:=C.xhi q (xH5 hjm)
    omega
def mix (h:Heap)(s:St):St:={ h:=h,next:=s.next,hi:=s.next,rd:=0,wr:=0 }
theorem Done.next (C:Ctx P w0 n G call ops fs ss L S X V φ0)(D:Done w0 n ops L S X V φ0 E φ h l a w){i:Nat}{o:Oper}(R:Ready ops E i o){t':St}{φ':Ren}{a':Act}{w':World}
  (g:G1 (mix h (S i)) t') (p:PW (solo (S i)) (mix h (S i)) (X i) t') (hx:Ext φ φ' (S i).next t'.next) (hr:HR φ' t'.h w0 w') (hf:Fr n φ' (zJx l o.dst (V i)) a'):
  Done w0 n ops L S X V φ0 (fun j=>j=i∨E j) φ' t'.h (zJx l o.dst (V i)) a' w':=by
 refine⟨hr,hf,fun t=>?_,fun id=>?_,D.le.trans hx.le,fun id hid=>?_,fun j hj=>?_,fun j q e hj hq he hb=>?_⟩
 ·cases hd:o.dst with
  |none=>exact(D.tm t).skip (i:=i) (fun⟨o',h1,h2⟩=>by rw[R.op] at h1;cases h1;rw[hd] at h2;cases h2)
  |some d=>
   show Last _ _ _ _ t (zD7 (zZz l d (V i)) t)
   rw[zF9]
   by_cases e:t=d
   ·rw[xGq e]
    have hwt:WT ops.toList i t:=⟨o,R.op,by rw[hd,e]⟩
    exact Last.add (val:=fun j _=>V j) (i:=i) hwt (fun k hk hkw=>xH5 ((yI8 C D R (.inr (WT.bit C hwt).2) k hkw).1 hk))
   ·rw[xGr e]
    exact(D.tm t).skip (i:=i) (fun⟨o',h1,h2⟩=>by rw[R.op] at h1;cases h1;rw[hd] at h2;cases h2;exact e rfl)
 ·by_cases hb:bit (X i).wr id
  ·have e:t'.h.get id=(X i).h.get id:=by
    rcases p.pt id with q|⟨q1,q2⟩
    ·exact q
    ·rw[q1,q2];exact yRj C D R id (.inr hb)
   rw[e]
   exact Last.add (val:=fun j id=>(X j).h.get id) (i:=i) ⟨R.lt,hb⟩ (fun k hk hkw=>xH5 ((yI9 C D R (.inr hb) k hkw).1 hk))
  ·have e:t'.h.get id=h.get id:=g.frame id (by rw[p.wr];exact hb)
   rw[e]
   exact(D.bl id).skip (i:=i) (fun q=>hb q.2)
 ·rcases hx.new id hid with r|r
  ·rcases D.new id r with r|⟨j,r1,r2⟩
   ·exact .inl r
   ·exact .inr ⟨j,.inr r1,r2⟩
  ·exact .inr ⟨i,.inl rfl,by rw[p.next] at r;exact r⟩
 ·rcases hj with rfl|hj
  ·exact R.lt
  ·exact D.inside j hj
 ·rcases hj with rfl|hj
  ·rw[R.op] at hq;cases hq;exact .inr (R.edges e he hb)
  ·exact .inr (D.closed j q e hj hq he hb)
theorem Done.step (C:Ctx P w0 n G call ops fs ss L S X V φ0)(D:Done w0 n ops L S X V φ0 E φ h l a w){i:Nat}{o:Oper}(R:Ready ops E i o){Q:Exit→Act→World→Prop}{K:Act→World→Prop}
  (k:∀ φ' h' l' a' w',Done w0 n ops L S X V φ0 (fun j=>j=i∨E j) φ' h' l' a' w'→K a' w'):wpOp P ops Q i K a w:=by
 have hop:ops[i]?=some o:=by rw[← xHp];exact R.op
 have hok:=C.ok o (xI2 R.op)
 unfold zKn at hok
 rw[xG0] at hok
 obtain⟨hwc,hrc⟩:=zQp (P:=P) (call:=call) (all:=ops.toList) (o:=o) (l:=l) (l':=L i) (yUp C D R)
 have hrun:=C.T.run i o R.op
 have htr:=zU0 C.hT ops.toList o (L i) _ _ _ hrun
 obtain⟨t',ht',p⟩:∃ t',yGr P call ops.toList o (L i) (mix h (S i))=some (V i,t')∧PW (solo (S i)) (mix h (S i)) (X i) t':=by
  by_cases hh:yUo P ops ss X i
  ·exact htr.2 (mix h (S i)) ⟨xGv _,fun id q1 q2=>(C.fullAt (xH5 R.lt)).get id q1 (xHd q2 (C.top R.lt))⟩ ⟨rfl,rfl,rfl,rfl⟩
    (fun id q=>yRj C D R id (.inl ⟨hh,q⟩)) (fun id q1 q2=>yJa C D R id q1 q2)
  ·obtain⟨k,hk⟩:=Classical.not_forall.1 hh
   obtain⟨k1,hk⟩:=Classical.not_forall.1 hk
   obtain⟨k2,hk⟩:=Classical.not_forall.1 hk
   obtain⟨id,e1,e2⟩:=yRk C D R k1 k2 (Classical.not_not.1 hk) (mix h (S i)) rfl
   refine⟨_,e1,?_⟩
   rw[e2]
   exact PW.read (s:=solo (S i)) (t:=mix h (S i)) ⟨rfl,rfl,rfl,rfl⟩ id
 have g:=(zU0 C.hT ops.toList o (L i) _ _ _ ht').1
 have ht2:yGr P call ops.toList o l (mix h (S i))=some (V i,t'):=by unfold yGr at ht' ⊢;rw[hrc];exact ht'
 unfold wpOp
 rw[hop]
 simp only
 unfold yGr zC9 at ht2
 cases hw:zBw ops.toList l o with
 |none=>simp[hw] at ht2
 |some b=>
  simp only[hw] at ht2
  have hwant:=zSx D.fr hw
  cases b with
  |false=>
   simp only[xGu,xG5] at ht2
   obtain⟨e1,e2⟩:=ht2
   rw[xGr (by rw[hwant];simp)]
   refine k φ t'.h (zJx l o.dst (V i)) _ _ (D.next C R g p (Ext.refl _ _ _) ?_ ?_)
   ·rw[← e2];exact D.hr
   ·rw[← e1];exact D.fr.put hok.2 .skip
  |true=>
   simp only at ht2
   rw[xGq hwant]
   left
   have hgv:=yI5 (ρ:=a.eval) C.hcall C.hT ht2 D.hr (C.glob.mono D.le) (fun x hx=>zLf (C.glob.mono D.le) D.fr (zFj hok.1 x hx))
    (fun id q1 q2=>yKt C D R id q1 (by rw[p.hi] at q2;exact q2)) ⟨xGv _,fun id q1 q2=>yJa C D R id q1 (by rw[p.hi] at q2;exact q2)⟩
   refine hgv.wp fun φ' v' w' e hv H'=>?_
   exact k φ' t'.h (zJx l o.dst (V i)) _ _ (D.next C R g p e H' ((D.fr.mono e.le).put hok.2 hv))
end
end Go.Det
end
section
namespace Go.Det
variable {P:Program}
def cnt (listed:Array Bool):Nat→Nat
 |0=>0
 |k+1=>cnt listed k+(if listed.getD k false=true then 1 else 0)
theorem yA9 (listed:Array Bool):∀ k,cnt listed k≤k
 |0=>xGv _
 |k+1=>by have:=yA9 listed k;unfold cnt;split<;>omega
theorem yBa {listed:Array Bool}:∀ {k:Nat},cnt listed k=k→∀ j,j < k→listed.getD j false=true
 |0,_,j,hj=>by omega
 |k+1,h,j,hj=>by
  have h1:=yA9 listed k
  unfold cnt at h
  split at h
  ·rename_i hk
   by_cases e:j=k
   ·rw[e];exact hk
   ·exact yBa (k:=k) (by omega) j (by omega)
  ·omega
theorem zWq (listed:Array Bool)(i j:Nat)(hi:i < listed.size):(listed.setIfInBounds i true).getD j false=if j=i then true else listed.getD j false:=by
 by_cases e:j=i
 ·subst e;simp[xHb,hi]
 ·simp[xHb,xI7 (Ne.symm e),e]
theorem yBb {listed:Array Bool}{i:Nat}(hi:i < listed.size)(hn:listed.getD i false=false):∀ k,cnt (listed.setIfInBounds i true) k=cnt listed k+(if i < k then 1 else 0)
 |0=>by simp[cnt]
 |k+1=>by
  unfold cnt
  rw[yBb hi hn k,zWq _ _ _ hi]
  by_cases e:k=i
  ·subst e;rw[hn];simp
  ·rw[xGr e]
   by_cases q:i < k
   ·have q':i < k+1:=by omega
    simp only[q,q',if_true];omega
   ·have q':¬ i < k+1:=by omega
    simp only[q,q',if_false];omega
section
variable {w0:World} {n G:Nat} {call:Call} {ops:Array Oper} {fs:List zDz} {ss:List zKz} {L:Nat→zAv} {S X:Nat→St} {V:Nat→Value} {φ0:Ren}
theorem zS1 {listed:Array Bool}{i:Nat}(h:i∈Region.ready .any ops listed)(hs:listed.size=ops.size):∃ o,Ready ops (fun j=>listed.getD j false=true) i o:=by
 unfold Region.ready at h
 rw[List.mem_filter,List.mem_range] at h
 obtain⟨hi,h⟩:=h
 rw[xG0] at h
 obtain⟨h1,h2⟩:=h
 have ho:ops[i]?=some ops[i]:=xIf hi
 refine⟨ops[i],by rw[xHp];exact ho,?_,?_⟩
 ·intro hl
  have e:listed.getD i true=listed.getD i false:=by simp[xHb,hs ▸ hi]
  rw[e,hl] at h1
  simp at h1
 ·intro e he hb
  rw[ho] at h2
  simp only[Option.map_some,Option.getD_some,Array.all_eq_true'] at h2
  have:=h2 e (by simpa using he)
  rw[hb] at this
  simpa using this
theorem yGt {listed:Array Bool}{i:Nat}{o:Oper}(R:Ready ops (fun j=>listed.getD j false=true) i o)(hs:listed.size=ops.size):i∈Region.ready .any ops listed:=by
 have hi:i < ops.size:=by have:=R.lt;simpa using this
 unfold Region.ready
 rw[List.mem_filter,List.mem_range]
 refine⟨hi,?_⟩
 have ho:ops[i]?=some o:=by rw[← xHp];exact R.op
 rw[xG0]
 refine⟨?_,?_⟩
 ·have e:listed.getD i true=listed.getD i false:=by simp[xHb,hs ▸ hi]
  rw[e]
  cases hl:listed.getD i false
  ·rfl
  ·exact absurd hl R.new
 ·rw[ho]
  simp only[Option.map_some,Option.getD_some,Array.all_eq_true']
  intro e he
  cases hb:Region.binds .any e with
  |false=>rfl
  |true=>rw[R.edges e (by simpa using he) hb];rfl
theorem zY7 (C:Ctx P w0 n G call ops fs ss L S X V φ0){listed:Array Bool}(hs:listed.size=ops.size)(hr:Region.ready .any ops listed=[]):∀ j,j < ops.toList.length→listed.getD j false=true:=by
 intro j
 induction j using Nat.strongRecOn with
 |_ j ih=>
  intro hj
  obtain⟨o,ho⟩:=yI7 hj
  refine Classical.byContradiction fun hn=>?_
  have:=yGt (ops:=ops) (i:=j) (o:=o) ⟨ho,hn,fun e he hb=>ih e.on (C.T.edge ho he hb) (Nat.lt_trans (C.T.edge ho he hb) hj)⟩ hs
  rw[hr] at this
  cases this
theorem Ctx.final (C:Ctx P w0 n G call ops fs ss L S X V φ0){E:Nat→Prop}{φ:Ren}{h:Heap}{l:zAv}{a:Act}{w:World}(D:Done w0 n ops L S X V φ0 E φ h l a w)
  (hE:∀ j,j < ops.toList.length→E j):Ext φ0 φ (S 0).next (S ops.toList.length).next∧HR φ (S ops.toList.length).h w0 w∧Fr n φ (L ops.toList.length) a:=by
 have hiff:∀ j,E j↔j < ops.toList.length:=fun j=>⟨D.inside j,hE j⟩
 refine⟨⟨D.le,fun id hid=>?_⟩,D.hr.same (fun id cs t ro hg=>?_) (fun id es hg=>?_),⟨D.fr.size,fun t=>?_,D.fr.defers⟩⟩
 ·rcases D.new id hid with r|⟨j,r1,r2,r3⟩
  ·exact .inl r
  ·right
   have hj:=D.inside j r1
   have:=C.xnext hj
   have:=C.xhi hj (xGv _)
   have:=C.zero (xH5 hj)
   omega
 ·rw[(D.bl id).unique (C.lastM id _ (xGv _)) fun j _=>hiff j];exact hg
 ·rw[(D.bl id).unique (C.lastM id _ (xGv _)) fun j _=>hiff j];exact hg
 ·rw[← (D.tm t).unique (C.lastT t _ (xGv _)) fun j _=>hiff j];exact D.fr.tmp t
theorem zWr (C:Ctx P w0 n G call ops fs ss L S X V φ0){Q:Exit→Act→World→Prop}
  (hQ:∀ φ a w,Ext φ0 φ (S 0).next (S ops.toList.length).next→HR φ (S ops.toList.length).h w0 w→Fr n φ (L ops.toList.length) a→Q .normal a w):
  ∀ (fuel:Nat) (listed:Array Bool) (φ:Ren) (h:Heap) (l:zAv) (a:Act) (w:World),listed.size=ops.size→ops.size≤cnt listed ops.size+fuel→
   Done w0 n ops L S X V φ0 (fun j=>listed.getD j false=true) φ h l a w→wpAny P .any ops Q fuel listed a w
 |0,listed,φ,h,l,a,w,hs,hc,D=>by
  have hall:∀ j,j < ops.toList.length→listed.getD j false=true:=fun j hj=>yBa (k:=ops.size) (by have:=yA9 listed ops.size;omega) j (by simpa using hj)
  refine⟨?_,?_⟩
  ·cases hr:Region.ready .any ops listed with
   |nil=>rfl
   |cons i t=>
    obtain⟨o,R⟩:=zS1 (ops:=ops) (i:=i) (listed:=listed) (by rw[hr];simp) hs
    exact absurd (hall i R.lt) R.new
  ·obtain⟨e1,e2,e3⟩:=C.final D hall
   exact hQ φ a w e1 e2 e3
 |fuel+1,listed,φ,h,l,a,w,hs,hc,D=>by
  refine⟨fun hr=>?_,fun i hi=>?_⟩
  ·obtain⟨e1,e2,e3⟩:=C.final D (zY7 C hs hr)
   exact hQ φ a w e1 e2 e3
  ·obtain⟨o,R⟩:=zS1 hi hs
   have him:i < ops.size:=by have:=R.lt;simpa using this
   have hil:i < listed.size:=hs ▸ him
   refine Done.step C D R fun φ' h' l' a' w' D'=>?_
   refine zWr C hQ fuel _ φ' h' l' a' w' (by simpa using hs) ?_ ?_
   ·have hn:listed.getD i false=false:=by
     cases hl:listed.getD i false
     ·rfl
     ·exact absurd hl R.new
    rw[yBb hil hn,xGq him];omega
   ·have e:(fun j=>j=i∨listed.getD j false=true)=(fun j=>(listed.setIfInBounds i true).getD j false=true):=by
     funext j
     rw[zWq _ _ _ hil]
     by_cases q:j=i
     ·simp[q]
     ·simp[q]
    rw[← e];exact D'
theorem yGu (hcall:zH3 P w0 G call)(hT:∀ f args,Tr (call f args))(hm:P.follows .mixedOrders=true){ops:Array Oper}(hok:∀ o∈ops.toList,zKn n G o=true){Q:Exit→Act→World→Prop}
  {id:Nat} {l:zAv} {s:St} {l':zAv} {s':St} {φ:Ren} {a:Act} {w:World} (h:zK0 P call ops.toList ops.toList [] [] l s=some (l',s')) (H:HR φ s.h w0 w) (hG:Glob G φ) (hF:Fr n φ l a)
  (hf:∀ id,s.next≤id→id < s'.hi→φ id=none) (hi:Full s'.hi s)
  (k:∀ φ' a' w',Ext φ φ' s.next s'.next→HR φ' s'.h w0 w'→Fr n φ' l' a'→Q .normal a' w'):(Code.region id ops true).wp P Q a w:=by
 obtain⟨fs,ss,L,S,X,V,T,e1,e2,e3,e4⟩:=zMo _ _ _ _ _ _ _ h
 subst e1;subst e2;subst e3;subst e4
 have C:Ctx P w0 n G call ops fs ss L S X V φ:=⟨hcall,hT,T,hi,hf,hG,hok⟩
 refine wp_region_any hm (zWr C k ops.size _ φ (S 0).h (L 0) a _ (by simp) (by omega) ?_)
 have hno:∀ j,¬ ((Array.replicate ops.size false).getD j false=true):=by
  intro j
  by_cases hj:j < ops.size<;>simp[xHb,hj]
 exact⟨H.drawn _,hF,fun t=>.inr ⟨fun j hj=>absurd hj (hno j),rfl⟩,fun id=>.inr ⟨fun j hj=>absurd hj (hno j),rfl⟩,Le.refl _,fun id h=>.inl h,fun j hj=>absurd hj (hno j),fun j _ _ hj=>absurd hj (hno j)⟩
end
end Go.Det
end
section
namespace Go.Det
variable {P:Program}
def zQq (n G:Nat):List Oper→Bool
 |[]=>true
 |o::t=>zKn n G o&&zQq n G t
theorem zMq {n G:Nat}:∀ {l:List Oper},zQq n G l=true→∀ o∈l,zKn n G o=true
 |[],_,o,ho=>by cases ho
 |x::t,h,o,ho=>by
  simp only[zQq,xG0] at h
  rcases xG6.1 ho with rfl|ho
  ·exact h.1
  ·exact zMq h.2 o ho
def zE7 (n G:Nat):Code→Bool
 |.region _ ops _=>zQq n G ops.toList
 |.seq a b=>zE7 n G a&&zE7 n G b
 |.cond c a b=>zI5 G c&&(zE7 n G a&&zE7 n G b)
 |.block _ a=>zE7 n G a
 |.loop a=>zE7 n G a
 |_=>true
def Ex.out:Ex→Exit
 |.normal=>.normal
 |.exit id=>.exit id
 |.ret=>.ret
theorem yBc {c:Code}{Q:Exit→Act→World→Prop}(R:Nat→Act→World→Prop)(h0:∀ a w,R 0 a w→False)
  (hs:∀ k a w,R (k+1) a w→c.wp P (Exit.then (R k) Q) a w) {k:Nat} {a:Act} {w:World} (h:R k a w):(Code.loop c).wp P Q a w:=by
 intro b t cs
 have key:∀ k a w,R k a w→∃ e a' w',Q e a' w'∧Arrives P (lone (b.at a (.code c::.inLoop c::t)) cs w) b t cs e a' w':=by
  intro k
  induction k with
  |zero=>exact fun a w h=>(h0 a w h).elim
  |succ k ih=>
   intro a w h
   obtain⟨e,a₁,w₁,hq,harr⟩:=hs k a w h b (.inLoop c::t) cs
   cases e with
   |normal=>
    obtain⟨e₂,a₂,w₂,hq₂,harr₂⟩:=ih a₁ w₁ hq
    exact⟨e₂,a₂,w₂,hq₂,.of_steps (Steps.trans harr (.one step_inLoop)) harr₂⟩
   |exit id=>exact⟨_,a₁,w₁,hq,.pass (x:=.inLoop c) rfl (fun _ _=>.inl (by simp)) harr⟩
   |goto l=>exact⟨_,a₁,w₁,hq,.pass (x:=.inLoop c) rfl (fun _ _=>.inl (by simp)) harr⟩
   |ret=>exact⟨_,a₁,w₁,hq,.pass (x:=.inLoop c) rfl (fun _ _=>.inl (by simp)) harr⟩
   |panic ch=>exact⟨_,a₁,w₁,hq,.pass (x:=.inLoop c) rfl (fun _ _=>.inl (by simp)) harr⟩
   |outgrown=>exact⟨_,a₁,w₁,hq,.pass (x:=.inLoop c) rfl (fun _ _=>.inl (by simp)) harr⟩
 obtain⟨e,a',w',hq,harr⟩:=key k a w h
 exact⟨e,a',w',hq,.of_steps (.one step_loop) harr⟩
section
variable {w0:World} {n G:Nat}
structure Pre (w0:World) (n G:Nat) (l:zAv) (s s':St) (φ:Ren) (a:Act) (w:World):Prop where
 hr:HR φ s.h w0 w
 glob:Glob G φ
 fr:Fr n φ l a
 fresh:∀ id,s.next≤id→id < s'.hi→φ id=none
 full:Full s'.hi s
theorem Pre.sub {l:zAv}{s s' s1:St}{φ:Ren}{a:Act}{w:World}(p:Pre w0 n G l s s' φ a w)(h:s1.hi≤s'.hi):Pre w0 n G l s s1 φ a w:=
 ⟨p.hr,p.glob,p.fr,fun id q1 q2=>p.fresh id q1 (xHd q2 h),p.full.mono h⟩
theorem Pre.next {l l1:zAv}{s s' s1:St}{φ φ1:Ren}{a a1:Act}{w w1:World}(p:Pre w0 n G l s s' φ a w)(g:G1 s s1)(e:Ext φ φ1 s.next s1.next)(H:HR φ1 s1.h w0 w1)(F:Fr n φ1 l1 a1):
  Pre w0 n G l1 s1 s' φ1 a1 w1:=by
 refine⟨H,p.glob.mono e.le,F,fun id q1 q2=>?_,p.full.step g⟩
 cases hφ:φ1 id with
 |none=>rfl
 |some y=>
  rcases e.new id (by rw[hφ];simp) with r|r
  ·exact absurd (p.fresh id (xHf g.next q1) q2) r
  ·omega
def yX0 (w0:World)(n:Nat)(φ:Ren)(s:St)(l':zAv)(s':St)(φ':Ren)(a':Act)(w':World):Prop:=Ext φ φ' s.next s'.next∧HR φ' s'.h w0 w'∧Fr n φ' l' a'
def zY8 (P:Program)(w0:World)(n G:Nat)(f:zDh)(c:Code):Prop:=
 ∀ l s e l' s' φ a w,f l s=some (e,l',s')→Pre w0 n G l s s' φ a w→∀ Q:Exit→Act→World→Prop,
  (∀ φ' a' w',yX0 w0 n φ s l' s' φ' a' w'→Q e.out a' w')→c.wp P Q a w
theorem yGv {r:Option (Ex×zAv×St)}{e:Ex}{l:zAv}{s:St}(h:r=some (e,l,s)):asc r=some ((e,l),s):=by rw[h];rfl
theorem TrC.g {f:zDh}(h:TrC f){l:zAv}{s:St}{e:Ex}{l':zAv}{s':St}(k:f l s=some (e,l',s')):G1 s s':=(h l s (e,l') s' (yGv k)).1
theorem zS2 {f g:zDh}{l:zAv}{s:St}{e:Ex}{l':zAv}{s':St}(h:yKm f g l s=some (e,l',s')):
  (∃ l1 s1,f l s=some (.normal,l1,s1)∧g l1 s1=some (e,l',s'))∨(f l s=some (e,l',s')∧∀ R:Act→World→Prop,∀ Q,Exit.then R Q e.out=Q e.out):=by
 unfold yKm andThen at h
 cases hf:f l s with
 |none=>rw[hf] at h;cases h
 |some x=>
  obtain⟨e1,l1,s1⟩:=x
  rw[hf] at h
  cases e1 with
  |normal=>exact .inl ⟨l1,s1,rfl,h⟩
  |exit id=>simp only[xGu,xG5] at h;obtain⟨rfl,rfl,rfl⟩:=h;exact .inr ⟨rfl,fun _ _=>rfl⟩
  |ret=>simp only[xGu,xG5] at h;obtain⟨rfl,rfl,rfl⟩:=h;exact .inr ⟨rfl,fun _ _=>rfl⟩
theorem yBd {f g:zDh}{c d:Code}(hf:TrC f)(hg:TrC g)(sf:zY8 P w0 n G f c)(sg:zY8 P w0 n G g d):zY8 P w0 n G (yKm f g) (.seq c d):=by
 intro l s e l' s' φ a w h p Q hQ
 refine wp_seq ?_
 rcases zS2 h with⟨l1,s1,h1,h2⟩|⟨h1,h2⟩
 ·have g1:=hf.g h1
  have g2:=hg.g h2
  refine sf l s _ l1 s1 φ a w h1 (p.sub g2.hi) _ fun φ1 a1 w1 q=>?_
  exact sg l1 s1 e l' s' φ1 a1 w1 h2 (p.next g1 q.1 q.2.1 q.2.2) Q fun φ2 a2 w2 q2=>hQ φ2 a2 w2 ⟨q.1.trans q2.1 (xGv _) g2.next g1.next (xGv _),q2.2⟩
 ·refine sf l s e l' s' φ a w h1 p _ fun φ1 a1 w1 q=>?_
  rw[h2];exact hQ φ1 a1 w1 q
theorem zY9 {f:zDh}{c:Code}(hf:TrC f)(sf:zY8 P w0 n G f c)(k:Nat):zY8 P w0 n G (yAa k f) (.loop c):=by
 intro l s e l' s' φ a w h p Q hQ
 refine yBc (fun k a w=>∃ l s φ,yAa k f l s=some (e,l',s')∧Pre w0 n G l s s' φ a w∧∀ φ' a' w',yX0 w0 n φ s l' s' φ' a' w'→Q e.out a' w') ?_ ?_ (k:=k) ⟨l,s,φ,h,p,hQ⟩
 ·rintro a w ⟨l,s,φ,h,_⟩;cases h
 ·rintro k a w ⟨l,s,φ,h,p,hQ⟩
  rcases zS2 (f:=f) (g:=yAa k f) h with⟨l1,s1,h1,h2⟩|⟨h1,h2⟩
  ·have g1:=hf.g h1
   have g2:=(zQn hf k).g h2
   refine sf l s _ l1 s1 φ a w h1 (p.sub g2.hi) _ fun φ1 a1 w1 q=>?_
   exact⟨l1,s1,φ1,h2,p.next g1 q.1 q.2.1 q.2.2,fun φ2 a2 w2 q2=>hQ φ2 a2 w2 ⟨q.1.trans q2.1 (xGv _) g2.next g1.next (xGv _),q2.2⟩⟩
  ·refine sf l s e l' s' φ a w h1 p _ fun φ1 a1 w1 q=>?_
   rw[h2];exact hQ φ1 a1 w1 q
theorem zS3 {r:Option (zAv×St)}{e:Ex}{l:zAv}{s:St}(h:yI2 r=some (e,l,s)):e=.normal∧r=some (l,s):=by
 unfold yI2 at h
 split at h
 ·rename_i x
  simp only[xGu,xG5] at h
  obtain⟨rfl,rfl,rfl⟩:=h
  exact⟨rfl,rfl⟩
 ·cases h
theorem zO9 {call:Call}(hcall:zH3 P w0 G call)(hT:∀ f args,Tr (call f args))(hm:P.follows .mixedOrders=true)(k:Nat)(c:Code)(hok:zE7 n G c=true):
  zY8 P w0 n G (zOb P call k c) c:=by
 induction c with
 |skip=>
  intro l s e l' s' φ a w h p Q hQ
  cases h
  exact wp_skip (hQ φ a w ⟨Ext.refl _ _ _,p.hr,p.fr⟩)
 |region id ops draw=>
  have hops:=zMq (l:=ops.toList) hok
  clear hok
  intro l s e l' s' φ a w h p Q hQ
  cases draw with
  |true=>
   obtain⟨rfl,h2⟩:=zS3 (r:=zK0 P call ops.toList ops.toList [] [] l s) h
   exact yGu hcall hT hm hops h2 p.hr p.glob p.fr p.fresh p.full fun φ' a' w' q1 q2 q3=>hQ φ' a' w' ⟨q1,q2,q3⟩
  |false=>
   obtain⟨rfl,h2⟩:=zS3 (r:=zYb P call ops.toList ops.toList l s) h
   exact wp_region_list (zUz hcall hT ops ops.toList hops l s l' s' φ a w h2 p.hr p.glob p.fr p.fresh p.full fun φ' a' w' q1 q2 q3=>hQ φ' a' w' ⟨q1,q2,q3⟩)
 |seq a b ha hb=>
  simp only[zE7,xG0] at hok
  exact yBd (zI4 hT k a) (zI4 hT k b) (ha hok.1) (hb hok.2)
 |cond c a b ha hb=>
  simp only[zE7,xG0] at hok
  intro l s e l' s' φ a' w h p Q hQ
  have hv:=zLf p.glob p.fr hok.1
  change zUm c (zOb P call k a) (zOb P call k b) l s=_ at h
  unfold zUm at h
  split at h
  case h_2=>cases h
  rename_i t ht
  rw[ht] at hv
  refine wp_cond (t:=t) (zHn hv) ?_
  cases t with
  |true=>exact ha hok.2.1 l s e l' s' φ a' w h p Q hQ
  |false=>exact hb hok.2.2 l s e l' s' φ a' w h p Q hQ
 |block id c ih=>
  intro l s e l' s' φ a w h p Q hQ
  refine wp_block ?_
  change zR5 id (zOb P call k c) l s=_ at h
  unfold zR5 zUn at h
  cases hr:zOb P call k c l s with
  |none=>rw[hr] at h;cases h
  |some x=>
   obtain⟨e1,l1,s1⟩:=x
   rw[hr] at h
   cases e1 with
   |normal=>
    simp only[xGu,xG5] at h
    obtain⟨rfl,rfl,rfl⟩:=h
    exact ih hok l s _ l1 s1 φ a w hr p _ hQ
   |ret=>
    simp only[xGu,xG5] at h
    obtain⟨rfl,rfl,rfl⟩:=h
    exact ih hok l s _ l1 s1 φ a w hr p _ hQ
   |exit i=>
    simp only at h
    cases hb:Nat.beq i id with
    |true=>
     rw[hb] at h
     simp only[xGu,xG5] at h
     obtain⟨rfl,rfl,rfl⟩:=h
     refine ih hok l s _ l1 s1 φ a w hr p _ fun φ' a' w' q=>?_
     show(if i=id then Q .normal a' w' else Q (.exit i) a' w')
     rw[xGq (xG3 hb)]
     exact hQ φ' a' w' q
    |false=>
     rw[hb] at h
     simp only[xGu,xG5] at h
     obtain⟨rfl,rfl,rfl⟩:=h
     refine ih hok l s _ l1 s1 φ a w hr p _ fun φ' a' w' q=>?_
     show(if i=id then Q .normal a' w' else Q (.exit i) a' w')
     rw[xGr (Nat.ne_of_beq_eq_false hb)]
     exact hQ φ' a' w' q
 |loop c ih=>exact zY9 (zI4 hT k c) (ih hok) k
 |exit id=>
  intro l s e l' s' φ a w h p Q hQ
  cases h
  exact wp_exit (hQ φ a w ⟨Ext.refl _ _ _,p.hr,p.fr⟩)
 |ret=>
  intro l s e l' s' φ a w h p Q hQ
  cases h
  exact wp_ret (hQ φ a w ⟨Ext.refl _ _ _,p.hr,p.fr⟩)
 |_=>intro l s e l' s' φ a w h;cases h
end
end Go.Det
end
section
namespace Go.Det
variable {P:Program}
section
variable {w0:World} {n G:Nat}
def zS4 (tmps:Array Value):ResultVar→Sem Value
 |.tmp t=>pure (tmps.getD t undef)
 |.cell a t=>do loadVar t (← asAddr (tmps.getD a undef))
theorem yBe {s s':St}{t:TypeId}{x x' v:Value}{φ:Ren}{w:World}(h:zD2 P s t x=some (v,s'))(H:HR φ s.h w0 w)(hx:VR φ x x'):
  ∃ ad v',x'=.pointer (some ad)∧(loadVar t ad).run P w=.ok v' w∧VR φ v v'∧s'.h=s.h∧s'.next=s.next:=by
 unfold zD2 at h
 split at h
 case h_2=>cases h
 rename_i id off
 split at h
 case h_2=>cases h
 rename_i cs e ro hg
 obtain⟨b,sh,sz,e1,hp⟩:=zDu hx
 obtain⟨b',sh',sz',c,fz,k⟩:=H.cells _ _ _ _ hg
 have:=k.at_;rw[e1] at this;cases this
 split at h
 ·rename_i hb
  split at h
  case h_2=>cases h
  rename_i n hn
  split at h
  case h_2=>cases h
  rename_i r hr
  simp only[xGu,xG5] at h
  obtain⟨rfl,rfl⟩:=h
  rw[zCh] at hr
  obtain⟨rfl,hle⟩:=zCd hr
  by_cases h0:n=0
  ·subst h0
   refine⟨_,.agg #[],hp,?_,?_,rfl,rfl⟩
   ·simp[loadVar,zDe hb,zCa hn,loadCells,loadCellsFrom]
   ·rw[List.take_zero];exact VR.agg_of (VRL.nil φ)
  ·obtain⟨r',hrun,hrel⟩:=zC2 (P:=P) (n:=n) (off:=off) k (by simp at hle;omega)
   obtain⟨r'⟩:=r'
   refine⟨_,.agg ⟨r'⟩,hp,?_,VR.agg_of hrel,rfl,rfl⟩
   simp[loadVar,zDe hb,zCa hn,hrun]
 ·rename_i hb
  split at h
  case h_2=>cases h
  rename_i v1 t1 hd
  simp only[xGu,xG5] at h
  obtain⟨rfl,rfl⟩:=h
  rw[zCh] at hd
  have hlt:off < cs.length:=by
   rcases xHr off cs.length with q|q
   ·exact q
   ·rw[xHj q] at hd;cases hd
  have hv1:cs.getD off und=v1:=by
   rw[xGw,show cs[off]?=(cs.drop off)[0]? by rw[xH6];rfl,hd];rfl
  have hc:=k.cell off hlt
  rw[hv1] at hc
  have hcell:=cell_at k.blk (sh+off) (by rw[k.size];have:=k.fit;omega)
  exact⟨_,_,hp,by simp[loadVar,zDe hb,hcell],hc,rfl,rfl⟩
 ·cases h
theorem zQr {tmps:Array Value}{l:zAv}:∀ (rs:List ResultVar) {s:St} {vs:List Value} {s':St} {φ:Ren} {w:World},zR6 P l s rs=some (vs,s')→HR φ s.h w0 w→(∀ t,VR φ (zD7 l t) (tmps.getD t undef))→
  ∃ vs',(rs.mapM (zS4 tmps)).run P w=.ok vs' w∧VRL φ vs vs'∧s'.h=s.h∧s'.next=s.next
 |[],s,vs,s',φ,w,h,H,_=>by
  rw[yGp] at h
  cases h
  exact⟨[],by simp,VRL.nil _,rfl,rfl⟩
 |.tmp t::rest,s,vs,s',φ,w,h,H,hl=>by
  rw[zQo] at h
  split at h
  case h_2=>cases h
  rename_i vs1 s1 h1
  cases h
  obtain⟨vs',r1,r3,r4,r5⟩:=zQr rest h1 H hl
  refine⟨tmps.getD t undef::vs',?_,VRL.cons (hl t) r3,r4,r5⟩
  simp only[List.mapM_cons,zS4,pure_bind,Sem.run_bind,r1,Result.andThen_ok,Sem.run_pure]
 |.cell a t::rest,s,vs,s',φ,w,h,H,hl=>by
  rw[zMl] at h
  split at h
  case h_2=>cases h
  rename_i v s1 h1
  split at h
  case h_2=>cases h
  rename_i vs1 s2 h2
  cases h
  obtain⟨ad,v',had,hr,hv,e1,e2⟩:=yBe h1 H (hl a)
  obtain⟨vs',r1,r3,r4,r5⟩:=zQr rest h2 (by rw[e1];exact H) hl
  refine⟨v'::vs',?_,VRL.cons hv r3,r4.trans e1,r5.trans e2⟩
  simp only[List.mapM_cons,zS4,had,asAddr,pure_bind,Sem.run_bind,hr,r1,Result.andThen_ok,Sem.run_pure]
theorem zMr {fn:Func}{tmps:Array Value}{w w':World}{vs:List Value}(h:(fn.results.toList.mapM (zS4 tmps)).run P w=.ok vs w'):
  (results fn tmps).run P w=.ok (zHz vs) w':=by
 have e:results fn tmps=(do let vs ← fn.results.mapM (zS4 tmps);pure (if h:vs.size=1 then vs[0] else .tuple vs)):=by
  unfold results
  congr 1
 rw[e,Array.mapM_eq_mapM_toList]
 simp only[map_eq_pure_bind,bind_assoc,pure_bind,Sem.run_bind,h,Result.andThen_ok,Sem.run_pure]
 match vs with
 |[]=>rfl
 |[v]=>rfl
 |v::u::t=>rfl
theorem zWs {φ:Ren}{vs vs':List Value}(h:VRL φ vs vs'):VR φ (zHz vs) (zHz vs'):=by
 match vs,vs' with
 |[],[]=>exact VR.tuple_of h
 |[v],[v']=>exact h.2 0
 |a::b::t,a'::b'::t'=>exact VR.tuple_of h
 |[],_::_=>exact absurd h.1 (by simp)
 |_::_,[]=>exact absurd h.1 (by simp)
 |[_],_::_::_=>exact absurd h.1 (by simp)
 |_::_::_,[_]=>exact absurd h.1 (by simp)
theorem zI6 {φ:Ren}{v v':Value}(h:flat v=true)(k:VR φ v v')(hne:v≠und):v'=v:=by
 unfold flat at h
 split at h
 ·cases k with
  |any=>exact absurd rfl hne
  |tuple a a' e q=>rw[zB5 h ⟨e,q⟩]
 ·exact zCq h k
theorem zE8 {v v':Value}{φ φ':Ren}(h:flat v=true)(k:VR φ v v'):VR φ' v v':=by
 by_cases e:v=und
 ·subst e;exact .any _
 ·rw[zI6 h k e];exact zCp h φ'
theorem yUq {s y s':St}{v v1 v':Value}{φ φ1:Ren}{w w':World}(h:gcD s v1 y=some (v,s'))(H:HR φ s.h w0 w)(g:G1 (yI6 s) y)(hf:∀ id,s.next≤id→id < s'.hi→φ id=none)(hle:s.next≤s.hi)
  (e:Ext φ φ1 s.next y.next) (hv:VR φ1 v1 v') (H1:HR φ1 y.h w0 w'):∃ φ',Ext φ φ' s.next s'.next∧VR φ' v v'∧HR φ' s'.h w0 w':=by
 unfold gcD at h
 cases hc:(flat v1&&(Nat.beq (Nat.mod y.wr (Nat.shiftLeft 1 s.next)) 0&&Nat.ble (Nat.lor y.rd y.wr+1) (Nat.shiftLeft 1 y.next)))<;>rw[hc] at h<;>simp only[xGu,xG5] at h<;>obtain⟨rfl,rfl⟩:=h
 ·exact⟨φ1,e,hv,H1⟩
 ·simp only[xG0] at hc
  have hk:∀ id,φ id≠none→y.h.get id=s.h.get id:=by
   intro id hne
   refine g.frame id fun hb=>?_
   have h1:id < y.next:=yAr (xHg hc.2.2) (zBl.2 (.inr hb))
   rcases xHr id s.next with q|q
   ·have h2:=zUx.2 ⟨q,hb⟩
    rw[xG3 hc.2.1] at h2
    exact zE4 h2
   ·exact hne (hf id q (xHd h1 (g.inv hle)))
  refine⟨φ,Ext.refl _ _ _,zE8 hc.1 hv,H.forget H1 e.le (fun id cs t ro hg=>?_) fun id es hg=>?_⟩
  ·obtain⟨b,sh,sz,c,fz,k⟩:=H.cells _ _ _ _ hg
   rw[hk id (by rw[k.at_];simp)];exact hg
  ·obtain⟨b,sh,sz,O,k⟩:=H.obs _ _ hg
   rw[hk id (by rw[k.at_];simp)];exact hg
def zEb (G:Nat)(fn:Func):Bool:=match fn.body with
 |some c=>zE7 fn.ntmps G c&&!(fn.name== "runtime.NumGoroutine")
 |none=>true
def zMs (intr:zUf):Prop:=∀ f g,intr f=some g→∀ args,Tr (g args)
def zMt (P:Program)(w0:World)(G:Nat)(intr:zUf):Prop:=∀ f g,intr f=some g→∀ args s v s',g args s=some (v,s')→∀ φ w args',HR φ s.h w0 w→Glob G φ→VRL φ args args'→(∀ id,s.next≤id→id < s'.hi→φ id=none)→Full s'.hi s→
  Gives P w0 φ s.next s' v ((callFunc f ⟨args'⟩).run P w)
theorem zLh (t:Nat):zD7 [] t=und:=by
 show zEl und (zEl [] [] (t / 8)) (t % 8)=und
 rw[zC4,zC4]
theorem zZa (l:List Value):∀ t,zEl und l t=l.getD t und:=by
 induction l with
 |nil=>intro t;rw[zC4];simp
 |cons x r ih=>
  intro t
  cases t with
  |zero=>rfl
  |succ t=>rw[zDt,ih];simp
theorem zS5 (r:List Value)(rest:zAv)(t:Nat):zD7 (r::rest) t=if t < 8 then r.getD t und else zD7 rest (t - 8):=by
 show zEl und (zEl [] (r::rest) (t / 8)) (t % 8)=_
 by_cases h:t < 8
 ·rw[xGq h,show t / 8=0 by omega,show t % 8=t by omega,zJ0,zZa]
 ·rw[xGr h,show t / 8=(t - 8) / 8+1 by omega,zDt,show t % 8=(t - 8) % 8 by omega];rfl
theorem zS6:∀ (k:Nat) (args:List Value) (t:Nat),zD7 (zAg args k) t=und∨zD7 (zAg args k) t=args.getD t und
 |0,args,t=>.inl (by rw[zAg];exact zLh t)
 |k+1,args,t=>by
  unfold zAg
  split
  ·rename_i a b c d e f g h r
   rw[zS5]
   by_cases q:t < 8
   ·rw[xGq q]
    right
    match t,q with
    |0,_|1,_|2,_|3,_|4,_|5,_|6,_|7,_=>rfl
   ·rw[xGr q]
    obtain⟨u,rfl⟩:∃ u,t=u+8:=⟨t - 8,by omega⟩
    have:=zS6 k r u
    simpa using this
  ·exact .inl (zLh t)
  ·rw[zS5]
   by_cases q:t < 8
   ·rw[xGq q];exact .inr rfl
   ·rw[xGr q];exact .inl (zLh _)
theorem zMu {φ:Ren}{args:List Value}{args':List Value}{m:Nat}(h:VRL φ args args')(hm:args.length≤m):
  Fr m φ (zAg args 8) { tmps:=(⟨args'⟩:Array Value)++Array.replicate (m - (⟨args'⟩:Array Value).size) undef,defers:=[] }:=by
 refine⟨?_,fun t=>?_,rfl⟩
 ·have:=h.1
  simp
  omega
 ·rcases zS6 8 args t with e|e
  ·rw[e];exact .any _
  ·rw[e]
   by_cases q:t < args.length
   ·have hq:t < args'.length:=by rw[← h.1];exact q
    have:=h.2 t
    have e2:((⟨args'⟩:Array Value)++Array.replicate (m - (⟨args'⟩:Array Value).size) undef).getD t undef=args'.getD t und:=by
     rw[xHb,Array.getElem?_append_left (by simpa using hq),xGw]
     simp[hq]
    rw[e2];exact this
   ·rw[xGw,xHy (by omega)]
    exact .any _
theorem zBg {f:FuncId}{fn:Func}{c:Code}(hf:P.funcs[f]?=some fn)(hb:fn.body=some c)(hn:(fn.name== "runtime.NumGoroutine")=false)(args:Array Value)(w:World):
  (callFunc f args).run P w=.ok (.enter f args) w:=by
 have hn':¬ fn.name= "runtime.NumGoroutine":=by intro e;rw[e] at hn;simp at hn
 unfold callFunc
 simp[hf,hb,hn']
theorem zWt {intr:zUf}(hm:P.follows .mixedOrders=true)(hok:∀ f fn,intr f=none→nth P.funcs.toList f=some fn→zEb G fn=true)(hit:zMs intr)(hi:zMt P w0 G intr)(n:Nat):
  ∀ k,zH3 P w0 G (zJz P intr n k)
 |0=>fun f args s v s' h=>by rw[zY4] at h;cases h
 |k+1=>by
  intro f args s v s' h φ w args' H hG hA hf hF
  rw[zO8] at h
  cases hfi:intr f with
  |some g=>
   simp only[hfi] at h
   exact hi f g hfi args s v s' h φ w args' H hG hA hf hF
  |none=>
   simp only[hfi] at h
   unfold yF7 at h
   split at h
   case h_2=>cases h
   rename_i fn hfn
   split at h
   case h_2=>cases h
   rename_i c hc
   have hk:=hok f fn hfi hfn
   unfold zEb at hk
   rw[hc] at hk
   simp only[xG0,xIi] at hk
   rw[zE5,xHp] at hfn
   have hT:=zWo (P:=P) hit n k
   have hcall:=zWt hm hok hit hi n k
   simp only[zMn] at h
   split at h
   case h_2=>cases h
   rename_i hle
   have hle:=xHg hle
   split at h
   case h_2=>cases h
   rename_i x hx
   obtain⟨v1,y⟩:=x
   simp only at h
   unfold obind asc at hx
   cases hr:zOb P (zJz P intr n k) n c (zAg args 8) (yI6 s) with
   |none=>rw[hr] at hx;cases hx
   |some z=>
    obtain⟨e,l1,y1⟩:=z
    rw[hr] at hx
    simp only at hx
    have g1:=(zI4 hT n c).g hr
    have hhi:y.hi=s'.hi:=by
     unfold gcD at h
     split at h<;>simp only[xGu,xG5] at h<;>obtain⟨_,rfl⟩:=h<;>rfl
    have hres:omap (zR6 P l1 y1 fn.results.toList) zHz=some (v1,y):=by
     cases e with
     |normal=>exact hx
     |ret=>exact hx
     |exit i=>cases hx
    unfold omap at hres
    split at hres
    case h_2=>cases hres
    rename_i q hq
    obtain⟨vs,y2⟩:=q
    simp only[xGu,xG5] at hres
    obtain⟨rfl,rfl⟩:=hres
    have g2:=(zMm (P:=P) l1 fn.results.toList y1 vs y2 hq).1
    rw[zBg hfn hc hk.2]
    show Calls P f ⟨args'⟩ w _
    refine calls_of_wp hfn hc ?_
    have hpre:Pre w0 fn.ntmps G (zAg args 8) (yI6 s) y1 φ { tmps:=(⟨args'⟩:Array Value)++Array.replicate (fn.ntmps - (⟨args'⟩:Array Value).size) undef,defers:=[] } w:=
     ⟨H,hG,zMu hA hle,fun id q1 q2=>hf id q1 (by rw[← hhi];exact xHd q2 g2.hi),⟨hF.le,fun id q1 q2=>hF.get id q1 (by rw[← hhi];exact xHd q2 g2.hi)⟩⟩
    refine zO9 hcall hT hm n c hk.1 _ _ _ _ _ φ _ w hr hpre _ fun φ1 a1 w1 po=>?_
    obtain⟨e1,H1,F1⟩:=po
    obtain⟨vs',r1,r3,r4,r5⟩:=zQr fn.results.toList hq H1 F1.tmp
    have hgc:=yUq h H (g1.trans g2) hf hF.le (e1.mono (xGv _) (xI0 r5.symm)) (zWs r3) (by rw[r4];exact H1)
    have hend:a1.defers=[]∧∃ v2,(results fn a1.tmps).run P w1=.ok v2 w1∧∃ v' φ',Ending.returned v2=.returned v'∧Ext φ φ' s.next s'.next∧VR φ' v v'∧HR φ' s'.h w0 w1:=by
     obtain⟨φ',q1,q2,q3⟩:=hgc
     exact⟨F1.defers,zHz vs',zMr r1,zHz vs',φ',rfl,q1,q2,q3⟩
    cases e with
    |normal=>exact hend
    |ret=>exact hend
    |exit i=>cases hx
end
end Go.Det
end
namespace Go.Det
variable {P:Program}
def zE9 (mask:Nat)(ext:zUf):zUf:=fun f=>match Nat.testBit mask f with
 |true=>none
 |false=>match ext f with
  |some g=>some g
  |none=>some fun _ _=>none
theorem zU1 {mask:Nat}{ext:zUf}{f:FuncId}(h:zE9 mask ext f=none):Nat.testBit mask f=true:=by
 unfold zE9 at h
 split at h
 ·assumption
 ·split at h<;>cases h
theorem zMv {mask:Nat}{ext:zUf}{f:FuncId}{g}(h:zE9 mask ext f=some g):ext f=some g∨g=fun _ _=>none:=by
 unfold zE9 at h
 split at h
 ·cases h
 ·split at h
  ·rename_i g' hg;cases h;exact .inl hg
  ·cases h;exact .inr rfl
theorem yBf {mask:Nat}{ext:zUf}(h:zMs ext):zMs (zE9 mask ext):=by
 intro f g hf args
 rcases zMv hf with h1|rfl
 ·exact h f g h1 args
 ·exact zA4 fun _=>rfl
theorem yBg {w0:World}{G:Nat}{mask:Nat}{ext:zUf}(h:zMt P w0 G ext):zMt P w0 G (zE9 mask ext):=by
 intro f g hf
 rcases zMv hf with h1|rfl
 ·exact h f g h1
 ·intro args s v s' e;cases e
def yUr (P:Program)(G f:Nat):Bool:=match nth P.funcs.toList f with|some fn=>zEb G fn|none=>true
def zMw (P:Program)(G mask:Nat):Nat→Bool
 |0=>true
 |f+1=>(match Nat.testBit mask f with|true=>yUr P G f|false=>true)&&zMw P G mask f
theorem zS7 {G mask:Nat}:∀ {N:Nat},zMw P G mask N=true→∀ f,f < N→Nat.testBit mask f=true→yUr P G f=true
 |0,_,f,hf,_=>by omega
 |N+1,h,f,hf,hb=>by
  simp only[zMw,xG0] at h
  by_cases e:f=N
  ·subst e;have:=h.1;rw[hb] at this;exact this
  ·exact zS7 h.2 f (by omega) hb
theorem mask_lt {mask N f:Nat}(h:Nat.ble (mask+1) (Nat.shiftLeft 1 N)=true)(hb:Nat.testBit mask f=true):f < N:=yAr (xHg h) hb
theorem zZb {G mask N:Nat}{ext:zUf}(h:(Nat.ble (mask+1) (Nat.shiftLeft 1 N)&&zMw P G mask N)=true):
  ∀ f fn,zE9 mask ext f=none→nth P.funcs.toList f=some fn→zEb G fn=true:=by
 intro f fn hf hn
 rw[xG0] at h
 have hb:=zU1 hf
 have:=zS7 h.2 f (mask_lt h.1 hb) hb
 unfold yUr at this
 rw[hn] at this
 exact this
def isTrue:Option (Value×St)→Bool
 |some x=>match x.1 with|.bool b=>b|_=>false
 |none=>false
theorem zU2 {r:Option (Value×St)}(h:isTrue r=true):∃ s',r=some (.bool true,s'):=by
 cases r with
 |none=>cases h
 |some x=>
  obtain⟨v,s⟩:=x
  cases v with
  |bool b=>have h:b=true:=h;subst h;exact⟨s,rfl⟩
  |_=>cases h
structure yU7 (W W':World):Prop where
 os:W'.os=W.os
 output:W'.output=W.output
 size:W.heap.size≤W'.heap.size
 old:∀ b,b < W.heap.size→W'.heap[b]?=W.heap[b]?
theorem HR.kept {φ:Ren}{h:Heap}{W W':World}(H:HR φ h W W'):yU7 W W':=⟨H.os,H.output,H.size,H.old⟩
def zAh (h:Heap)(k:Nat):St:={ h:=h,next:=k,hi:=k,rd:=0,wr:=0 }
theorem zWu {G mask N n k:Nat}{ext:zUf}{f:FuncId}{fn:Func}{c:Code}{args args':List Value}{h:Heap}{top:Nat}{W:World}{φ:Ren}{v:Value}{s':St}
  (hm:P.follows .mixedOrders=true) (hok:(Nat.ble (mask+1) (Nat.shiftLeft 1 N)&&zMw P G mask N)=true) (hit:zMs ext) (hio:zMt P W G ext)
  (hf:P.funcs[f]?=some fn) (hb:fn.body=some c) (hn:(fn.name== "runtime.NumGoroutine")=false)
  (H:HR φ h W W) (hG:Glob G φ) (hA:VRL φ args args') (hφ:∀ id,top≤id→φ id=none) (hF:∀ id,top≤id→h.get id=none)
  (e:zJz P (zE9 mask ext) n k f args (zAh h top)=some (v,s')):
  Calls P f ⟨args'⟩ W fun e W'=>∃ v' φ',e=.returned v'∧Ext φ φ' top s'.next∧VR φ' v v'∧HR φ' s'.h W W':=by
 have:=zWt (P:=P) (w0:=W) (G:=G) hm (zZb hok) (yBf hit) (yBg hio) n k f args _ v s' e φ W args' H hG hA (fun id q _=>hφ id q) ⟨xGv _,fun id q _=>hF id q⟩
 rw[zBg hf hb hn] at this
 exact this
theorem HR.empty (φ:Ren)(W:World)(hd:∀ id b sh sz,φ id=some (b,sh,sz)→b < W.heap.size):HR φ [] W W:=by
 have hg:∀ id,Heap.get [] id=none:=by
  intro id
  show zEl none (zEl [] [] (id / 8)) (id % 8)=none
  rw[zC4,zC4]
 exact⟨rfl,rfl,rfl,xGv _,fun _ _=>rfl,hd,fun id cs e ro h=>(by rw[hg] at h;cases h),fun i j ci ei cj ej ro bi si zi bj sj zj _ h=>(by rw[hg] at h;cases h),
  fun id es h=>(by rw[hg] at h;cases h),fun i j ei ej bi si zi bj sj zj _ h=>(by rw[hg] at h;cases h)⟩
end Go.Det
namespace Go.Det
variable {P:Program}
def glob (G:Nat)(W:World):Ren:=fun g=>if g < G then some (g,0,match W.heap[g]? with|some (.cells c _ _)=>c.size|_=>0) else none
theorem zD4 (G:Nat)(W:World):Glob G (glob G W):=fun g hg=>⟨_,by unfold glob;rw[xGq hg]⟩
theorem zC6 (G:Nat)(W:World){top:Nat}(h:G≤top)(id:Nat)(hid:top≤id):glob G W id=none:=by unfold glob;rw[xGr (by omega)]
structure Laying (G:Nat) (W:World) (h:Heap):Prop where
 hr:HR (glob G W) h W W
 ro:∀ id cs e r,h.get id=some (.cells cs e r)→r=true
 nomp:∀ id es,h.get id≠some (.ob es)
 top:∀ id,G≤id→h.get id=none
theorem zMx (id:Nat):Heap.get [] id=none:=by
 show zEl none (zEl [] [] (id / 8)) (id % 8)=none
 rw[zC4,zC4]
theorem Laying.empty {G:Nat}{W:World}(hG:G≤W.heap.size):Laying G W []:=
 ⟨HR.empty _ W (fun id b sh sz h=>by
  unfold glob at h
  split at h
  ·cases h;omega
  ·cases h),fun id cs e r h=>(by rw[zMx] at h;cases h),fun id es h=>(by rw[zMx] at h;cases h),fun id _=>zMx id⟩
theorem Laying.lay {G:Nat}{W:World}{h:Heap}(L:Laying G W h){g:Nat}{c:Array Value}{t:TypeId}{fz:Nat×Nat}{cs:List Value}(hg:g < G)(hb:W.heap[g]?=some (.cells c t fz))(hc:c.toList=cs)(hf:zEn cs=true):
  Laying G W (h.set g (.cells cs (2 * t) true)):=by
 have hφ:glob G W g=some (g,0,c.size):=by unfold glob;rw[xGq hg,hb]
 have hone:∀ id b sh sz,glob G W id=some (b,sh,sz)→b=id:=by
  intro id b sh sz e
  unfold glob at e
  split at e
  ·cases e;rfl
  ·cases e
 have hv:VRL (glob G W) cs c.toList:=by rw[hc];exact zOz hf _
 have hnm:∀ id es,(h.set g (.cells cs (2 * t) true)).get id≠some (.ob es):=by
  intro id es q
  rw[Heap.get_set] at q
  by_cases hi:id=g
  ·rw[xGq hi] at q;cases q
  ·rw[xGr hi] at q;exact L.nomp _ _ q
 refine⟨⟨rfl,rfl,rfl,xGv _,fun _ _=>rfl,L.hr.dom,fun id cs' e r q=>?_,fun i j ci ei cj ej r bi si zi bj sj zj hij gi gj ai aj=>?_,fun id es q=>absurd q (hnm id es),fun i j ei ej bi si zi bj sj zj hij gi _ _ _=>absurd gi (hnm i ei)⟩,fun id cs' e r q=>?_,hnm,fun id hid=>?_⟩
 ·rw[Heap.get_set] at q
  by_cases hi:id=g
  ·subst hi;rw[xGq rfl] at q;cases q
   refine⟨id,0,c.size,c,fz,hφ,by rw[zSa];exact hb,fun h=>absurd h (yAd t),rfl,by rw[← hc];simp,fun i _=>?_,fun h=>by cases h⟩
   have:=hv.2 i
   rw[xIz]
   simpa [xGw,xHb] using this
  ·rw[xGr hi] at q;exact L.hr.cells _ _ _ _ q
 ·rw[hone _ _ _ _ ai,hone _ _ _ _ aj];exact hij
 ·rw[Heap.get_set] at q
  by_cases hi:id=g
  ·rw[xGq hi] at q;cases q;rfl
  ·rw[xGr hi] at q;exact L.ro _ _ _ _ q
 ·rw[Heap.get_set,xGr (by omega)];exact L.top id hid
theorem zHc {H:Type}{enc:TypeId×Value→H}{w:World}{base:Nat}{spare:Nat→Bool}{held:Bool}{fuel:Nat}{t e:TypeId}{n:Nat}{k:IntKind}{cs:List Value}{ns:List Int}{p:List MemPlace}
  (ht:P.underlying t=some (.array n e)) (he:P.underlying e=some (.int k)) (hc:P.cellsOf e=1) (hct:P.cellsOf t=n)
  (h:DataW.trod enc P w base spare held fuel t cs=some (.agg (ns.map fun n=>.lit (.int k n)),p)):cs=ns.map (Value.int k):=by
 obtain⟨xs,m,_,ex,hl,hn,hel⟩:=DataW.trod_array ht h
 simp only[xG5,DataW.agg.injEq] at ex
 have hlen:ns.length=n:=by rw[← hn];have:=congrArg List.length ex.1;simpa using this
 refine List.ext_getElem? fun i=>?_
 by_cases hi:i < n
 ·have h1:=hel i hi
  rw[hc,Nat.mul_one] at h1
  have hx:xs[i]?=some xs[i]:=xGz (by omega)
  rw[hx] at h1
  obtain⟨a,ha,hb,_⟩:=DataW.trod_int he h1
  have hin:i < ns.length:=by rw[hlen];exact hi
  have e1:(xs.map (·.1))[i]?=(ns.map fun n=>DataW.lit (.int k n))[i]?:=by rw[ex.1]
  rw[xIe,hx,xIe,xGz hin] at e1
  simp only[Option.map_some,hb,xGu,DataW.lit.injEq,Lit.int.injEq,true_and] at e1
  have e2:cs[i]?=((cs.drop i).take 1)[0]?:=by rw[xIx (by omega),xH6,Nat.add_zero]
  rw[e2,ha,xIe,xGz hin,← e1]
  rfl
 ·rw[xHy (by rw[hl,hct];omega),xHy (by simp;omega)]
theorem zFa {W:World}{n:String}{g:Nat}{cs:Array Value}(hg:P.globalNamed n=some g)(hv:W.var? P n=some cs):∃ t fz,W.heap[g]?=some (.cells cs t fz):=by
 unfold World.var? at hv
 rw[hg] at hv
 simp only[xGp] at hv
 split at hv
 ·rename_i c t fz hb;cases hv;exact⟨t,fz,hb⟩
 ·cases hv
theorem zQs {W:World}{g:Nat}{o}(h:W.heap[g]?=some o):g < W.heap.size:=by
 rcases xHr g W.heap.size with q|q
 ·exact q
 ·rw[xIb q] at h;cases h
end Go.Det
end

/- Texts of a proof, joined: words of the print (those that are named here) and printed functions. -/
import Derived.Test.YtfnacgojmdbjmaaGreatDoorPkm0
import Derived.Maps.RangeRun
import Derived.Orders
import Derived.Tactics
import GoSem.ClaimChange
import Derived.OpenShut
import Derived.LaidHandle
set_option linter.unusedSimpArgs false
set_option linter.unusedVariables false
set_option maxRecDepth 100000
noncomputable section
section
namespace Go.Det
variable {P:Program}
open Go.WideMaps
theorem zUv {k:TypeId}(h:yPb P k=true):KeyLaw P k:=by
 unfold yPb at h
 split at h
 ·rename_i hu;exact string_law hu
 ·rename_i hu
  rw[Bool.and_eq_true] at h
  exact deep_law (m:=12) (by decide) h.1 h.2 (by rw[hu])
 ·rename_i hu
  rw[Bool.and_eq_true] at h
  exact deep_law (m:=12) (by decide) h.1 h.2 (by rw[hu])
 ·cases h
theorem zYm {a b:ByteArray}:zK1 a b=true↔a=b:=by
 unfold zK1
 rw[beq_iff_eq]
 constructor
 ·intro h
  obtain⟨⟨a⟩⟩:=a;obtain⟨⟨b⟩⟩:=b
  simp only at h
  rw[h]
 ·rintro rfl;rfl
theorem zJj {a b:Value}{r:Bool}(h:zQo a b=some r):r=true↔a=b:=by
 unfold zQo at h
 split at h
 ·split at h
  ·rename_i hk;cases h;have:=zIj hk;subst this;simp
  ·cases h
 ·cases h;simp
 ·cases h;rw[zYm];simp
 ·cases h
theorem zLo:∀ {a b:List Value} {r:Bool},zOu a b=some r→(r=true↔a=b)
 |[],[],r,h=>by cases h;simp
 |[],_::_,r,h=>by cases h
 |_::_,[],r,h=>by cases h
 |a::s,b::t,r,h=>by
  unfold zOu at h
  split at h
  case h_2=>cases h
  rename_i q hq
  have e:=zJj hq
  split at h
  ·have:=zLo h
   simp only[true_iff] at e
   rw[this,e];simp
  ·cases h
   simp only[Bool.false_eq_true,false_iff] at e ⊢
   intro k;cases k;exact e rfl
theorem zYn {a b:Value}{r:Bool}(h:yHf a b=some r):r=true↔a=b:=by
 unfold yHf at h
 split at h
 ·rename_i p q
  rw[zLo h]
  constructor
  ·intro e;obtain⟨p⟩:=p;obtain⟨q⟩:=q;simp only at e;rw[e]
  ·intro e;cases e;rfl
 ·exact zJj h
theorem zNu {kt:TypeId}{k:Value}:∀ {es:List (Value×Value×Nat)} {r:Option Nat},zWc P kt k es=some r→
  (∀ e∈es,∃ l,keyOf P kt e.1=some l)∧(match r with|none=>∀ e∈es,e.1≠k|some j=>(∃ v n,es[j]?=some (k,v,n))∧∀ i e,es[i]?=some e→e.1=k→i=j)
 |[],r,h=>by cases h;exact⟨by simp,by simp⟩
 |e::t,r,h=>by
  unfold zWc at h
  split at h
  case h_2=>cases h
  rename_i hl
  have hl:=Option.isSome_iff_exists.1 hl
  split at h
  case h_2=>cases h
  rename_i r0 hr
  obtain⟨i1,i2⟩:=zNu hr
  split at h
  case h_2=>cases h
  rename_i q hq
  have hk:=zYn hq
  refine⟨fun x hx=>by rcases List.mem_cons.1 hx with rfl|hx;exact hl;exact i1 x hx,?_⟩
  split at h
  ·simp only[true_iff] at hk
   split at h
   ·cases h
    simp only at i2 ⊢
    refine⟨⟨e.2.1,e.2.2,by rw[← hk];rfl⟩,fun i x hi hx=>?_⟩
    cases i with
    |zero=>rfl
    |succ i=>exact absurd hx (i2 x (List.mem_of_getElem? (by simpa using hi)))
   ·cases h
  ·simp only[Bool.false_eq_true,false_iff] at hk
   split at h
   ·cases h
    simp only at i2 ⊢
    intro x hx
    rcases List.mem_cons.1 hx with rfl|hx
    ·exact hk
    ·exact i2 x hx
   ·rename_i j
    cases h
    simp only at i2 ⊢
    obtain⟨⟨v,n,hv⟩,h2⟩:=i2
    refine⟨⟨v,n,by simpa using hv⟩,fun i x hi hx=>?_⟩
    cases i with
    |zero=>simp only[List.getElem?_cons_zero,Option.some.injEq] at hi;subst hi;exact absurd hx hk
    |succ i=>rw[h2 i x (by simpa using hi) hx]
theorem MapR.len {φ:Ren}{es:List (Value×Value×Nat)}{ms:List MapEntry}(h:MapR φ es ms):es.length=ms.length:=by
 induction h with
 |nil=>rfl
 |cons _ _ _ _ _ ih=>simp[ih]
theorem MapR.at {φ:Ren}{es:List (Value×Value×Nat)}{ms:List MapEntry}(h:MapR φ es ms):∀ {i:Nat} {m:MapEntry},ms[i]?=some m→∃ e,es[i]?=some e∧m.key=e.1∧VR φ e.2.1 m.val:=by
 induction h with
 |nil=>intro i m q;simp at q
 |cons e f n v _ ih=>
  intro i m q
  cases i with
  |zero=>simp only[List.getElem?_cons_zero,Option.some.injEq] at q;subst q;exact⟨_,rfl,e,v⟩
  |succ i=>obtain⟨x,h1,h2⟩:=ih (by simpa using q);exact⟨x,by simpa using h1,h2⟩
theorem MapR.mem {φ:Ren}{es:List (Value×Value×Nat)}{ms:List MapEntry}(h:MapR φ es ms){m:MapEntry}(hm:m∈ms):∃ e∈es,m.key=e.1:=by
 obtain⟨i,hi⟩:=List.getElem?_of_mem hm
 obtain⟨e,h1,h2,_⟩:=h.at hi
 exact⟨e,List.mem_of_getElem? h1,h2⟩
theorem zKn {φ:Ren}{kt:TypeId}{k:Value}{es:List (Value×Value×Nat)}{ms:List MapEntry}{r:Option Nat}(hK:KeyLaw P kt)(hk:(keyOf P kt k).isSome=true)(h:zWc P kt k es=some r)(hR:MapR φ es ms)(w:World):
  (match r with
   |none=>(Instr.findKey kt k ms).run P w=.ok none w
   |some j=>∃ m v n,ms[j]?=some m∧es[j]?=some (k,v,n)∧m.key=k∧VR φ v m.val∧(Instr.findKey kt k ms).run P w=.ok (some (j,m.val)) w):=by
 obtain⟨l,hl⟩:=Option.isSome_iff_exists.1 hk
 obtain⟨h1,h2⟩:=zNu h
 have hall:∀ m∈ms,∃ l,keyOf P kt m.key=some l:=fun m hm=>by
  obtain⟨e,he,q⟩:=hR.mem hm
  rw[q];exact h1 e he
 rcases hK.find w hl ms hall with⟨q1,q2⟩|⟨j,m,q1,q2,q3⟩
 ·cases r with
  |none=>exact q1
  |some j=>
   obtain⟨⟨v,n,hv⟩,_⟩:=h2
   have hlt:j < ms.length:=by rw[← hR.len];exact(List.getElem?_eq_some_iff.1 hv).1
   obtain⟨e,p1,p2,_⟩:=hR.at (List.getElem?_eq_getElem hlt)
   rw[hv] at p1;cases p1
   exact absurd p2 (q2 _ (List.getElem_mem hlt))
 ·obtain⟨e,p1,p2,p3⟩:=hR.at q2
  cases r with
  |none=>exact absurd (by rw[← p2];exact q3) (h2 e (List.mem_of_getElem? p1))
  |some j'=>
   obtain⟨⟨v,n,hv⟩,hu⟩:=h2
   have:=hu j e p1 (by rw[← p2];exact q3)
   subst this
   rw[hv] at p1;cases p1
   exact⟨m,v,n,q2,hv,q3,p3,q1⟩
theorem zPb {φ:Ren}{id:Nat}{x:Value}{b sh sz:Nat}(h:VR φ (.map (some id)) x)(k:φ id=some (b,sh,sz)):x=.map (some b):=by
 cases h with|map _ b' _ _ e=>rw[k] at e;cases e;rfl
theorem MapR.push {φ:Ren}{es:List (Value×Value×Nat)}{ms:List MapEntry}(h:MapR φ es ms){k v:Value}{m:MapEntry}(hk:m.key=k)(hf:zGg k=true)(hv:VR φ v m.val):MapR φ (es++[(k,v,m.born)]) (ms++[m]):=by
 induction h with
 |nil=>exact .cons hk hf rfl hv .nil
 |cons e f n q _ ih=>exact .cons e f n q ih
theorem MapR.set {φ:Ren}{es:List (Value×Value×Nat)}{ms:List MapEntry}(h:MapR φ es ms){k v v':Value}(hv:VR φ v v'):∀ {j:Nat},(∃ x n,es[j]?=some (k,x,n))→
  MapR φ (zQp v es j) (ms.modify j fun e=>{ e with key:=k,val:=v' }):=by
 induction h with
 |nil=>rintro j ⟨x,n,q⟩;simp at q
 |cons e f n q t ih=>
  rintro j ⟨x,n',h1⟩
  cases j with
  |zero=>
   simp only[List.getElem?_cons_zero,Option.some.injEq] at h1
   cases h1
   simp only[zQp,List.modify_zero_cons]
   exact .cons rfl f n hv t
  |succ j=>
   simp only[zQp,List.modify_succ_cons]
   exact .cons e f n q (ih ⟨x,n',by simpa using h1⟩)
theorem zUw {n:Nat}:∀ {l:List Nat},yPc n l=l.contains n
 |[]=>rfl
 |m::t=>by
  have e:Nat.beq n m=(n==m):=by
   cases h:Nat.beq n m
   ·have:=Nat.ne_of_beq_eq_false h;simp[this]
   ·have:=Nat.eq_of_beq_eq_true h;simp[this]
  rw[yPc,List.contains_cons,zUw,e]
theorem MapR.left {φ:Ren}{es:List (Value×Value×Nat)}{ms:List MapEntry}(seen:List Nat)(h:MapR φ es ms):MapR φ (zWd seen es) (ms.filter fun e=>!seen.contains e.born):=by
 induction h with
 |nil=>exact .nil
 |@cons k v n t e t' h1 hf h2 h3 h4 ih=>
  rw[List.filter_cons]
  unfold zWd
  simp only
  rw[zUw,h2]
  cases hc:seen.contains n with
  |true=>exact ih
  |false=>exact .cons h1 hf h2 h3 ih
theorem zWz {φ:Ren}{since:Nat}{es:List (Value×Value×Nat)}{ms:List MapEntry}(h:MapR φ es ms)(k:zUn since es=true):∀ x∈ms,x.born < since:=by
 induction h with
 |nil=>simp
 |cons h1 _ h2 _ _ ih=>
  simp only[zUn,Bool.and_eq_true] at k
  intro x hx
  rcases List.mem_cons.1 hx with rfl|hx
  ·rw[h2];exact Nat.le_of_ble_eq_true k.1
  ·exact ih k.2 x hx
theorem zNv:∀ {l:List Nat} {n:Nat},zWe l=some n→(⟨l⟩:Array Nat).back?=some n
 |[],n,h=>by simp[zWe] at h
 |[a],n,h=>by simp[zWe] at h;simp[h]
 |a::b::t,n,h=>by
  have:=zNv (l:=b::t) (n:=n) (by simpa [zWe] using h)
  simpa using this
theorem MapR.stamp {φ:Ren}{es:List (Value×Value×Nat)}{ms:List MapEntry}{n:Nat}(h:MapR φ es ms):∀ {e:Value×Value×Nat},zQr n es=some e→∃ m,ms.find? (·.born==n)=some m∧m.key=e.1∧VR φ e.1 m.key∧VR φ e.2.1 m.val:=by
 induction h with
 |nil=>intro e q;simp[zQr] at q
 |@cons k v n' t m t' h1 hf h2 h3 h4 ih=>
  intro e q
  unfold zQr at q
  split at q
  ·rename_i hb
   cases q
   have:=Nat.eq_of_beq_eq_true hb
   exact⟨m,by rw[List.find?_cons_of_pos];simpa [h2] using this,h1,by rw[h1];exact zD9 hf φ,h3⟩
  ·rename_i hb
   obtain⟨m',q1,q2⟩:=ih q
   refine⟨m',?_,q2⟩
   rw[List.find?_cons_of_neg]
   ·exact q1
   ·simp only[h2,beq_iff_eq];exact Nat.ne_of_beq_eq_false hb
section
variable {w0 w:World} {φ:Ren} {l:zAz} {s s':St} {v:Value} {ρ:Operand→Value} {lo:Nat}
theorem ObR.map_inv {φ:Ren}{es:List (Value×Value×Nat)}{ck:Nat}{O:Obj}(h:ObR φ (.mp es ck) O):∃ ms,O=.map ms ck∧MapR φ es ms.toList:=by
 cases h with|mp h=>exact⟨_,rfl,h⟩
theorem ObR.it_inv {φ:Ren}{id since last:Nat}{seen:List Nat}{O:Obj}(h:ObR φ (.it (some id) since seen last) O):∃ b sh sz,O=.mapIter (some b) since ⟨seen⟩ last∧φ id=some (b,sh,sz):=by
 cases h with|it h=>exact⟨_,_,_,rfl,h⟩
theorem ObR.itn_inv {φ:Ren}{since last:Nat}{seen:List Nat}{O:Obj}(h:ObR φ (.it none since seen last) O):O=.mapIter none since ⟨seen⟩ last:=by
 cases h with|itn=>rfl
theorem zW0 {t:TypeId} {x:Operand} (h:zO1 P t x l s=some (v,s')) (H:HR φ s.h w0 w) (hf:∀ id,s.next≤id→id < s'.next→φ id=none) (hx:VR φ (evalO l x) (ρ x)):
    Gives P w0 φ s.next s' v ((do pure (Next.value (← Instr.range t (ρ x))) : Sem Next).run P w) := by
  unfold zO1 zNj at h
  split at h
  case h_2 => cases h
  rename_i kt e a ht hxv
  have ht:P.underlying t=some (.map kt e):=ht
  rw[hxv] at hx
  split at h
  · cases h
    have hn:φ s.next=none:=hf _ (Nat.le_refl _) (Nat.lt_succ_self _)
    rw[zIl hx]
    simp[Instr.range,run_underlying ht,Result.andThen]
    exact⟨upd φ s.next (w.heap.size,0,0),Ext.upd hn _,.ptr _ 0 _ 0 0 (zBe _ _ _),H.obNew hn rfl rfl rfl rfl .itn⟩
  · rename_i id
    split at h
    case h_2 => cases h
    rename_i o hg
    split at h
    case h_2 => cases h
    rename_i es ck
    cases h
    have hn:φ s.next=none:=hf _ (Nat.le_refl _) (Nat.lt_succ_self _)
    obtain⟨b,sh,sz,O,M⟩:=H.obs _ _ hg
    obtain⟨ms,rfl,hent⟩:=M.ob.map_inv
    rw[zPb hx M.at_]
    simp[Instr.range,run_underlying ht,MapKept.run_getObj_map M.blk,Result.andThen]
    exact⟨upd φ s.next (w.heap.size,0,0),Ext.upd hn _,.ptr _ 0 _ 0 0 (zBe _ _ _),H.obNew hn rfl rfl rfl rfl (.it M.at_)⟩
theorem zPc {ty:TypeId}{r since last:Nat}{seen:Array Nat}(hr:w.heap[r]?=some (.mapIter none since seen last)):
  (Instr.next (.pointer (some ⟨r,0,none⟩)) false ty).run P w=.ok (.tuple #[.bool false]) w:=by
 simp[Instr.next,getObj,Sem.run,hr,Result.andThen]
theorem zYo {ty:TypeId} {x:Operand} {str:Bool} (h:zUo x str l s=some (v,s')) (H:HR φ s.h w0 w) (hx:VR φ (evalO l x) (ρ x)):
    Gives P w0 φ lo s' v ((do pure (Next.value (← Instr.next (ρ x) str ty)) : Sem Next).run P w) := by
  unfold zUo zS2 at h
  split at h
  case h_2 => cases h
  rename_i r hxv
  rw[hxv] at hx
  split at h
  case h_2 => cases h
  rename_i o hg
  split at h
  case h_2 => cases h
  rename_i m since seen last
  obtain⟨b,sh,sz,O,M⟩:=H.obs _ _ hg
  obtain⟨b',sh',sz',e1,e2⟩:=zDm hx
  rw[M.at_] at e1;cases e1
  have hsh:sh=0:=M.zero
  subst hsh
  rw[e2]
  unfold zNk at h
  split at h
  · cases h
    obtain rfl:=M.ob.itn_inv
    exact zAw (s:=s.read r) H (VR.tuple_of (VRL.cons (.bool false) (VRL.nil _))) (zPc M.blk)
  · rename_i id
    split at h
    case h_2 => cases h
    rename_i o2 hg2
    split at h
    case h_2 => cases h
    rename_i es ck
    obtain⟨bm,shm,szm,rfl,hid⟩:=M.ob.it_inv
    obtain⟨b2,sh2,sz2,O2,M2⟩:=H.obs _ _ hg2
    rw[M2.at_] at hid;cases hid
    obtain⟨ms,rfl,hent⟩:=M2.ob.map_inv
    unfold zQq at h
    split at h
    case h_2 => cases h
    rename_i hc
    rw[Bool.and_eq_true] at hc
    have hleft:MapR φ (zWd seen es) (leftOf ms ⟨seen⟩).toList:=by
      have:=hent.left seen
      unfold leftOf
      rw[Array.toList_filter]
      simpa using this
    have hrun:=run_next_at (P:=P) w ty b bm since last ⟨seen⟩ ms ck M.blk M2.blk (zWz hent hc.2) (Nat.le_of_ble_eq_true hc.1)
    split at h
    · rename_i hl
      cases h
      rw[hl] at hleft
      have h0 : (leftOf ms ⟨seen⟩).toList = [] := by have := hleft.len; exact List.eq_nil_of_length_eq_zero this.symm
      rcases hrun with ⟨_, hrun⟩ | ⟨e, he, _⟩
      · exact zAw (s := (s.read r).read id) H (VR.tuple_of (VRL.cons (.bool false) (VRL.nil _))) hrun
      · rw [h0] at he; cases he
    · rename_i e t hl
      split at h
      case h_2 => cases h
      cases h
      rw[hl] at hleft
      rcases hrun with ⟨h0, _⟩ | ⟨m, hm, w1, hw1, hrun⟩
      · have := hleft.len; simp [h0] at this
      · obtain ⟨L, hL⟩ : ∃ L, (leftOf ms ⟨seen⟩).toList = L := ⟨_, rfl⟩
        rw[hL] at hleft hm
        cases hleft with
        | cons q1 qf q2 q3 q4 =>
          cases q4
          obtain rfl:=List.mem_singleton.1 hm
          rw[Sem.run_bind,hrun]
          have H1:HR φ s.h w0 w1:=by
            rcases hw1 with rfl | rfl
            · exact H
            · exact H.drawn _
          refine ⟨φ, Ext.refl _ _ _, VR.tuple_of (VRL.cons (.bool true) (VRL.cons (by rw [q1]; exact zD9 qf φ) (VRL.cons q3 (VRL.nil _)))), ?_⟩
          refine H1.obTurn hg M.at_ rfl rfl rfl rfl ?_
          have : (⟨seen⟩ : Array Nat).push m.born = ⟨seen ++ [m.born]⟩ := by simp
          rw[this,q2]
          exact .it M2.at_
theorem zW1 {x:Operand} (h:zO2 x l s=some (v,s')) (H:HR φ s.h w0 w) (hx:VR φ (evalO l x) (ρ x)):
    Gives P w0 φ lo s' v ((do pure (Next.value (← Instr.entry (ρ x))) : Sem Next).run P w) := by
  unfold zO2 zQs at h
  split at h
  case h_2 => cases h
  rename_i r hxv
  rw[hxv] at hx
  split at h
  case h_2 => cases h
  rename_i o hg
  split at h
  case h_2 => cases h
  rename_i m since seen last
  obtain⟨b,sh,sz,O,M⟩:=H.obs _ _ hg
  obtain⟨b',sh',sz',e1,e2⟩:=zDm hx
  rw[M.at_] at e1;cases e1
  have hsh:sh=0:=M.zero
  subst hsh
  rw[e2]
  unfold zOw at h
  split at h
  case h_1 => cases h
  rename_i id
  split at h
  case h_2 => cases h
  rename_i o2 hg2
  split at h
  case h_2 => cases h
  rename_i es ck
  obtain⟨bm,shm,szm,rfl,hid⟩:=M.ob.it_inv
  obtain⟨b2,sh2,sz2,O2,M2⟩:=H.obs _ _ hg2
  rw[M2.at_] at hid;cases hid
  obtain⟨ms,rfl,hent⟩:=M2.ob.map_inv
  unfold zOv at h
  split at h
  case h_2 => cases h
  rename_i n hc hn
  split at h
  case h_2 => cases h
  rename_i e he
  cases h
  obtain⟨m,q1,q2,qk,q3⟩:=hent.stamp he
  have hck:=Nat.eq_of_beq_eq_true hc
  subst hck
  refine zAw (s:=(s.read r).read id) H (v':=.tuple #[m.key,m.val]) (VR.tuple_of (VRL.cons qk (VRL.cons q3 (VRL.nil _)))) ?_
  have hf : ms.find? (·.born == n) = some m := by rw [← Array.find?_toList]; exact q1
  simp[Instr.entry,getObj,Sem.run,M.blk,M2.blk,Result.andThen,zNv hn,hf]
theorem zRf {t:TypeId}{r:Option Operand}(h:zIg r l s=some (v,s'))(H:HR φ s.h w0 w)(hf:∀ id,s.next≤id→id < s'.next→φ id=none):
  Gives P w0 φ s.next s' v ((do pure (Next.value (← Instr.makeMap t (r.map ρ))):Sem Next).run P w):=by
 unfold zIg at h
 split at h
 case h_2=>cases h
 cases h
 have hn:φ s.next=none:=hf _ (Nat.le_refl _) (Nat.lt_succ_self _)
 simp[Instr.makeMap,Result.andThen]
 exact⟨upd φ s.next (w.heap.size,0,0),Ext.upd hn _,.map _ _ _ _ (zBe _ _ _),H.obNew hn rfl rfl rfl rfl (.mp .nil)⟩
theorem zNw {φ:Ren}{ok b:Bool}{v v':Value}(h:VR φ v v'):VR φ (zS1 ok v b) (if ok=true then .tuple #[v',.bool b] else v'):=by
 cases ok with
 |true=>exact VR.tuple_of (VRL.cons h (VRL.cons (.bool b) (VRL.nil _)))
 |false=>exact h
theorem zTe {t:TypeId} {x k:Operand} {ok:Bool} (h:zKh P t x k ok l s=some (v,s')) (H:HR φ s.h w0 w) (hx:VR φ (evalO l x) (ρ x)) (hk:VR φ (evalO l k) (ρ k)):
    Gives P w0 φ lo s' v ((do pure (Next.value (← Instr.lookup t (ρ x) (ρ k) ok)) : Sem Next).run P w) := by
  unfold zKh zJc at h
  split at h
  case h_2 => cases h
  rename_i kt e ht
  have ht:P.underlying t=some (.map kt e):=ht
  split at h
  case h_2 => cases h
  rename_i hc
  simp only[Bool.and_eq_true] at hc
  obtain⟨c1,c2,c3⟩:=hc
  have hK:=zUv c1
  rw[zCj c2 hk]
  obtain⟨kl,hkl⟩:=Option.isSome_iff_exists.1 c3
  unfold zX5 at h
  split at h
  case h_2 => cases h
  rename_i r hr
  obtain⟨es,s1⟩:=r
  simp only at h
  split at h
  case h_2 => cases h
  rename_i v' hv
  cases h
  have main:∀ (ms:List MapEntry),MapR φ es ms→∃ y,VR φ v y∧∀ em:Bool,(do
      Instr.checkKey em 10000 kt (evalO l k)
      let (v,b) ← match ← Instr.findKey kt (evalO l k) ms with
        | some (_, v) => pure (v, true)
        | none => pure (← zeroValue e, false)
      pure (if ok then .tuple #[v,.bool b] else v):Sem Value).run P w=.ok y w:=by
    intro ms hR
    unfold zX6 at hv
    split at hv
    · rename_i j hj
      have hfind:=zKn hK c3 hj hR w
      obtain⟨m,x0,n0,f1,f2,f3,f4,f5⟩:=hfind
      rw[zYi,f2] at hv
      cases hv
      refine ⟨_, zNw (ok := ok) (b := true) f4, fun em => ?_⟩
      simp[hK.check w em hkl,f5,Result.andThen]
    · rename_i hj
      have hfind:=zKn hK c3 hj hR w
      simp only at hfind
      split at hv
      case h_2 => cases hv
      rename_i z hz
      cases hv
      refine ⟨_, zNw (ok := ok) (b := false) (zD9 (zLd hz) φ), fun em => ?_⟩
      simp[hK.check w em hkl,hfind,zCl hz,Result.andThen]
    · cases hv
  split at hr
  case h_2 => cases hr
  rename_i a ha
  rw[ha] at hx
  split at hr
  · cases hr
    rw[zIl hx]
    obtain⟨y,h1,h2⟩:=main [] .nil
    refine zAw H h1 ?_
    have:=h2 true
    simp only[Instr.lookup,Sem.run_bind,run_underlying ht,Result.andThen_ok,Sem.run_pure] at this ⊢
    exact this
  · rename_i id
    split at hr
    case h_2 => cases hr
    rename_i o hg
    split at hr
    case h_2 => cases hr
    rename_i es' ck
    cases hr
    obtain⟨b,sh,sz,O,M⟩:=H.obs _ _ hg
    obtain⟨ms,rfl,hent⟩:=M.ob.map_inv
    obtain⟨y,h1,h2⟩:=main ms.toList hent
    have hxe:ρ x=.map (some b):=zPb hx M.at_
    rw[hxe]
    refine zAw (s:=s.read id) H h1 ?_
    have:=h2 ms.isEmpty
    simp only[Instr.lookup,Sem.run_bind,run_underlying ht,Result.andThen_ok,Sem.run_pure,MapKept.run_getObj_map M.blk] at this ⊢
    exact this
theorem zNc {t:TypeId} {x k y:Operand} (h:zFs P t x k y l s=some (v,s')) (H:HR φ s.h w0 w) (hx:VR φ (evalO l x) (ρ x)) (hk:VR φ (evalO l k) (ρ k)) (hy:VR φ (evalO l y) (ρ y)):
    Gives P w0 φ lo s' v ((do Instr.mapUpdate t (ρ x) (ρ k) (ρ y); pure Next.skip : Sem Next).run P w) := by
  unfold zFs zK2 at h
  split at h
  case h_2 => cases h
  rename_i kt e id ht hxv
  have ht:P.underlying t=some (.map kt e):=ht
  split at h
  case h_2 => cases h
  rename_i hc
  simp only[Bool.and_eq_true] at hc
  obtain⟨c1,c2,c3⟩:=hc
  have hK:=zUv c1
  rw[zCj c2 hk]
  obtain⟨kl,hkl⟩:=Option.isSome_iff_exists.1 c3
  split at h
  case h_2 => cases h
  rename_i o hg
  split at h
  case h_2 => cases h
  rename_i es ck
  split at h
  case h_2 => cases h
  rename_i es' hu
  cases h
  obtain⟨b,sh,sz,O,M⟩:=H.obs _ _ hg
  obtain⟨ms,rfl,hent⟩:=M.ob.map_inv
  rw[hxv] at hx
  have hxe:ρ x=.map (some b):=zPb hx M.at_
  rw[hxe]
  unfold yNb at hu
  split at hu
  · rename_i j hj
    cases hu
    obtain⟨m,x0,n0,f1,f2,f3,f4,f5⟩:=zKn hK c3 hj hent w
    have hm : ms[j]? = some m := by simpa using f1
    have hrun : (do Instr.mapUpdate t (.map (some b)) (evalO l k) (ρ y); pure Next.skip : Sem Next).run P w = .ok .skip { w with heap := w.heap.setIfInBounds b (.map (ms.modify j fun e => { e with key := evalO l k, val := ρ y }) ck) } := by
      simp[Instr.mapUpdate,run_underlying ht,MapKept.run_getObj_map M.blk,hK.check w false hkl,f5,hm,f3,hK.stays w hkl,MapKept.run_setObj_map _ M.blk,Result.andThen]
    rw[hrun]
    refine⟨φ,Ext.refl _ _ _,.any _,H.obTurn hg M.at_ rfl rfl rfl rfl (.mp ?_)⟩
    rw[Array.toList_modify]
    exact hent.set hy ⟨x0,n0,f2⟩
  · rename_i hj
    cases hu
    have f5:=zKn hK c3 hj hent w
    simp only at f5
    have hrun : (do Instr.mapUpdate t (.map (some b)) (evalO l k) (ρ y); pure Next.skip : Sem Next).run P w = .ok .skip { w with heap := w.heap.setIfInBounds b (.map (ms.push { key := evalO l k, val := ρ y, born := ck }) (ck + 1)) } := by
      simp[Instr.mapUpdate,run_underlying ht,MapKept.run_getObj_map M.blk,hK.check w false hkl,f5,MapKept.run_setObj_map _ M.blk,Result.andThen]
    rw[hrun]
    refine⟨φ,Ext.refl _ _ _,.any _,H.obTurn hg M.at_ rfl rfl rfl rfl (.mp ?_)⟩
    rw[Array.toList_push]
    exact hent.push (m:={ key:=evalO l k,val:=ρ y,born:=ck }) rfl c2 hy
  · cases hu
end
end Go.Det
end
namespace Go.Det
variable {P:Program}
def bit (m i:Nat):Prop:=Nat.testBit m i=true
theorem zBh {a b i:Nat}:bit (Nat.lor a b) i↔bit a i∨bit b i:=by
 unfold bit
 rw[show Nat.lor a b=a ||| b from rfl,Nat.testBit_or,Bool.or_eq_true]
theorem zD1 {i j:Nat}:bit (Nat.shiftLeft 1 i) j↔j=i:=by
 unfold bit
 rw[show Nat.shiftLeft 1 i=1 <<< i from rfl,Nat.one_shiftLeft,Nat.testBit_two_pow]
 simp;exact eq_comm
theorem zEr {i:Nat}:¬ bit 0 i:=by simp[bit]
theorem zTf {m n i:Nat}:bit (Nat.mod m (Nat.shiftLeft 1 n)) i↔i < n∧bit m i:=by
 unfold bit
 rw[show Nat.shiftLeft 1 n=2 ^ n by rw[show Nat.shiftLeft 1 n=1 <<< n from rfl,Nat.one_shiftLeft],show Nat.mod m (2 ^ n)=m % 2 ^ n from rfl,Nat.testBit_mod_two_pow]
 simp
theorem zYp {m n i:Nat}(h:m+1≤Nat.shiftLeft 1 n)(k:bit m i):i < n:=by
 rw[show Nat.shiftLeft 1 n=2 ^ n by rw[show Nat.shiftLeft 1 n=1 <<< n from rfl,Nat.one_shiftLeft]] at h
 rcases Nat.lt_or_ge i n with q|q
 ·exact q
 ·have:=Nat.ge_two_pow_of_testBit k
  have:=Nat.pow_le_pow_right (n:=2) (by omega) q
  omega
structure G1 (s s':St):Prop where
 next:s.next≤s'.next
 hi:s.hi≤s'.hi
 inv:s.next≤s.hi→s'.next≤s'.hi
 rd:∀ i,bit s.rd i→bit s'.rd i
 wr:∀ i,bit s.wr i→bit s'.wr i
 frame:∀ i,¬ bit s'.wr i→s'.h.get i=s.h.get i
 dom:∀ i,s'.h.get i≠none→s.h.get i≠none∨(s.next≤i∧i < s'.next)
 keep:∀ i,s.h.get i≠none→s'.h.get i≠none
 oldw:∀ i,bit s'.wr i→bit s.wr i∨(bit s'.rd i∧s.h.get i≠none)∨(s.next≤i∧i < s'.next)
 oldr:∀ i,bit s'.rd i→bit s.rd i∨s.h.get i≠none∨(s.next≤i∧i < s'.next)
theorem G1.refl (s:St):G1 s s:=⟨Nat.le_refl _,Nat.le_refl _,id,fun _=>id,fun _=>id,fun _ _=>rfl,fun _=>.inl,fun _=>id,fun _=>.inl,fun _=>.inl⟩
theorem G1.trans {a b c:St}(h:G1 a b)(k:G1 b c):G1 a c where
 next:=Nat.le_trans h.next k.next
 hi:=Nat.le_trans h.hi k.hi
 inv q:=k.inv (h.inv q)
 rd i q:=k.rd i (h.rd i q)
 wr i q:=k.wr i (h.wr i q)
 frame i q:=(k.frame i q).trans (h.frame i fun r=>q (k.wr i r))
 dom i q:=by
  rcases k.dom i q with r|r
  ·rcases h.dom i r with r|r
   ·exact .inl r
   ·right;have:=k.next;omega
  ·right;have:=h.next;omega
 keep i q:=k.keep i (h.keep i q)
 oldw i q:=by
  rcases k.oldw i q with r|⟨r,r2⟩|r
  ·rcases h.oldw i r with r|⟨r,r2⟩|r
   ·exact .inl r
   ·exact .inr (.inl ⟨k.rd i r,r2⟩)
   ·right;right;have:=k.next;omega
  ·rcases h.dom i r2 with r3|r3
   ·exact .inr (.inl ⟨r,r3⟩)
   ·right;right;have:=k.next;omega
  ·right;right;have:=h.next;omega
 oldr i q:=by
  rcases k.oldr i q with r|r|r
  ·rcases h.oldr i r with r|r|r
   ·exact .inl r
   ·exact .inr (.inl r)
   ·right;right;have:=k.next;omega
  ·rcases h.dom i r with r|r
   ·exact .inr (.inl r)
   ·right;right;have:=k.next;omega
  ·right;right;have:=h.next;omega
theorem G1.read {s:St}{id:Nat}{b:Blk}(h:s.h.get id=some b):G1 s (s.read id) where
 next:=Nat.le_refl _
 hi:=Nat.le_refl _
 inv q:=q
 rd i q:=zBh.2 (.inl q)
 wr i q:=q
 frame i _:=rfl
 dom i q:=.inl q
 keep i q:=q
 oldw i q:=.inl q
 oldr i q:=by
  rcases zBh.1 q with r|r
  ·exact .inl r
  ·right;left;rw[zD1.1 r,h];simp
theorem G1.write {s:St}{id:Nat}{b b':Blk}(h:s.h.get id=some b):G1 s (s.write id b') where
 next:=Nat.le_refl _
 hi:=Nat.le_refl _
 inv q:=q
 rd i q:=zBh.2 (.inl q)
 wr i q:=zBh.2 (.inl q)
 frame i q:=by
  have:i≠id:=by rintro rfl;exact q (zBh.2 (.inr (zD1.2 rfl)))
  show(s.h.set id b').get i=s.h.get i
  rw[Heap.get_set,if_neg this]
 dom i q:=by
  have q:(s.h.set id b').get i≠none:=q
  rw[Heap.get_set] at q
  by_cases e:i=id
  ·left;rw[e,h];simp
  ·rw[if_neg e] at q;exact .inl q
 keep i q:=by
  show(s.h.set id b').get i≠none
  rw[Heap.get_set]
  by_cases e:i=id
  ·rw[if_pos e];simp
  ·rw[if_neg e];exact q
 oldw i q:=by
  rcases zBh.1 q with r|r
  ·exact .inl r
  ·right;left;rw[zD1.1 r];exact⟨zBh.2 (.inr (zD1.2 rfl)),by rw[h];simp⟩
 oldr i q:=by
  rcases zBh.1 q with r|r
  ·exact .inl r
  ·right;left;rw[zD1.1 r,h];simp
theorem G1.new (s:St)(b:Blk):G1 s (s.new b) where
 next:=Nat.le_succ _
 hi:=Nat.le_max_left _ _
 inv q:=Nat.le_max_right _ _
 rd i q:=q
 wr i q:=zBh.2 (.inl q)
 frame i q:=by
  have:i≠s.next:=by rintro rfl;exact q (zBh.2 (.inr (zD1.2 rfl)))
  show(s.h.set s.next b).get i=s.h.get i
  rw[Heap.get_set,if_neg this]
 dom i q:=by
  have q:(s.h.set s.next b).get i≠none:=q
  rw[Heap.get_set] at q
  by_cases e:i=s.next
  ·right;rw[e];exact⟨Nat.le_refl _,Nat.lt_succ_self _⟩
  ·rw[if_neg e] at q;exact .inl q
 keep i q:=by
  show(s.h.set s.next b).get i≠none
  rw[Heap.get_set]
  by_cases e:i=s.next
  ·rw[if_pos e];simp
  ·rw[if_neg e];exact q
 oldw i q:=by
  rcases zBh.1 q with r|r
  ·exact .inl r
  ·right;right;rw[zD1.1 r];exact⟨Nat.le_refl _,Nat.lt_succ_self _⟩
 oldr i q:=.inl q
structure PW (s t s' t':St):Prop where
 next:t'.next=s'.next
 hi:t'.hi=s'.hi
 rd:t'.rd=s'.rd
 wr:t'.wr=s'.wr
 pt:∀ i,t'.h.get i=s'.h.get i∨(t'.h.get i=t.h.get i∧s'.h.get i=s.h.get i)
structure Beside (s t:St):Prop where
 next:t.next=s.next
 hi:t.hi=s.hi
 rd:t.rd=s.rd
 wr:t.wr=s.wr
theorem PW.refl {s t:St}(h:Beside s t):PW s t s t:=⟨h.next,h.hi,h.rd,h.wr,fun _=>.inr ⟨rfl,rfl⟩⟩
theorem PW.beside {s t s' t':St}(h:PW s t s' t'):Beside s' t':=⟨h.next,h.hi,h.rd,h.wr⟩
theorem PW.trans {s t s1 t1 s2 t2:St}(h:PW s t s1 t1)(k:PW s1 t1 s2 t2):PW s t s2 t2:=
 ⟨k.next,k.hi,k.rd,k.wr,fun i=>by
  rcases k.pt i with q|⟨q1,q2⟩
  ·exact .inl q
  ·rcases h.pt i with r|⟨r1,r2⟩
   ·left;rw[q1,q2,r]
   ·right;exact⟨q1.trans r1,q2.trans r2⟩⟩
theorem PW.read {s t:St}(h:Beside s t)(id:Nat):PW s t (s.read id) (t.read id):=
 ⟨h.next,h.hi,by show Nat.lor t.rd _=Nat.lor s.rd _;rw[h.rd],h.wr,fun _=>.inr ⟨rfl,rfl⟩⟩
theorem PW.write {s t:St}(h:Beside s t)(id:Nat)(b:Blk):PW s t (s.write id b) (t.write id b):=
 ⟨h.next,h.hi,by show Nat.lor t.rd _=Nat.lor s.rd _;rw[h.rd],by show Nat.lor t.wr _=Nat.lor s.wr _;rw[h.wr],fun i=>by
  show(t.h.set id b).get i=(s.h.set id b).get i∨((t.h.set id b).get i=t.h.get i∧(s.h.set id b).get i=s.h.get i)
  rw[Heap.get_set,Heap.get_set]
  by_cases e:i=id
  ·rw[if_pos e,if_pos e];exact .inl rfl
  ·rw[if_neg e,if_neg e];exact .inr ⟨rfl,rfl⟩⟩
theorem PW.new {s t:St}(h:Beside s t)(b:Blk):PW s t (s.new b) (t.new b):=
 ⟨by show t.next+1=s.next+1;rw[h.next],by show Nat.max t.hi (t.next+1)=Nat.max s.hi (s.next+1);rw[h.hi,h.next],h.rd,by show Nat.lor t.wr _=Nat.lor s.wr _;rw[h.wr,h.next],fun i=>by
  show(t.h.set t.next b).get i=(s.h.set s.next b).get i∨((t.h.set t.next b).get i=t.h.get i∧(s.h.set s.next b).get i=s.h.get i)
  rw[Heap.get_set,Heap.get_set,h.next]
  by_cases e:i=s.next
  ·rw[if_pos e,if_pos e];exact .inl rfl
  ·rw[if_neg e,if_neg e];exact .inr ⟨rfl,rfl⟩⟩
structure Full (B:Nat) (s:St):Prop where
 le:s.next≤s.hi
 get:∀ i,s.next≤i→i < B→s.h.get i=none
theorem Full.mono {B B':Nat}{s:St}(h:Full B s)(k:B'≤B):Full B' s:=⟨h.le,fun i a b=>h.get i a (Nat.lt_of_lt_of_le b k)⟩
theorem Full.step {B:Nat}{s s':St}(h:Full B s)(g:G1 s s'):Full B s':=by
 refine⟨g.inv h.le,fun i hi hB=>?_⟩
 cases e:s'.h.get i with
 |none=>rfl
 |some b=>
  rcases g.dom i (by rw[e];simp) with q|q
  ·exact absurd (h.get i (Nat.le_trans g.next hi) hB) q
  ·omega
def Tr {α:Type}(f:St→Option (α×St)):Prop:=
 ∀ s a s',f s=some (a,s')→G1 s s'∧∀ t,Full s'.hi s→Beside s t→(∀ i,bit s'.rd i→t.h.get i=s.h.get i)→(∀ i,s.next≤i→i < s'.hi→t.h.get i=none)→
  ∃ t',f t=some (a,t')∧PW s t s' t'
theorem Tr.pure {α:Type}(a:Option α):Tr (fun s=>match a with|some v=>some (v,s)|none=>none):=by
 intro s v s' h
 cases a with
 |none=>cases h
 |some x=>
  simp only[Option.some.injEq,Prod.mk.injEq] at h
  obtain⟨rfl,rfl⟩:=h
  exact⟨G1.refl _,fun t _ hb _ _=>⟨t,rfl,PW.refl hb⟩⟩
theorem Tr.bind {α β:Type}{f:St→Option (α×St)}{g:α→St→Option (β×St)}(hf:Tr f)(hg:∀ a,Tr (g a)):
  Tr (fun s=>match f s with|some x=>g x.1 x.2|none=>none):=by
 intro s b s2 h
 simp only at h
 split at h
 case h_2=>cases h
 rename_i x hx
 obtain⟨a,s1⟩:=x
 simp only at h
 obtain⟨g1,t1⟩:=hf s a s1 hx
 obtain⟨g2,t2⟩:=hg a s1 b s2 h
 refine⟨g1.trans g2,fun t hF hb hr hn=>?_⟩
 obtain⟨u,hu,pu⟩:=t1 t (hF.mono g2.hi) hb (fun i q=>hr i (g2.rd i q)) (fun i q1 q2=>hn i q1 (by have:=g2.hi;omega))
 obtain⟨gu,_⟩:=hf t a u hu
 obtain⟨u2,hu2,pu2⟩:=t2 u (hF.step g1) pu.beside (fun i q=>by
   rcases pu.pt i with r|⟨r1,r2⟩
   ·exact r
   ·rw[r1,r2];exact hr i q) (fun i q1 q2=>by
   cases e:u.h.get i with
   |none=>rfl
   |some bb=>
    rcases gu.dom i (by rw[e];simp) with q|q
    ·exact absurd (hn i (by have:=g1.next;omega) q2) q
    ·rw[pu.next] at q;omega)
 exact⟨u2,by simp only[hu];exact hu2,pu.trans pu2⟩
end Go.Det
namespace Go.Det
variable {P:Program}
theorem zBq {m id:Nat}:bit (Nat.lor m (Nat.shiftLeft 1 id)) id:=zBh.2 (.inr (zD1.2 rfl))
theorem zPd (t:TypeId)(a:Value):Tr (fun s=>zDw P s t a):=by
 intro s v s' h
 simp only at h
 unfold zDw at h
 split at h
 case h_2=>cases h
 rename_i id off
 split at h
 case h_2=>cases h
 rename_i cs e ro hg
 split at h
 ·rename_i hb
  split at h
  case h_2=>cases h
  rename_i n hn
  split at h
  case h_2=>cases h
  rename_i r hr
  cases h
  refine⟨G1.read hg,fun u _ hbe hag _=>⟨u.read id,?_,PW.read hbe id⟩⟩
  have e1:u.h.get id=some (.cells cs e ro):=(hag id zBq).trans hg
  simp only[zDw,e1,hb,hn,hr]
 ·rename_i hb
  split at h
  case h_2=>cases h
  rename_i v1 t1 hd
  cases h
  refine⟨G1.read hg,fun u _ hbe hag _=>⟨u.read id,?_,PW.read hbe id⟩⟩
  have e1:u.h.get id=some (.cells cs e ro):=(hag id zBq).trans hg
  simp only[zDw,e1,hb,hd]
 ·cases h
theorem zYq (t:TypeId)(a:Operand)(l:zAz):Tr (zQt P t a l):=zPd t _
theorem zW2 (t:TypeId)(a x:Operand)(l:zAz):Tr (zGo P t a x l):=by
 intro s v s' h
 unfold zGo at h
 split at h
 case h_2=>cases h
 rename_i s1 hs1
 cases h
 unfold zNg at hs1
 split at hs1
 case h_2=>cases hs1
 rename_i id off hv
 split at hs1
 case h_2=>cases hs1
 rename_i cs e hg
 split at hs1
 case h_2=>cases hs1
 rename_i n hn
 simp only at hs1
 split at hs1
 case isFalse=>cases hs1
 rename_i hc
 split at hs1
 case h_2=>cases hs1
 rename_i cs' hp
 cases hs1
 refine⟨G1.write hg,fun u _ hbe hag _=>⟨u.write id (.cells cs' e false),?_,PW.write hbe id _⟩⟩
 have e1:u.h.get id=some (.cells cs e false):=(hag id zBq).trans hg
 simp only[zGo,zNg,hv,e1,hn,hc,if_true,hp]
theorem zH6 (size n:Nat)(x:Value):Tr (fun s=>zBu s size n x):=by
 intro s v s' h
 simp only at h
 unfold zBu at h
 split at h
 ·rename_i id off n' c
  split at h
  ·rename_i h0
   cases h
   exact⟨G1.refl _,fun u _ hbe _ _=>⟨u,by simp only[zBu,h0,if_true],PW.refl hbe⟩⟩
  ·rename_i h0
   split at h
   case h_2=>cases h
   rename_i cs e' ro hg
   split at h
   case h_2=>cases h
   rename_i r' hr
   cases h
   refine⟨G1.read hg,fun u _ hbe hag _=>⟨u.read id,?_,PW.read hbe id⟩⟩
   have e1:u.h.get id=some (.cells cs e' ro):=(hag id zBq).trans hg
   simp only[zBu,h0,e1,hr];rfl
 ·split at h
  case isFalse=>cases h
  rename_i h0
  cases h
  exact⟨G1.refl _,fun u _ hbe _ _=>⟨u,by simp only[zBu,h0,if_true],PW.refl hbe⟩⟩
 ·split at h
  case isFalse=>cases h
  rename_i h0
  cases h
  exact⟨G1.refl _,fun u _ hbe _ _=>⟨u,by simp only[zBu,h0,if_true],PW.refl hbe⟩⟩
 ·split at h
  case isFalse=>cases h
  rename_i h0
  split at h
  case h_2=>cases h
  rename_i r hr
  cases h
  exact⟨G1.refl _,fun u _ hbe _ _=>⟨u,by simp only[zBu,h0,if_true,hr],PW.refl hbe⟩⟩
 ·cases h
theorem zLp {α:Type}{f:St→Option (α×St)}(c:Option (Blk×(Nat→α)))(hf:∀ s,f s=match c with|some x=>some (x.2 s.next,s.new x.1)|none=>none):Tr f:=by
 intro s v s' h
 rw[hf] at h
 cases c with
 |none=>cases h
 |some x=>
  cases h
  refine⟨G1.new _ _,fun u _ hbe _ _=>⟨u.new x.1,?_,PW.new hbe _⟩⟩
  rw[hf,hbe.next]
theorem zBd {α:Type}{f:St→Option (α×St)}(c:Option α)(hf:∀ s,f s=match c with|some x=>some (x,s)|none=>none):Tr f:=by
 intro s v s' h
 rw[hf] at h
 cases c with
 |none=>cases h
 |some x=>cases h;exact⟨G1.refl _,fun u _ hbe _ _=>⟨u,by rw[hf],PW.refl hbe⟩⟩
theorem zRg (x:Operand)(l:zAz):Tr (zK3 x l):=zBd (some (evalO l x)) fun _=>rfl
theorem zJ1 (c:Option Value):Tr (ofV c):=zBd c fun s=>by cases c<;>rfl
theorem zYr (c a b:Operand)(l:zAz):Tr (zIe c a b l):=by
 cases h:evalO l c with
 |bool t=>exact zBd (some (if t then evalO l a else evalO l b)) fun s=>by cases t<;>simp[zIe,h]
 |_=>exact zBd none fun s=>by simp[zIe,h]
theorem zW3 (e:TypeId)(l:zAz):Tr (zK4 P e l):=
 zLp (match zCx P e with|some z=>some (.cells (zA9 z) (2 * e+1) false,fun n=>.pointer (some ⟨n,0,none⟩))|none=>none) fun s=>by
  unfold zK4;cases zCx P e<;>rfl
theorem yDk (e:TypeId)(x:Operand)(l:zAz):Tr (zWf e x l):=
 zLp (if !zV9 (evalO l x) then some (.cells (zA9 (evalO l x)) (2 * e+1) false,fun n=>.pointer (some ⟨n,0,none⟩)) else none) fun s=>by
  unfold zWf;split<;>rfl
theorem zLq (t:TypeId)(n:Nat)(parts:Array (Nat×Operand))(l:zAz):Tr (zCq P t n parts l):=by
 intro s v s' h
 unfold zCq zFp at h
 split at h
 case h_2=>cases h
 rename_i elem ht
 split at h
 case h_2=>cases h
 rename_i size z hs hz
 split at h
 case isFalse=>cases h
 rename_i hb
 split at h
 case h_2=>cases h
 rename_i cs hcs
 cases h
 refine⟨G1.new _ _,fun u _ hbe _ _=>⟨u.new _,?_,PW.new hbe _⟩⟩
 simp only[zCq,zFp,ht,hs,hz,hb,if_true,hcs,hbe.next]
theorem zNd (t:TypeId)(n c:Operand)(l:zAz):Tr (zC4 P t n c l):=by
 intro s v s' h
 unfold zC4 zG9 at h
 split at h
 case h_2=>cases h
 rename_i elem k m ht hk hm
 split at h
 case h_2=>cases h
 rename_i ei hei
 split at h
 case h_2=>cases h
 rename_i z hz
 split at h
 case isFalse=>cases h
 rename_i hb
 cases h
 refine⟨G1.new _ _,fun u _ hbe _ _=>⟨u.new _,?_,PW.new hbe _⟩⟩
 simp only[zC4,zG9,ht,hk,hm,hei,hz,hb,if_true,hbe.next]
theorem yDl {α:Type}{f:St→Option (α×St)}(id:Nat)(k:Blk→St→Option (α×St))(hf:∀ s,f s=match s.h.get id with|some b=>k b s|none=>none)
  (hk:∀ b s a s',s.h.get id=some b→k b s=some (a,s')→bit s'.rd id∧G1 s s'∧∀ t,Beside s t→∃ t',k b t=some (a,t')∧PW s t s' t'):Tr f:=by
 intro s a s' h
 rw[hf] at h
 split at h
 case h_2=>cases h
 rename_i b hb
 obtain⟨h1,h2,h3⟩:=hk b s a s' hb h
 refine⟨h2,fun t _ hbe hag _=>?_⟩
 obtain⟨t',e,p⟩:=h3 t hbe
 refine⟨t',?_,p⟩
 rw[hf,(hag id h1).trans hb]
 exact e
theorem zYs (elem : TypeId) (size bytes : Nat) (zeros : Bool) (x : Value) : Tr (fun s => match zGm P s elem size bytes zeros x with | some r => some ((r.1, r.2.1), r.2.2) | none => none) := by
  cases zeros with
  | true =>
    refine zBd (match x with
      | .int _ m => if 0 ≤ m ∧ m < 1048576 then
          (match zCx P elem with
           | some z => if Nat.ble (m.toNat * bytes) 1099511627776 then some (m.toNat, zCb (zA9 z) m.toNat) else none
           | none => none) else none
      | _ => none) fun s => ?_
    cases x with
    | int k m =>
      by_cases h:0≤m∧m < 1048576
      · cases hz : zCx P elem with
        | none => simp only [zGm, if_pos h, hz]
        | some z => by_cases hb : Nat.ble (m.toNat * bytes) 1099511627776 = true <;> simp only [zGm, if_pos h, hz, hb, if_true] <;> rfl
      · simp only [zGm, if_neg h]
    | _ => rfl
  | false =>
    cases hm:yFz x with
    | none => exact zBd none fun s => by simp [zGm, hm]
    | some m =>
      intro s a s' h
      have e : ∀ s, (match zGm P s elem size bytes false x with | some r => some ((r.1, r.2.1), r.2.2) | none => none) = (match zBu s size m x with | some x => some ((m, x.1), x.2) | none => none) := by
        intro s
        simp only[zGm,hm]
        cases zBu s size m x <;> rfl
      simp only[e] at h ⊢
      cases hc:zBu s size m x with
      | none => rw [hc] at h; cases h
      | some y =>
        rw[hc] at h
        cases h
        obtain⟨g,k⟩:=zH6 size m x s y.1 y.2 hc
        refine ⟨g, fun u h1 h2 h3 h4 => ?_⟩
        obtain⟨u',e1,p⟩:=k u h1 h2 h3 h4
        exact ⟨u', by simp only at e1; simp only [e1], p⟩
theorem zIp (id off at_ need c:Nat)(cs:List Value)(e:TypeId)(ws:List Value){s:St}{a:Value}{s':St}{b:Blk}(hg:s.h.get id=some b)(h:zCk s id off at_ need c cs e ws=some (a,s')):
  bit s'.rd id∧G1 s s'∧∀ t,Beside s t→∃ t',zCk t id off at_ need c cs e ws=some (a,t')∧PW s t s' t':=by
 unfold zCk at h
 split at h
 case h_2=>cases h
 rename_i cs' hp
 cases h
 exact⟨zBq,G1.write hg,fun t hbe=>⟨_,by simp only[zCk,hp],PW.write hbe id _⟩⟩
theorem yDm (elem:TypeId)(size:Nat)(base:Option Addr)(n c m:Nat)(ws:List Value):Tr (fun s=>zQj s elem size base n c m ws):=by
 cases base with
 |none=>
  exact zLp (if Nat.beq c 0&&Nat.beq n 0 then some (.cells ([]++ws) (2 * elem) false,fun k=>.slice (some ⟨k,0,none⟩) m (zEo+size)) else none) fun s=>by
   by_cases h:(Nat.beq c 0&&Nat.beq n 0)=true<;>simp only[zQj,zNh,h,if_true]<;>rfl
 |some a=>
  obtain⟨id,off,sp⟩:=a
  cases sp with
  |some q=>exact zBd none fun s=>rfl
  |none=>
   refine yDl id (fun b s=>match b with
    |.cells cs e ro=>
     if Nat.ble zEo c then
      if Nat.beq c (zEo+size)&&(!ro&&Nat.beq e (2 * elem)) then
       if Nat.ble (off+(n+m) * size) cs.length then zCk s id off (off+n * size) (n+m) c cs e ws
       else match zFd (n * size) (zGj off cs) with
        |some old=>some (zSz s id elem size (n+m) old ws)
        |none=>none
      else none
     else if Nat.ble (n+m) c then
      if !ro then zCk s id off (off+n * size) (n+m) c cs e ws else none
     else match zFd (n * size) (zGj off cs) with
      |some old=>some (zNh (s.read id) elem size (n+m) old ws)
      |none=>none
    |.ob _=>none
    |.dead=>none) (fun s=>?_) (fun b s a s' hg h=>?_)
   ·cases hh:s.h.get id with
    |none=>simp only[zQj,hh]
    |some b=>cases b<;>simp only[zQj,hh]<;>(try rfl)
   ·cases b with
    |dead=>cases h
    |ob es=>cases h
    |cells cs e ro=>
     simp only at h ⊢
     split at h
     ·rename_i h1
      split at h
      case isFalse=>cases h
      rename_i h2
      split at h
      ·rename_i h3
       obtain⟨k1,k2,k3⟩:=zIp id off (off+n * size) (n+m) c cs e ws hg h
       exact⟨k1,k2,fun t hbe=>by obtain⟨t',e1,p⟩:=k3 t hbe;exact⟨t',by simp only[h1,h2,h3,if_true];exact e1,p⟩⟩
      ·rename_i h3
       split at h
       case h_2=>cases h
       rename_i old hold
       cases h
       refine⟨zBq,(G1.write hg).trans (G1.new _ _),fun t hbe=>⟨(t.write id .dead).new _,?_,(PW.write hbe id _).trans (PW.new (PW.write hbe id _).beside _)⟩⟩
       simp only[h1,h2,h3,if_true,zSz,hbe.next];rfl
     ·rename_i h1
      split at h
      ·rename_i h2
       split at h
       case isFalse=>cases h
       rename_i h3
       obtain⟨k1,k2,k3⟩:=zIp id off (off+n * size) (n+m) c cs e ws hg h
       exact⟨k1,k2,fun t hbe=>by obtain⟨t',e1,p⟩:=k3 t hbe;exact⟨t',by simp only[h1,h2,h3,if_true];exact e1,p⟩⟩
      ·rename_i h2
       split at h
       case h_2=>cases h
       rename_i old hold
       cases h
       refine⟨zBq,(G1.read hg).trans (G1.new _ _),fun t hbe=>⟨(t.read id).new _,?_,(PW.read hbe id).trans (PW.new (PW.read hbe id).beside _)⟩⟩
       simp only[h1,h2,zNh]
       simp[St.read,hbe.next]
theorem zA6 {α:Type}{f:St→Option (α×St)}(hf:∀ s,f s=none):Tr f:=zBd none hf
theorem yDn (elem:TypeId)(size bytes:Nat)(base:Option Addr)(n c m:Nat)(ws:List Value):Tr (fun s=>zQk P s elem size bytes base n c m ws):=by
 by_cases h1:Nat.beq m 0=true
 ·exact zBd (if Nat.ble zEo c||Nat.ble n c then some (.slice base n c) else none) fun s=>by
   simp only[zQk,h1,if_true];split<;>rfl
 ·by_cases h2:(Nat.ble 1 size&&(Nat.ble ((n+m) * bytes) 1099511627776&&(zV8 ws&&Nat.ble (n+m) 1099511627776)))=true
  ·cases h3:zCx P elem with
   |none=>exact zA6 fun s=>by simp only[zQk,h1,h2,h3,if_true];rfl
   |some z=>
    have:(fun s=>zQk P s elem size bytes base n c m ws)=fun s=>zQj s elem size base n c m ws:=by
     funext s;simp only[zQk,h1,h2,h3,if_true];rfl
    rw[this];exact yDm elem size base n c m ws
  ·exact zA6 fun s=>by simp only[zQk,h1,h2];rfl
theorem zW4 (ts:Array TypeId)(args:List Value):Tr (fun s=>zJa P s ts args):=by
 intro s v s' h
 simp only at h
 unfold zJa at h
 split at h
 case h_2=>cases h
 rename_i sT rest base n c x ha
 split at h
 case h_2=>cases h
 rename_i elem hu
 split at h
 case h_2=>cases h
 rename_i ei zeros hei hz
 split at h
 case h_2=>cases h
 rename_i q hq
 obtain⟨m,ws,s1⟩:=q
 have T:=Tr.bind (zYs (P:=P) elem ei.size ei.bytes zeros x) (fun a=>yDn (P:=P) elem ei.size ei.bytes base n c a.1 a.2)
 obtain⟨g,k⟩:=T s v s' (by simp only[hq];exact h)
 refine⟨g,fun u h1 h2 h3 h4=>?_⟩
 obtain⟨u',e,p⟩:=k u h1 h2 h3 h4
 refine⟨u',?_,p⟩
 simp only[zJa,ha,hu,hei,hz]
 simp only at e
 cases hc:zGm P u elem ei.size ei.bytes zeros x with
 |none=>rw[hc] at e;cases e
 |some y=>rw[hc] at e;exact e
theorem zYt (k:Nat)(base:Option Addr)(ws:List Value):Tr (fun s=>zQl s k base ws):=by
 intro s v s' h
 simp only at h
 unfold zQl at h
 split at h
 ·cases h;exact⟨G1.refl _,fun u _ hbe _ _=>⟨u,rfl,PW.refl hbe⟩⟩
 ·rename_i w1 ws
  split at h
  case isFalse=>cases h
  rename_i ho
  split at h
  case h_2=>cases h
  rename_i id off
  split at h
  case h_2=>cases h
  rename_i cs e hg
  split at h
  case h_2=>cases h
  rename_i c2 hp
  cases h
  refine⟨G1.write hg,fun u _ hbe hag _=>⟨u.write id _,?_,PW.write hbe id _⟩⟩
  have e1:u.h.get id=some (.cells cs e false):=(hag id zBq).trans hg
  simp only[zQl,ho,if_true,e1,hp]
theorem yDo (ts:Array TypeId)(args:List Value):Tr (fun s=>zWa P s ts args):=by
 intro s v s' h
 simp only at h
 unfold zWa at h
 split at h
 case h_2=>cases h
 rename_i dT rest base n c x ha
 split at h
 case h_2=>cases h
 rename_i elem hu
 split at h
 case h_2=>cases h
 rename_i size m hsz hm
 split at h
 case h_2=>cases h
 rename_i q hq
 have T:=Tr.bind (zH6 size (Nat.min m n) x) (fun ws=>zYt (Nat.min m n) base ws)
 obtain⟨g,k⟩:=T s v s' (by simp only[hq];exact h)
 refine⟨g,fun u h1 h2 h3 h4=>?_⟩
 obtain⟨u',e,p⟩:=k u h1 h2 h3 h4
 refine⟨u',?_,p⟩
 simp only[zWa,ha,hu,hsz,hm]
 simp only at e
 cases hc:zBu u size (Nat.min m n) x with
 |none=>rw[hc] at e;cases e
 |some y=>rw[hc] at e;exact e
theorem zW5 (base:Option Addr)(ws:List Value):Tr (fun s=>zKy s base ws):=by
 intro s v s' h
 simp only at h
 unfold zKy at h
 split at h
 case h_2=>cases h
 rename_i id off ho
 split at h
 case h_2=>cases h
 rename_i cs e hg
 split at h
 case h_2=>cases h
 rename_i c2 hp
 cases h
 refine⟨G1.write hg,fun u _ hbe hag _=>⟨u.write id _,?_,PW.write hbe id _⟩⟩
 have e1:u.h.get id=some (.cells cs e false):=(hag id zBq).trans hg
 simp only[zKy,ho,e1,hp]
theorem zYu (ts:Array TypeId)(args:List Value):Tr (fun s=>zJw P s ts args):=by
 intro s v s' h
 simp only at h
 unfold zJw at h
 split at h
 case h_2=>cases h
 rename_i dT x ha
 split at h
 case h_2=>cases h
 rename_i elem hu
 split at h
 ·cases h
  exact⟨G1.refl _,fun u _ hbe _ _=>⟨u,by simp only[zJw,ha,hu],PW.refl hbe⟩⟩
 ·rename_i base n c
  split at h
  ·cases h
   exact⟨G1.refl _,fun u _ hbe _ _=>⟨u,by simp only[zJw,ha,hu],PW.refl hbe⟩⟩
  ·rename_i m
   split at h
   case h_2=>cases h
   rename_i z hz
   obtain⟨g,k⟩:=zW5 base (zCb (zA9 z) (m+1)) s v s' h
   refine⟨g,fun u h1 h2 h3 h4=>?_⟩
   obtain⟨u',e,p⟩:=k u h1 h2 h3 h4
   exact⟨u',by simp only[zJw,ha,hu,hz];exact e,p⟩
 ·cases h
theorem zTg (src dst:TypeId)(x:Value):Tr (fun s=>zB6 P s src dst x):=by
 intro s v s' h
 simp only at h
 unfold zB6 at h
 split at h
 ·rename_i b
  split at h
  case h_2=>cases h
  rename_i d hd
  unfold zJb at h
  split at h
  ·rename_i e he
   split at h
   case h_2=>cases h
   rename_i hu
   cases h
   exact⟨G1.new _ _,fun u _ hbe _ _=>⟨u.new _,by simp only[zB6,hd,zJb,he,hu,hbe.next],PW.new hbe _⟩⟩
  ·rename_i he
   cases h
   exact⟨G1.refl _,fun u _ hbe _ _=>⟨u,by simp only[zB6,hd,zJb,he],PW.refl hbe⟩⟩
  ·cases h
 ·rename_i a n c
  cases hsd:Nat.beq src dst with
  |true=>
   simp only[hsd] at h
   unfold zId at h
   split at h
   case h_2=>cases h
   rename_i e hs
   split at h
   case h_2=>cases h
   rename_i hu
   split at h
   case h_2=>cases h
   rename_i id off
   split at h
   case h_2=>cases h
   rename_i cs el hg
   cases h
   refine⟨G1.write hg,fun u _ hbe hag _=>⟨u.write id _,?_,PW.write hbe id _⟩⟩
   have e1:u.h.get id=some (.cells cs el false):=(hag id zBq).trans hg
   simp only[zB6,hsd,zId,hs,hu,e1]
  |false=>
   simp only[hsd] at h
   unfold zEf at h
   split at h
   case h_2=>cases h
   rename_i e hs hd
   split at h
   case h_2=>cases h
   rename_i hu
   split at h
   ·cases h
    exact⟨G1.refl _,fun u _ hbe _ _=>⟨u,by simp only[zB6,hsd,hd,zEf,hs,hu],PW.refl hbe⟩⟩
   ·rename_i id off
    split at h
    case h_2=>cases h
    rename_i cs e' ro hg
    split at h
    case h_2=>cases h
    rename_i r' hr
    split at h
    case h_2=>cases h
    rename_i bs hbs
    cases h
    refine⟨G1.read hg,fun u _ hbe hag _=>⟨u.read id,?_,PW.read hbe id⟩⟩
    have e1:u.h.get id=some (.cells cs e' ro):=(hag id zBq).trans hg
    simp only[zB6,hsd,hd,zEf,hs,hu,e1,hr,hbs]
   ·cases h
 ·rename_i a
  unfold zGn at h
  split at h
  ·rename_i t hs hd
   split at h
   ·cases h
    exact⟨G1.refl _,fun u _ hbe _ _=>⟨u,by simp only[zB6,hd,zGn,hs],PW.refl hbe⟩⟩
   ·rename_i id off
    split at h
    case h_2=>cases h
    rename_i cs e ro n hg hn
    split at h
    case isFalse=>cases h
    rename_i hc
    cases h
    refine⟨G1.read hg,fun u _ hbe hag _=>⟨u.read id,?_,PW.read hbe id⟩⟩
    have e1:u.h.get id=some (.cells cs e ro):=(hag id zBq).trans hg
    simp only[zB6,hd,zGn,hs,e1,hn,hc,if_true]
   ·cases h
  ·rename_i t hs hd
   split at h
   ·cases h
    exact⟨G1.refl _,fun u _ hbe _ _=>⟨u,by simp only[zB6,hd,zGn,hs],PW.refl hbe⟩⟩
   ·rename_i id
    split at h
    case h_2=>cases h
    rename_i cs e ro n hg hn
    split at h
    case isFalse=>cases h
    rename_i hc
    cases h
    refine⟨G1.read hg,fun u _ hbe hag _=>⟨u.read id,?_,PW.read hbe id⟩⟩
    have e1:u.h.get id=some (.cells cs e ro):=(hag id zBq).trans hg
    simp only[zB6,hd,zGn,hs,e1,hn,hc,if_true]
   ·cases h
  ·cases h
 ·unfold zK0 at h
  split at h
  case h_2=>cases h
  rename_i e hs hd
  split at h
  case h_2=>cases h
  rename_i hu
  cases h
  exact⟨G1.refl _,fun u _ hbe _ _=>⟨u,by simp only[zB6,hd,zK0,hs,hu],PW.refl hbe⟩⟩
 ·rename_i n1 n2 n3 n4
  split at h
  case isFalse=>cases h
  rename_i hf
  split at h
  case h_2=>cases h
  rename_i r hr
  split at h
  case isFalse=>cases h
  rename_i hfr
  cases h
  refine⟨G1.refl _,fun u _ hbe _ _=>⟨u,?_,PW.refl hbe⟩⟩
  unfold zB6
  split
  ·exact absurd rfl (n1 _)
  ·exact absurd rfl (n2 _ _ _)
  ·exact absurd rfl (n3 _)
  ·exact absurd rfl n4
  ·simp only[hf,if_true,hr,hfr]
theorem zKb (pt:Option TypeDesc)(args:List Value):Tr (fun s=>zB7 P s pt args):=by
 intro s v s' h
 simp only at h
 unfold zB7 at h
 split at h
 case h_2=>cases h
 rename_i a k n
 split at h
 ·split at h
  case isFalse=>cases h
  rename_i hn
  cases h
  exact⟨G1.refl _,fun u _ hbe _ _=>⟨u,by simp only[zB7,hn,if_true],PW.refl hbe⟩⟩
 ·rename_i id off
  split at h
  case h_2=>cases h
  rename_i ut cs e hg
  split at h
  case isFalse=>cases h
  rename_i hn
  split at h
  case isFalse=>cases h
  rename_i hc
  split at h
  case h_2=>cases h
  rename_i r' hr
  split at h
  case h_2=>cases h
  rename_i bs hbs
  cases h
  refine⟨G1.write hg,fun u _ hbe hag _=>⟨u.write id _,?_,PW.write hbe id _⟩⟩
  have e1:u.h.get id=some (.cells cs e false):=(hag id zBq).trans hg
  simp only[zB7,e1,if_pos hn,hc,if_true,hr,hbs]
 ·cases h
theorem zRh (b:Builtin)(ts:Array TypeId)(type:TypeId)(xs:Array Operand)(l:zAz):Tr (zFg P b ts type xs l):=by
 show Tr (fun s=>zBn P s b ts type (zE6 l xs.toList))
 cases b
 case append=>exact zW4 ts _
 case copy=>exact yDo ts _
 case clear=>exact zYu ts _
 case len=>
  cases ht:ts.toList with
  |nil=>exact zA6 fun s=>by simp only[zBn,ht]
  |cons t r=>cases hx:zE6 l xs.toList with
   |nil=>exact zA6 fun s=>by simp only[zBn,ht]
   |cons x xs=>exact zBd ((yM9 P (typ P t) x).map fun n=>.int .i64 n) fun s=>by simp only[zBn,ht,ofN];cases yM9 P (typ P t) x<;>rfl
 case cap=>
  cases ht:ts.toList with
  |nil=>exact zA6 fun s=>by simp only[zBn,ht]
  |cons t r=>cases hx:zE6 l xs.toList with
   |nil=>exact zA6 fun s=>by simp only[zBn,ht]
   |cons x xs=>exact zBd ((yNa (typ P t) x).map fun n=>.int .i64 n) fun s=>by simp only[zBn,ht,ofN];cases yNa (typ P t) x<;>rfl
 case unsafeSliceData=>
  intro s v s' h
  simp only[zBn] at h
  unfold zD8 at h
  split at h
  case h_2=>cases h
  rename_i a n c hx
  split at h
  ·cases h
   exact⟨G1.refl _,fun u _ hbe _ _=>⟨u,by simp only[zBn,zD8,hx],PW.refl hbe⟩⟩
  ·split at h
   ·rename_i h1
    split at h
    case isFalse=>cases h
    rename_i h2
    cases h
    exact⟨G1.refl _,fun u _ hbe _ _=>⟨u,by simp only[zBn,zD8,hx,h1,h2,if_true],PW.refl hbe⟩⟩
   ·rename_i h1
    split at h
    case isFalse=>cases h
    rename_i h2
    cases h
    exact⟨G1.refl _,fun u _ hbe _ _=>⟨u,by simp only[zBn,zD8,hx,h1,h2,if_true];rfl,PW.refl hbe⟩⟩
 case unsafeString=>
  cases ht:ts.toList with
  |nil=>exact zA6 fun s=>by simp only[zBn,ht]
  |cons t r=>
   have:(fun s=>zBn P s .unsafeString ts type (zE6 l xs.toList))=fun s=>zB7 P s (typ P t) (zE6 l xs.toList):=by funext s;simp only[zBn,ht]
   rw[this];exact zKb _ _
 case min=>
  intro s v s' h
  simp only[zBn] at h
  unfold zH0 at h
  split at h
  ·rename_i h1
   split at h
   ·rename_i r hr
    split at h
    ·rename_i h3
     cases h
     exact⟨G1.refl _,fun u _ hbe _ _=>⟨u,by simp only[zBn,zH0,h1,hr,h3],PW.refl hbe⟩⟩
    ·cases h
   ·cases h
  ·cases h
 case max=>
  intro s v s' h
  simp only[zBn] at h
  unfold zH0 at h
  split at h
  ·rename_i h1
   split at h
   ·rename_i r hr
    split at h
    ·rename_i h3
     cases h
     exact⟨G1.refl _,fun u _ hbe _ _=>⟨u,by simp only[zBn,zH0,h1,hr,h3],PW.refl hbe⟩⟩
    ·cases h
   ·cases h
  ·cases h
 all_goals exact zA6 fun s=>rfl
theorem yHn (op:UnOp)(x:Operand)(l:zAz):Tr (yHg P op x l):=by
 intro s v s' h
 unfold yHg at h
 split at h
 ·rename_i h1
  split at h
  ·rename_i r hr
   split at h
   ·rename_i h3
    cases h
    exact⟨G1.refl _,fun u _ hbe _ _=>⟨u,by simp only[yHg,h1,hr,h3],PW.refl hbe⟩⟩
   ·cases h
  ·cases h
 ·cases h
theorem zRi (r:Option Operand)(l:zAz):Tr (zIg r l):=by
 cases r with
 |none=>exact zLp (some (.ob (.mp [] 0),fun n=>.map (some n))) fun s=>rfl
 |some _=>exact zA6 fun s=>rfl
theorem zW6 (d:Option TypeDesc)(x k:Value)(ok:Bool):Tr (fun s=>zJc P s d x k ok):=by
 intro s v s' h
 simp only at h
 unfold zJc at h
 split at h
 case h_2=>cases h
 rename_i kt e
 split at h
 case h_2=>cases h
 rename_i hk
 unfold zX5 at h
 split at h
 case h_2=>cases h
 rename_i r hr
 obtain⟨es,s1⟩:=r
 split at h
 case h_2=>cases h
 rename_i v' hv
 cases h
 split at hr
 case h_2=>cases hr
 rename_i a
 split at hr
 ·cases hr
  exact⟨G1.refl _,fun u _ hbe _ _=>⟨u,by simp only[zJc,hk,zX5,hv],PW.refl hbe⟩⟩
 ·rename_i id
  split at hr
  case h_2=>cases hr
  rename_i o hg
  split at hr
  case h_2=>cases hr
  rename_i es' ck
  cases hr
  refine⟨G1.read hg,fun u _ hbe hag _=>⟨u.read id,?_,PW.read hbe id⟩⟩
  have e1:u.h.get id=some (.ob (.mp es ck)):=(hag id zBq).trans hg
  simp only[zJc,hk,zX5,e1,hv]
theorem zW7 (d:Option TypeDesc)(x k v:Value):Tr (fun s=>zK2 P s d x k v):=by
 intro s a s' h
 simp only at h
 unfold zK2 at h
 split at h
 case h_2=>cases h
 rename_i kt e id
 split at h
 case h_2=>cases h
 rename_i hk
 split at h
 case h_2=>cases h
 rename_i o hg
 split at h
 case h_2=>cases h
 rename_i es ck
 split at h
 case h_2=>cases h
 rename_i es' hu
 cases h
 refine⟨G1.write hg,fun u _ hbe hag _=>⟨u.write id _,?_,PW.write hbe id _⟩⟩
 have e1:u.h.get id=some (.ob (.mp es ck)):=(hag id zBq).trans hg
 simp only[zK2,hk,e1,hu]
theorem zYv (d:Option TypeDesc)(x:Value):Tr (fun s=>zNj s d x):=by
 intro s v s' h
 simp only at h
 unfold zNj at h
 split at h
 case h_2=>cases h
 rename_i kt e a
 split at h
 ·cases h
  exact⟨G1.new _ _,fun u _ hbe _ _=>⟨u.new _,by simp only[zNj,hbe.next],PW.new hbe _⟩⟩
 ·rename_i id
  split at h
  case h_2=>cases h
  rename_i o hg
  split at h
  case h_2=>cases h
  rename_i es ck
  cases h
  refine⟨(G1.read hg).trans (G1.new _ _),fun u _ hbe hag _=>⟨(u.read id).new _,?_,(PW.read hbe id).trans (PW.new (PW.read hbe id).beside _)⟩⟩
  have e1:u.h.get id=some (.ob (.mp es ck)):=(hag id zBq).trans hg
  simp only[zNj,e1,hbe.next]
theorem yDp (x:Value)(str:Bool):Tr (fun s=>zS2 s x str):=by
 intro s v s' h
 simp only at h
 unfold zS2 at h
 split at h
 case h_2=>cases h
 rename_i r
 split at h
 case h_2=>cases h
 rename_i o hg
 split at h
 case h_2=>cases h
 rename_i m since seen last
 unfold zNk at h
 split at h
 ·cases h
  refine⟨G1.read hg,fun u _ hbe hag _=>⟨u.read r,?_,PW.read hbe r⟩⟩
  have e1:u.h.get r=some (.ob (.it none since seen last)):=(hag r zBq).trans hg
  simp only[zS2,e1,zNk]
 ·rename_i id
  split at h
  case h_2=>cases h
  rename_i o2 hg2
  split at h
  case h_2=>cases h
  rename_i es ck
  unfold zQq at h
  split at h
  case h_2=>cases h
  rename_i hc
  split at h
  ·rename_i hl
   cases h
   have hg2':(s.read r).h.get id=some (.ob (.mp es ck)):=hg2
   refine⟨(G1.read hg).trans (G1.read hg2'),fun u _ hbe hag _=>⟨(u.read r).read id,?_,(PW.read hbe r).trans (PW.read (PW.read hbe r).beside id)⟩⟩
   have e1:u.h.get r=some (.ob (.it (some id) since seen last)):=(hag r (zBh.2 (.inl zBq))).trans hg
   have e2:u.h.get id=some (.ob (.mp es ck)):=(hag id zBq).trans hg2
   simp only[zS2,e1,zNk,e2,zQq,hc,hl]
  ·rename_i e t hl
   split at h
   case h_2=>cases h
   cases h
   have hg1:(s.read id).h.get r=some (.ob (.it (some id) since seen last)):=hg
   refine⟨(G1.read hg2).trans (G1.write hg1),fun u _ hbe hag _=>⟨(u.read id).write r _,?_,(PW.read hbe id).trans (PW.write (PW.read hbe id).beside r _)⟩⟩
   have e1:u.h.get r=some (.ob (.it (some id) since seen last)):=(hag r zBq).trans hg
   have e2:u.h.get id=some (.ob (.mp es ck)):=(hag id (zBh.2 (.inl zBq))).trans hg2
   simp only[zS2,e1,zNk,e2,zQq,hc,hl]
theorem zYw (x:Value):Tr (fun s=>zQs s x):=by
 intro s v s' h
 simp only at h
 unfold zQs at h
 split at h
 case h_2=>cases h
 rename_i r
 split at h
 case h_2=>cases h
 rename_i o hg
 split at h
 case h_2=>cases h
 rename_i m since seen last
 unfold zOw at h
 split at h
 case h_1=>cases h
 rename_i id
 split at h
 case h_2=>cases h
 rename_i o2 hg2
 split at h
 case h_2=>cases h
 rename_i es ck
 unfold zOv at h
 split at h
 case h_2=>cases h
 rename_i n hc hn
 split at h
 case h_2=>cases h
 rename_i e he
 cases h
 have hg2':(s.read r).h.get id=some (.ob (.mp es ck)):=hg2
 refine⟨(G1.read hg).trans (G1.read hg2'),fun u _ hbe hag _=>⟨(u.read r).read id,?_,(PW.read hbe r).trans (PW.read (PW.read hbe r).beside id)⟩⟩
 have e1:u.h.get r=some (.ob (.it (some id) since seen last)):=(hag r (zBh.2 (.inl zBq))).trans hg
 have e2:u.h.get id=some (.ob (.mp es ck)):=(hag id zBq).trans hg2
 simp only[zQs,e1,zOw,e2,zOv,hc,hn,he]
theorem zRj {call:Call}(hc:∀ f args,Tr (call f args))(o:Oper)(l:zAz):Tr (opD P call o l):=by
 unfold opD
 cases hop:o.op
 case move x=>exact zRg _ _
 case assign x=>exact zRg _ _
 case pick c a b=>exact zYr _ _ _ _
 case alloc e=>exact zW3 _ _
 case box e x=>exact yDk _ _ _
 case build t ps=>exact zJ1 _
 case buildSlice t n ps=>exact zLq _ _ _ _
 case load t a=>exact zYq _ _ _
 case store t a x=>exact zW2 _ _ _ _
 case nilCheck x=>
  cases hv:evalO l x with
  |pointer a=>cases a with
   |none=>exact zA6 fun s=>by simp[zCu,hv]
   |some a=>exact zBd (some (.pointer (some a))) fun s=>by simp[zCu,hv]
  |func f a b=>cases f with
   |func f=>exact zBd (some (.func (.func f) a b)) fun s=>by simp[zCu,hv]
   |_=>exact zA6 fun s=>by simp[zCu,hv]
  |_=>exact zA6 fun s=>by simp[zCu,hv]
 case binOp op t x y yt=>exact zJ1 _
 case unOp op xt x=>exact yHn _ _ _
 case convert a b x=>exact zTg _ _ _
 case makeInterface t x=>
  cases ht:typ P t with
  |none=>exact zA6 fun s=>by simp only[zBz,ht]
  |some d=>
   cases d
   case interface=>exact zA6 fun s=>by simp only[zBz,ht]
   all_goals exact zBd (some (.iface t (evalO l x))) fun s=>by simp only[zBz,ht]
 case makeFunc fn a b=>exact zBd (some _) fun s=>rfl
 case makeSlice t n c=>exact zNd _ _ _ _
 case slice t x lo hi mx=>exact zJ1 _
 case fieldAddr t x f=>exact zJ1 _
 case field t x f=>exact zJ1 _
 case indexAddr t x i=>exact zJ1 _
 case index t x i=>exact zJ1 _
 case extract t i=>
  show Tr (zDd t i l)
  cases hv:evalO l t with
  |tuple vs=>cases hl:vs.toList with
   |nil=>exact zA6 fun s=>by simp only[zDd,hv,hl]
   |cons w ws=>
    have:zDd t i l=ofV (nth (w::ws) i):=by funext s;simp only[zDd,hv,hl]
    rw[this];exact zJ1 _
  |_=>exact zA6 fun s=>by simp only[zDd,hv]
 case makeMap t r=>exact zRi _ _
 case lookup t x k ok=>exact zW6 _ _ _ _
 case mapUpdate t x k v=>exact zW7 _ _ _ _
 case range t x=>exact zYv _ _
 case next x str=>exact yDp _ _
 case entry x=>exact zYw _
 case call c=>
  show Tr (zIh P call c o.type l)
  unfold zIh
  cases hcal:c.callee with
  |builtin b=>exact zRh _ _ _ _ _
  |value f=>
   show Tr (zE7 call f c.args l)
   cases hv:evalO l f with
   |func g first cap=>cases g with
    |func g=>
     have:zE7 call f c.args l=call g (first.toList++(zE6 l c.args.toList++cap.toList)):=by funext s;simp only[zE7,hv]
     rw[this];exact hc _ _
    |_=>exact zA6 fun s=>by simp only[zE7,hv]
   |_=>exact zA6 fun s=>by simp only[zE7,hv]
  |invoke _ _=>exact zA6 fun s=>rfl
 all_goals exact zA6 fun s=>rfl
end Go.Det
section
namespace Go.Det
variable {P:Program}
def Glob (G:Nat)(φ:Ren):Prop:=∀ g,g < G→∃ sz,φ g=some (g,0,sz)
theorem Glob.mono {G:Nat}{φ φ':Ren}(h:Glob G φ)(k:Le φ φ'):Glob G φ':=fun g hg=>let ⟨sz,e⟩:=h g hg;⟨sz,k _ _ e⟩
def zHv (P:Program)(w0:World)(G:Nat)(call:Call):Prop:=
 ∀ f args s v s',call f args s=some (v,s')→∀ φ w args',HR φ s.h w0 w→Glob G φ→VRL φ args args'→(∀ id,s.next≤id→id < s'.hi→φ id=none)→Full s'.hi s→
  Gives P w0 φ s.next s' v ((callFunc f ⟨args'⟩).run P w)
section
variable {w0 w:World} {φ:Ren} {l:zAz} {s s':St} {v:Value} {ρ:Operand→Value} {lo G:Nat} {call:Call}
theorem yF7 (hcall:zHv P w0 G call) (hT:∀ f args,Tr (call f args)) {o:Oper} (h:opD P call o l s=some (v,s')) (H:HR φ s.h w0 w) (hG:Glob G φ)
    (hρ:∀ x∈o.op.operands.toList,VR φ (evalO l x) (ρ x)) (hf:∀ id,s.next≤id→id < s'.hi→φ id=none) (hi:Full s'.hi s):Gives P w0 φ s.next s' v ((execOp ρ o).run P w):=by
  have hg1:=(zRj (P:=P) hT o l s v s' h).1
  have hf' : ∀ id, s.next ≤ id → id < s'.next → φ id = none := fun id a b => hf id a (Nat.lt_of_lt_of_le b (hg1.inv hi.le))
  unfold opD at h
  unfold execOp
  cases hop : o.op <;> rw [hop] at h hρ <;> simp only [Op.operands] at hρ <;> simp only at h ⊢
  case move x => exact zQz h H (hρ x (by simp))
  case assign x => exact zQz h H (hρ x (by simp))
  case pick c a b => exact zYc h H (hρ c (by simp)) (hρ a (by simp)) (hρ b (by simp))
  case alloc e => exact zWr h H hf'
  case box e x => exact yDe h H hf' (hρ x (by simp))
  case build t ps => exact zWs h H fun x hx => hρ x.2 (by simp; exact ⟨x.1, by simpa using hx⟩)
  case buildSlice t n ps => exact zLi h H hf' fun x hx => hρ x.2 (by simp; exact ⟨x.1, by simpa using hx⟩)
  case load t a => exact (zYh h H (hρ a (by simp))).1
  case store t a x => exact zWu h H (hρ a (by simp)) (hρ x (by simp))
  case nilCheck x=>
    have := zO7 (P := P) (ρ := ρ) (lo := s.next) (o := o) h H (hρ x (by simp)) hop
    unfold execOp at this
    rw[hop] at this
    exact this
  case binOp op t x y yt => exact yDc h H (hρ x (by simp)) (hρ y (by simp))
  case unOp op xt x => exact yHj h H (hρ x (by simp))
  case convert a b x => exact (zRd h H hf' (hρ x (by simp))).1
  case makeInterface t x => exact zIm h H (hρ x (by simp))
  case makeFunc fn a b => exact zO6 h H (fun x hx => hρ x (by simp at hx ⊢; exact .inl hx)) (fun x hx => hρ x (by simp at hx ⊢; exact .inr hx))
  case makeSlice t n c => exact zM8 h H hf' (hρ n (by simp)) (hρ c (by simp))
  case slice t x lo hi mx => exact zWq h H (hρ x (by simp)) (fun y hy => hρ y (by subst hy; simp)) (fun y hy => hρ y (by subst hy; simp)) (fun y hy => hρ y (by subst hy; simp))
  case fieldAddr t x f => exact zM6 h H (hρ x (by simp))
  case field t x f => exact zWn h H (hρ x (by simp))
  case indexAddr t x i => exact zM7 h H (hρ x (by simp)) (hρ i (by simp))
  case index t x i => exact zWo h H (hρ x (by simp)) (hρ i (by simp))
  case extract t i => exact zQ8 h H (hρ t (by simp))
  case makeMap t r => exact zRf h H hf'
  case lookup t x k ok => exact zTe h H (hρ x (by simp)) (hρ k (by simp))
  case range t x => exact zW0 h H hf' (hρ x (by simp))
  case next x str => exact zYo h H (hρ x (by simp))
  case entry x => exact zW1 h H (hρ x (by simp))
  case mapUpdate t x k v => exact zNc h H (hρ x (by simp)) (hρ k (by simp)) (hρ v (by simp))
  case call c=>
    unfold zIh at h
    unfold resolve
    cases hcal:c.callee with
    | builtin b =>
      simp only[hcal] at h hρ ⊢
      simp only[Sem.run_bind,Sem.run_pure,Result.andThen_ok,invoke]
      exact (zRe (P := P) (ρ := ρ) h H hf' (fun x hx => hρ x (by simp [Call.operands, hcal]; simpa using hx))).1
    | value f =>
      simp only[hcal] at h hρ ⊢
      unfold zE7 at h
      split at h
      case h_2 => cases h
      rename_i g first cap hv
      split at h
      case h_2 => cases h
      rename_i g
      have hff := hρ f (by simp [Call.operands, hcal])
      rw[hv] at hff
      obtain⟨a',c',e,q1,q2⟩:=zKi hff
      have hargs:VRL φ (zE6 l c.args.toList) (c.args.map ρ).toList:=by
        rw [Array.toList_map]; exact zKj fun x hx => hρ x (by simp [Call.operands, hcal]; right; simpa using hx)
      have hall:=q1.append (hargs.append q2)
      have g1:=hcall _ _ _ _ _ h φ w _ H hG hall hf hi
      have e2 : (⟨a'.toList ++ ((c.args.map ρ).toList ++ c'.toList)⟩ : Array Value) = (a' ++ c.args.map ρ) ++ c' := by apply Array.ext'; simp
      rw[e2] at g1
      simpa [e,Deferred.ofValue,invoke] using g1
    | invoke r m => simp only [hcal] at h; cases h
  all_goals cases h
end
end Go.Det
end
namespace Go.Det
variable {P:Program}
def obind {α β:Type}(r:Option (α×St))(g:α→St→Option (β×St)):Option (β×St):=match r with
 |some x=>g x.1 x.2
 |none=>none
def omap {α β:Type}(r:Option (α×St))(g:α→β):Option (β×St):=match r with
 |some x=>some (g x.1,x.2)
 |none=>none
def asc (r:Option (Ex×zAz×St)):Option ((Ex×zAz)×St):=match r with
 |some x=>some ((x.1,x.2.1),x.2.2)
 |none=>none
theorem Tr.congr {α:Type}{f g:St→Option (α×St)}(h:Tr f)(e:∀ s,g s=f s):Tr g:=by
 have:g=f:=funext e
 rw[this];exact h
theorem Tr.obind {α β:Type}{f:St→Option (α×St)}{g:α→St→Option (β×St)}(hf:Tr f)(hg:∀ a,Tr (g a)):Tr (fun s=>Det.obind (f s) g):=
 (Tr.bind hf hg).congr fun s=>by
  unfold Det.obind
  cases f s<;>rfl
theorem Tr.map {α β:Type}{f:St→Option (α×St)}(hf:Tr f)(g:α→β):Tr (fun s=>match f s with|some x=>some (g x.1,x.2)|none=>none):=by
 intro s b s' h
 simp only at h
 split at h
 case h_2=>cases h
 rename_i x hx
 obtain⟨a,s1⟩:=x
 cases h
 obtain⟨g1,k⟩:=hf s a s1 hx
 refine⟨g1,fun t h1 h2 h3 h4=>?_⟩
 obtain⟨t',e,p⟩:=k t h1 h2 h3 h4
 exact⟨t',by simp only[e],p⟩
theorem Tr.omap {α β:Type}{f:St→Option (α×St)}(hf:Tr f)(g:α→β):Tr (fun s=>Det.omap (f s) g):=
 (Tr.map hf g).congr fun s=>by
  unfold Det.omap
  cases f s<;>rfl
theorem zYx {f:St→Option (Value×St)}{ih:zAz→St→Option (zAz×St)}(hf:Tr f)(hi:∀ l,Tr (ih l))(l:zAz)(d:Option Tmp):Tr (fun s=>zNm l d ih (f s)):=by
 exact(Tr.obind hf (fun v=>hi (zJd l d v))).congr fun s=>by unfold zNm Det.obind;cases f s<;>rfl
theorem yDq (call:Call)(all:List Oper)(l:zAz)(s:St):zWg P call all [] l s=some (l,s):=rfl
theorem zGu (call:Call)(all:List Oper)(o:Oper)(rest:List Oper)(l:zAz)(s:St):
  zWg P call all (o::rest) l s=zH1 (opD P call o) o.dst (fun l=>zBp all l o) (zWg P call all rest) l s:=rfl
theorem zLr {call:Call}(hc:∀ f args,Tr (call f args))(all:List Oper):∀ (ops:List Oper) (l:zAz),Tr (zWg P call all ops l)
 |[],l=>zBd (some l) fun _=>rfl
 |o::rest,l=>by
  cases hw:zBp all l o with
  |none=>exact zA6 fun s=>by rw[zGu];simp only[zH1,hw]
  |some b=>cases b with
   |true=>
    have e:zWg P call all (o::rest) l=fun s=>zNm l o.dst (zWg P call all rest) (opD P call o l s):=by funext s;rw[zGu];simp only[zH1,hw]
    rw[e];exact zYx (zRj hc o l) (zLr hc all rest) l o.dst
   |false=>
    have e:zWg P call all (o::rest) l=zWg P call all rest (zJd l o.dst skp):=by funext s;rw[zGu];simp only[zH1,hw]
    rw[e];exact zLr hc all rest _
def solo (s:St):St:={ h:=s.h,next:=s.next,hi:=s.next,rd:=0,wr:=0 }
def zRk (s x:St):St:={ h:=x.h,next:=x.hi,hi:=Nat.max s.hi x.hi,rd:=Nat.lor s.rd x.rd,wr:=Nat.lor s.wr x.wr }
theorem G1.solo {s x:St}(g:G1 (solo s) x):G1 s (zRk s x):=by
 have hi:x.next≤x.hi:=g.inv (Nat.le_refl _)
 have hn:s.next≤x.next:=g.next
 refine⟨Nat.le_trans hn hi,Nat.le_max_left _ _,fun _=>Nat.le_max_right _ _,fun i q=>zBh.2 (.inl q),fun i q=>zBh.2 (.inl q),fun i q=>g.frame i fun r=>q (zBh.2 (.inr r)),fun i q=>?_,fun i q=>g.keep i q,fun i q=>?_,fun i q=>?_⟩
 ·rcases g.dom i q with r|r
  ·exact .inl r
  ·right;exact⟨r.1,Nat.lt_of_lt_of_le r.2 hi⟩
 ·rcases zBh.1 q with r|r
  ·exact .inl r
  ·rcases g.oldw i r with r|⟨r1,r2⟩|r
   ·exact absurd r zEr
   ·exact .inr (.inl ⟨zBh.2 (.inr r1),r2⟩)
   ·right;right;exact⟨r.1,Nat.lt_of_lt_of_le r.2 hi⟩
 ·rcases zBh.1 q with r|r
  ·exact .inl r
  ·rcases g.oldr i r with r|r|r
   ·exact absurd r zEr
   ·exact .inr (.inl r)
   ·right;right;exact⟨r.1,Nat.lt_of_lt_of_le r.2 hi⟩
def yDr {α:Type}(s:St)(r:Option (α×St)):Option ((α×Nat×Nat)×St):=match r with
 |some x=>some ((x.1,x.2.rd,x.2.wr),zRk s x.2)
 |none=>none
theorem Tr.solo {α:Type}{f:St→Option (α×St)}(hf:Tr f):Tr (fun s=>yDr s (f (Det.solo s))):=by
 intro s a s' h
 simp only at h
 unfold yDr at h
 split at h
 case h_2=>cases h
 rename_i x hx
 obtain⟨v,y⟩:=x
 cases h
 obtain⟨g,k⟩:=hf _ _ _ hx
 refine⟨g.solo,fun t hF hb hr hn=>?_⟩
 obtain⟨t',e,p⟩:=k (Det.solo t) ⟨Nat.le_refl _,fun i hi hB=>hF.get i hi (Nat.lt_of_lt_of_le hB (Nat.le_max_right _ _))⟩ ⟨hb.next,hb.next,rfl,rfl⟩ (fun i q=>hr i (zBh.2 (.inr q))) (fun i q1 q2=>hn i q1 (Nat.lt_of_lt_of_le q2 (Nat.le_max_right _ _)))
 refine⟨zRk t t',by simp only[yDr,e,p.rd,p.wr],⟨?_,?_,?_,?_,p.pt⟩⟩
 ·exact p.hi
 ·show Nat.max t.hi t'.hi=Nat.max s.hi y.hi;rw[hb.hi,p.hi]
 ·show Nat.lor t.rd t'.rd=Nat.lor s.rd y.rd;rw[hb.rd,p.rd]
 ·show Nat.lor t.wr t'.wr=Nat.lor s.wr y.wr;rw[hb.wr,p.wr]
theorem zYy (call:Call)(all:List Oper)(done:List zDv)(sl:List zJ7)(l:zAz)(s:St):zJ8 P call all [] done sl l s=some (l,s):=rfl
theorem zHf (call:Call)(all:List Oper)(o:Oper)(rest:List Oper)(done:List zDv)(sl:List zJ7)(l:zAz)(s:St):
  zJ8 P call all (o::rest) done sl l s=(match zFt done.length o.after.toList with
   |true=>zHc P all o done sl (zJ8 P call all rest) l s (zC5 (opD P call o) (fun l=>zBp all l o) l (solo s))
   |false=>none):=rfl
theorem zNx {f:OpF}(w:zAz→Option Bool)(l:zAz)(hf:Tr (f l)):Tr (zC5 f w l):=by
 cases hw:w l with
 |none=>exact zA6 fun s=>by simp only[zC5,hw]
 |some b=>cases b with
  |true=>
   have:zC5 f w l=f l:=by funext s;simp only[zC5,hw]
   rw[this];exact hf
  |false=>exact zBd (some skp) fun s=>by simp only[zC5,hw]
def zDf (all:List Oper)(o:Oper)(done:List zDv)(rd wr:Nat):zDv:={ rt:=zNl all o,wt:=zO3 o,rd:=rd,wr:=wr,before:=zHb done o.after.toList }
theorem zW8 (x:Option zJ7):Tr (fun s=>match zJe P x s with|some s'=>some ((),s')|none=>none):=by
 cases x with
 |none=>exact zA6 fun s=>rfl
 |some y=>cases y with
  |none=>exact zA6 fun s=>rfl
  |some z=>
   obtain⟨ty,a,v⟩:=z
   refine(Tr.obind (zPd (P:=P) ty a) (g:=fun r s=>match zWh v r with|true=>some ((),s)|false=>none) fun r=>?_).congr fun s=>?_
   ·cases zWh v r with
    |true=>exact zBd (some ()) fun s=>rfl
    |false=>exact zA6 fun s=>rfl
   ·simp only[Det.obind,zJe]
    cases hl:zDw P s ty a with
    |none=>rfl
    |some r=>simp only;cases zWh v r.1<;>rfl
theorem zLs (f:zDv):∀ (done:List zDv) (i:Nat) (sl:List zJ7),Tr (fun s=>match zD4 P f i done sl s with|some s'=>some ((),s')|none=>none)
 |[],i,sl=>zBd (some ()) fun s=>by simp only[zD4]
 |g::t,i,sl=>by
  cases h1:(Nat.testBit f.before i||apart g f) with
  |true=>exact(zLs f t (i+1) sl.tail).congr fun s=>by simp only[zD4,h1]
  |false=>cases h2:apartS g f with
   |false=>exact zA6 fun s=>by simp only[zD4,h1,h2]
   |true=>
    refine(Tr.obind (zW8 (P:=P) sl.head?) (g:=fun _ s=>match zD4 P f (i+1) t sl.tail s with|some s'=>some ((),s')|none=>none) fun _=>zLs f t (i+1) sl.tail).congr fun s=>?_
    simp only[Det.obind,zD4,h1,h2]
    cases zJe P sl.head? s<;>rfl
def zUx (call:Call)(all:List Oper)(o:Oper)(rest:List Oper)(done:List zDv)(sl:List zJ7)(l:zAz)(a:Value×Nat×Nat)(s:St):Option (zAz×St):=
 zNn P (zDf all o done a.2.1 a.2.2) done sl (zJ8 P call all rest (done++[zDf all o done a.2.1 a.2.2]) (sl++[zJy all o l a.1])) (zJd l o.dst a.1) s
theorem zPe {call:Call}(hc:∀ f args,Tr (call f args))(all:List Oper):∀ (ops:List Oper) (done:List zDv) (sl:List zJ7) (l:zAz),Tr (zJ8 P call all ops done sl l)
 |[],_,_,l=>zBd (some l) fun _=>rfl
 |o::rest,done,sl,l=>by
  cases he:zFt done.length o.after.toList with
  |false=>exact zA6 fun s=>by rw[zHf];simp only[he]
  |true=>
   refine(Tr.obind (Tr.solo (zNx (f:=opD P call o) (fun l=>zBp all l o) l (zRj hc o l))) (g:=zUx (P:=P) call all o rest done sl l) (fun a=>?_)).congr fun s=>?_
   ·refine(Tr.obind (zLs (P:=P) (zDf all o done a.2.1 a.2.2) done 0 sl) (g:=fun _=>zJ8 P call all rest (done++[zDf all o done a.2.1 a.2.2]) (sl++[zJy all o l a.1]) (zJd l o.dst a.1)) fun _=>zPe hc all rest _ _ _).congr fun s=>?_
    simp only[zUx,zNn,Det.obind]
    cases zD4 P (zDf all o done a.2.1 a.2.2) 0 done sl s<;>rfl
   ·rw[zHf]
    simp only[he]
    unfold zHc yDr Det.obind
    cases zC5 (opD P call o) (fun l=>zBp all l o) l (solo s)<;>rfl
def TrC (f:zDa):Prop:=∀ l,Tr (fun s=>asc (f l s))
theorem zYz {f:St→Option (zAz×St)}(hf:Tr f):Tr (fun s=>asc (yF4 (f s))):=
 (hf.omap (fun l=>(Ex.normal,l))).congr fun s=>by unfold asc yF4 Det.omap;cases f s<;>rfl
def yHo (g:zDa)(a:Ex×zAz)(s:St):Option ((Ex×zAz)×St):=match a.1 with
 |.normal=>asc (g a.2 s)
 |e=>some ((e,a.2),s)
theorem zY0 {f g:zDa}(hf:TrC f)(hg:TrC g):TrC (yHi f g):=by
 intro l
 refine(Tr.obind (hf l) (g:=yHo g) (fun a=>?_)).congr fun s=>?_
 ·obtain⟨e,l1⟩:=a
  cases e with
  |normal=>exact hg l1
  |exit i=>exact zBd (some (Ex.exit i,l1)) fun _=>rfl
  |ret=>exact zBd (some (Ex.ret,l1)) fun _=>rfl
 ·unfold yHi andThen
  cases f l s with
  |none=>rfl
  |some x=>obtain⟨e,l1,s1⟩:=x;cases e<;>rfl
theorem zPf {f:zDa}(hf:TrC f):∀ k,TrC (zX8 k f)
 |0=>fun _=>zA6 fun _=>rfl
 |k+1=>zY0 hf (zPf hf k)
def yPx (id:Nat)(a:Ex×zAz):Ex×zAz:=match a.1 with
 |.exit i=>(match Nat.beq i id with|true=>Ex.normal|false=>Ex.exit i,a.2)
 |e=>(e,a.2)
theorem zY1 {f:zDa}(hf:TrC f)(id:Nat):TrC (zQu id f):=by
 intro l
 refine((hf l).omap (yPx id)).congr fun s=>?_
 unfold zQu zS4
 cases f l s with
 |none=>rfl
 |some x=>
  obtain⟨e,l1,s1⟩:=x
  cases e with
  |exit i=>
   show asc (match Nat.beq i id with|true=>some (Ex.normal,l1,s1)|false=>some (Ex.exit i,l1,s1))=some (yPx id (Ex.exit i,l1),s1)
   unfold yPx
   cases hb:Nat.beq i id<;>simp only[hb]<;>rfl
  |_=>rfl
theorem yDs {f g:zDa}(hf:TrC f)(hg:TrC g)(c:Operand):TrC (zS3 c f g):=by
 intro l
 cases hv:evalO l c with
 |bool b=>cases b with
  |true=>exact(hf l).congr fun s=>by simp only[zS3,hv]
  |false=>exact(hg l).congr fun s=>by simp only[zS3,hv]
 |_=>exact zA6 fun s=>by simp only[zS3,hv];rfl
theorem zIq {call:Call}(hc:∀ f args,Tr (call f args))(k:Nat)(c:Code):TrC (zM1 P call k c):=by
 induction c with
 |skip=>exact fun l=>zBd (some (Ex.normal,l)) fun _=>rfl
 |region id ops draw=>
  cases draw with
  |true=>exact fun l=>zYz (zPe hc ops.toList ops.toList [] [] l)
  |false=>exact fun l=>zYz (zLr hc ops.toList ops.toList l)
 |seq a b ha hb=>exact zY0 ha hb
 |cond c a b ha hb=>exact yDs ha hb c
 |block id a ha=>exact zY1 ha id
 |loop a ha=>exact zPf ha k
 |exit id=>exact fun l=>zBd (some (Ex.exit id,l)) fun _=>rfl
 |ret=>exact fun l=>zBd (some (Ex.ret,l)) fun _=>rfl
 |_=>exact fun l=>zA6 fun _=>rfl
end Go.Det
namespace Go.Det
variable {P:Program}
theorem yDt (l:zAz)(s:St):zQv P l s []=some ([],s):=rfl
theorem zPg (l:zAz)(s:St)(t:Tmp)(rest:List ResultVar):zQv P l s (.tmp t::rest)=match zQv P l s rest with|some (vs,s)=>some (zEp l t::vs,s)|none=>none:=rfl
theorem zLt (l:zAz)(s:St)(a:Tmp)(t:TypeId)(rest:List ResultVar):zQv P l s (.cell a t::rest)=match zDw P s t (zEp l a) with
  |some (v,s)=>(match zQv P l s rest with|some (vs,s)=>some (v::vs,s)|none=>none)
  |none=>none:=rfl
theorem zLu (l:zAz):∀ rs,Tr (fun s=>zQv P l s rs)
 |[]=>zBd (some []) fun _=>rfl
 |.tmp t::rest=>((zLu l rest).omap (fun vs=>zEp l t::vs)).congr fun s=>by
   rw[zPg];unfold omap;cases zQv P l s rest<;>rfl
 |.cell a t::rest=>(Tr.obind (zPd t (zEp l a)) (fun v=>(zLu l rest).omap (fun vs=>v::vs))).congr fun s=>by
   rw[zLt];unfold obind omap
   cases zDw P s t (zEp l a) with
   |none=>rfl
   |some x=>obtain⟨v,s1⟩:=x;simp only;cases zQv P l s1 rest<;>rfl
def yF8 (s:St):St:={ h:=s.h,next:=s.next,hi:=s.hi,rd:=s.rd,wr:=0 }
theorem Tr.gc {f:St→Option (Value×St)}(hf:Tr f):Tr (fun s=>match f (yF8 s) with|some x=>gcD s x.1 x.2|none=>none):=by
 intro s v s' h
 simp only at h
 split at h
 case h_2=>cases h
 rename_i x hx
 obtain⟨v1,y⟩:=x
 simp only at h
 obtain⟨g,k⟩:=hf _ _ _ hx
 unfold gcD at h
 cases hc:(flat v1&&(Nat.beq (Nat.mod y.wr (Nat.shiftLeft 1 s.next)) 0&&Nat.ble (Nat.lor y.rd y.wr+1) (Nat.shiftLeft 1 y.next)))<;>rw[hc] at h<;>simp only[Option.some.injEq,Prod.mk.injEq] at h<;>obtain⟨rfl,rfl⟩:=h
 ·refine⟨⟨g.next,g.hi,g.inv,g.rd,fun i q=>zBh.2 (.inl q),fun i q=>g.frame i fun r=>q (zBh.2 (.inr r)),g.dom,g.keep,fun i q=>?_,g.oldr⟩,fun t hF hb hr hn=>?_⟩
  ·rcases zBh.1 q with r|r
   ·exact .inl r
   ·rcases g.oldw i r with r|r|r
    ·exact absurd r zEr
    ·exact .inr (.inl r)
    ·exact .inr (.inr r)
  ·obtain⟨t',e,p⟩:=k (yF8 t) ⟨hF.le,hF.get⟩ ⟨hb.next,hb.hi,hb.rd,rfl⟩ hr hn
   refine⟨{ h:=t'.h,next:=t'.next,hi:=t'.hi,rd:=t'.rd,wr:=Nat.lor t.wr t'.wr },?_,⟨p.next,p.hi,p.rd,?_,p.pt⟩⟩
   ·simp only[e]
    unfold gcD
    have hc':(flat v1&&(Nat.beq (Nat.mod t'.wr (Nat.shiftLeft 1 t.next)) 0&&Nat.ble (Nat.lor t'.rd t'.wr+1) (Nat.shiftLeft 1 t'.next)))=false:=by rw[p.rd,p.wr,p.next,hb.next];exact hc
    rw[hc']
   ·show Nat.lor t.wr t'.wr=Nat.lor s.wr y.wr;rw[hb.wr,p.wr]
 ·refine⟨⟨Nat.le_refl _,g.hi,fun q=>Nat.le_trans q g.hi,fun i q=>zBh.2 (.inl q),fun i q=>q,fun i _=>rfl,fun i q=>.inl q,fun i q=>q,fun i q=>.inl q,fun i q=>?_⟩,fun t hF hb hr hn=>?_⟩
  ·rcases zBh.1 q with r|r
   ·exact .inl r
   ·obtain⟨r1,r2⟩:=zTf.1 r
    rcases g.oldr i r2 with r|r|r
    ·exact .inl r
    ·exact .inr (.inl r)
    ·exact absurd r1 (Nat.not_lt.2 r.1)
  ·have hle:y.next≤y.hi:=g.inv hF.le
   have hbd:∀ i,bit y.rd i→i < y.next:=fun i q=>by
    rw[Bool.and_eq_true,Bool.and_eq_true] at hc
    exact zYp (Nat.le_of_ble_eq_true hc.2.2) (zBh.2 (.inl q))
   obtain⟨t',e,p⟩:=k (yF8 t) ⟨hF.le,hF.get⟩ ⟨hb.next,hb.hi,hb.rd,rfl⟩ (fun i q=>by
     rcases g.oldr i q with r|r|r
     ·exact hr i (zBh.2 (.inl r))
     ·have:i < s.next:=by
       rcases Nat.lt_or_ge i s.next with q2|q2
       ·exact q2
       ·exact absurd (hF.get i q2 (Nat.lt_of_lt_of_le (hbd i q) hle)) r
      exact hr i (zBh.2 (.inr (zTf.2 ⟨this,q⟩)))
     ·exact(hn i r.1 (Nat.lt_of_lt_of_le r.2 hle)).trans (hF.get i r.1 (Nat.lt_of_lt_of_le r.2 hle)).symm) hn
   refine⟨{ h:=t.h,next:=t.next,hi:=t'.hi,rd:=Nat.lor t.rd (Nat.mod t'.rd (Nat.shiftLeft 1 t.next)),wr:=t.wr },?_,⟨hb.next,p.hi,?_,hb.wr,fun i=>.inr ⟨rfl,rfl⟩⟩⟩
   ·simp only[e]
    unfold gcD
    have hc':(flat v1&&(Nat.beq (Nat.mod t'.wr (Nat.shiftLeft 1 t.next)) 0&&Nat.ble (Nat.lor t'.rd t'.wr+1) (Nat.shiftLeft 1 t'.next)))=true:=by rw[p.rd,p.wr,p.next,hb.next];exact hc
    rw[hc']
   ·show Nat.lor t.rd (Nat.mod t'.rd (Nat.shiftLeft 1 t.next))=Nat.lor s.rd (Nat.mod y.rd (Nat.shiftLeft 1 s.next));rw[hb.rd,p.rd,hb.next]
def zY2 (fn:Func)(a:Ex×zAz)(s:St):Option (Value×St):=match a.1 with
 |.exit _=>none
 |_=>omap (zQv P a.2 s fn.results.toList) zHr
theorem zY3 (fn:Func)(a:Ex×zAz):Tr (zY2 (P:=P) fn a):=by
 obtain⟨e,l⟩:=a
 cases e with
 |exit i=>exact zA6 fun _=>rfl
 |normal=>exact(zLu l _).omap zHr
 |ret=>exact(zLu l _).omap zHr
theorem zLv (run:Code→zDa)(fn:Func)(c:Code)(args:List Value)(s:St):
  zUq P run fn c args s=match Nat.ble args.length fn.ntmps with
   |true=>(match obind (asc (run c (zAn args 8) (yF8 s))) (zY2 (P:=P) fn) with|some x=>gcD s x.1 x.2|none=>none)
   |false=>none:=by
 unfold zUq
 cases Nat.ble args.length fn.ntmps with
 |false=>rfl
 |true=>
  simp only
  unfold ySl yF5 obind asc zY2 omap yF8
  cases run c (zAn args 8) { h:=s.h,next:=s.next,hi:=s.hi,rd:=s.rd,wr:=0 } with
  |none=>rfl
  |some x=>
   obtain⟨e,l,s1⟩:=x
   cases e with
   |exit i=>rfl
   |normal=>simp only;cases zQv P l s1 fn.results.toList<;>rfl
   |ret=>simp only;cases zQv P l s1 fn.results.toList<;>rfl
theorem zY4 {run:Code→zDa}(fn:Func)(c:Code)(hr:TrC (run c))(args:List Value):Tr (zUq P run fn c args):=by
 cases hb:Nat.ble args.length fn.ntmps with
 |false=>exact zA6 fun s=>by rw[zLv,hb]
 |true=>
  exact(Tr.gc (Tr.obind (hr (zAn args 8)) (zY3 (P:=P) fn))).congr fun s=>by rw[zLv,hb]
abbrev zSv:=FuncId→Option (List Value→St→Option (Value×St))
theorem zW9 (intr:zSv)(n:Nat)(f:FuncId)(args:List Value)(s:St):zJf P intr n 0 f args s=none:=rfl
theorem zNy (intr:zSv)(n k:Nat)(f:FuncId):zJf P intr n (k+1) f=match intr f with
  |some g=>g
  |none=>yDb P (zM1 P (zJf P intr n k) n) (nth P.funcs.toList f):=rfl
theorem zUy {intr:zSv}(hi:∀ f g,intr f=some g→∀ args,Tr (g args))(n:Nat):∀ k f args,Tr (zJf P intr n k f args)
 |0,f,args=>zA6 fun _=>rfl
 |k+1,f,args=>by
  rw[zNy]
  cases hf:intr f with
  |some g=>exact hi f g hf args
  |none=>
   simp only
   unfold yDb
   cases nth P.funcs.toList f with
   |none=>exact zA6 fun _=>rfl
   |some fn=>
    simp only
    cases fn.body with
    |none=>exact zA6 fun _=>rfl
    |some c=>exact zY4 fn c (zIq (zUy hi n k) n c) args
end Go.Det
section
namespace Go.Det
variable {P:Program}
structure Fr (n:Nat) (φ:Ren) (l:zAz) (a:Act):Prop where
 size:a.tmps.size=n
 tmp:∀ t,VR φ (zEp l t) (a.tmps.getD t undef)
 defers:a.defers=[]
def zIr (G:Nat):Operand→Bool
 |.const v=>flat v
 |.global g=>Nat.ble (g+1) G
 |_=>true
def zHg (G:Nat):List Operand→Bool
 |[]=>true
 |x::t=>zIr G x&&zHg G t
def yNd (n:Nat):Option Tmp→Bool
 |some d=>Nat.ble (d+1) n
 |none=>true
def zJ2 (n G:Nat)(o:Oper):Bool:=zHg G o.op.operands.toList&&yNd n o.dst
theorem zE8 {G:Nat}:∀ {l:List Operand},zHg G l=true→∀ x∈l,zIr G x=true
 |[],_,x,hx=>by cases hx
 |y::t,h,x,hx=>by
  simp only[zHg,Bool.and_eq_true] at h
  rcases List.mem_cons.1 hx with rfl|hx
  ·exact h.1
  ·exact zE8 h.2 x hx
theorem Fr.mono {n:Nat}{φ φ':Ren}{l:zAz}{a:Act}(h:Fr n φ l a)(k:Le φ φ'):Fr n φ' l a:=⟨h.size,fun t=>(h.tmp t).mono k,h.defers⟩
theorem Fr.put {n:Nat}{φ:Ren}{l:zAz}{a:Act}(h:Fr n φ l a){dst:Option Tmp}{v v':Value}(hd:yNd n dst=true)(hv:VR φ v v'):Fr n φ (zJd l dst v) (a.put dst v'):=by
 cases dst with
 |none=>exact h
 |some d=>
  have hd:d < n:=Nat.le_of_ble_eq_true hd
  refine⟨by simp[Act.put,h.size],fun t=>?_,h.defers⟩
  show VR φ (zEp (zX1 l d v) t) ((a.tmps.setIfInBounds d v').getD t undef)
  rw[zFv]
  by_cases e:t=d
  ·subst e
   have:(a.tmps.setIfInBounds t v').getD t undef=v':=by
    simp[Array.getD_eq_getD_getElem?,h.size,hd]
   rw[if_pos rfl,this];exact hv
  ·have:(a.tmps.setIfInBounds d v').getD t undef=a.tmps.getD t undef:=by
    simp[Array.getD_eq_getD_getElem?,Array.getElem?_setIfInBounds_ne (Ne.symm e)]
   rw[if_neg e,this];exact h.tmp t
theorem zKo {n G:Nat}{φ:Ren}{l:zAz}{a:Act}(hG:Glob G φ)(h:Fr n φ l a){x:Operand}(hx:zIr G x=true):VR φ (evalO l x) (a.eval x):=by
 cases x with
 |tmp t=>exact h.tmp t
 |const v=>exact zCi hx φ
 |global g=>
  obtain⟨sz,e⟩:=hG g (Nat.le_of_ble_eq_true hx)
  exact .ptr g 0 g 0 sz e
 |func f=>exact .func _ [] [] [] [] rfl (fun _=>.any _) rfl (fun _=>.any _)
theorem yDu {φ:Ren}{v v':Value}(h:VR φ v v')(h1:∀ vs,v≠.tuple vs)(h2:∀ b,v≠.bool b):∀ b,v'≠.bool b:=by
 intro b e
 subst e
 cases h with
 |any=>exact h1 _ rfl
 |bool=>exact h2 _ rfl
theorem zEs {α:Type}:∀ (l:List α) (n:Nat),nth l n=l[n]?
 |[],_=>rfl
 |_::_,0=>rfl
 |_::t,n+1=>by rw[nth,zEs t n];rfl
theorem zRl {n:Nat}{φ:Ren}{l:zAz}{a:Act}{all:Array Oper}{o:Oper}{b:Bool}(hF:Fr n φ l a)(h:zBp all.toList l o=some b):
  Region.wanted o (yielded all a.tmps)=b:=by
 unfold zBp at h
 unfold Region.wanted
 cases hg:o.guard with
 |none=>simp only[hg,Option.some.injEq] at h ⊢;exact h
 |some g=>
  obtain⟨j,want⟩:=g
  simp only[hg] at h ⊢
  split at h
  case h_2=>cases h
  rename_i q hq
  rw[zEs,Array.getElem?_toList] at hq
  split at h
  case h_2=>cases h
  rename_i d hd
  have hv:=hF.tmp d
  unfold yielded
  rw[hq]
  simp only[Option.bind_some,hd]
  rw[Array.getD_eq_getD_getElem?] at hv
  split at h
  ·rename_i c hc
   rw[hc] at hv
   cases h
   have:=zHd hv
   cases he:a.tmps[d]? with
   |none=>rw[he] at this;simp[undef] at this
   |some v'=>rw[he] at this;simp only[Option.getD_some] at this;subst this;cases c<;>cases want<;>rfl
  ·cases h
  ·rename_i h1 h2
   cases h
   have:=yDu hv (fun vs e=>h2 vs e) (fun b e=>h1 b e)
   cases he:a.tmps[d]? with
   |none=>rfl
   |some v'=>
    rw[he] at this
    cases v'<;>first|rfl|exact absurd rfl (this _)
section
variable {w0:World} {n G:Nat} {call:Call}
theorem zTh (hcall:zHv P w0 G call)(hT:∀ f args,Tr (call f args))(all:Array Oper){Q:Exit→Act→World→Prop}:∀ (rest:List Oper),(∀ o∈rest,zJ2 n G o=true)→
  ∀ (l:zAz) (s:St) (l':zAz) (s':St) (φ:Ren) (a:Act) (w:World),zWg P call all.toList rest l s=some (l',s')→HR φ s.h w0 w→Glob G φ→Fr n φ l a→
  (∀ id,s.next≤id→id < s'.hi→φ id=none)→Full s'.hi s→
  (∀ φ' a' w',Ext φ φ' s.next s'.next→HR φ' s'.h w0 w'→Fr n φ' l' a'→Q .normal a' w')→wpList P all Q rest a w
 |[],_,l,s,l',s',φ,a,w,h,H,_,hF,_,_,k=>by
  rw[yDq] at h
  cases h
  exact k φ a w (Ext.refl _ _ _) H hF
 |o::rest,hok,l,s,l',s',φ,a,w,h,H,hG,hF,hf,hi,k=>by
  rw[zGu] at h
  unfold zH1 at h
  have hoo:=hok o (by simp)
  unfold zJ2 at hoo
  rw[Bool.and_eq_true] at hoo
  have hrest:∀ o∈rest,zJ2 n G o=true:=fun o h=>hok o (by simp[h])
  split at h
  case h_2=>cases h
  rename_i b hb
  have hw:=zRl hF hb
  unfold wpList
  cases b with
  |false=>
   simp only at h
   rw[if_neg (by rw[hw];simp)]
   exact zTh hcall hT all rest hrest _ _ _ _ φ _ w h H hG (hF.put hoo.2 .skip) hf hi k
  |true=>
   simp only at h
   rw[if_pos hw]
   left
   unfold zNm at h
   split at h
   case h_2=>cases h
   rename_i x hx
   obtain⟨v,s1⟩:=x
   simp only at h
   have g1:=(zRj (P:=P) hT o l s v s1 hx).1
   have g2:=(zLr (P:=P) hT all.toList rest _ s1 l' s' h).1
   have hgv:=yF7 (ρ:=a.eval) hcall hT hx H hG (fun x hx=>zKo hG hF (zE8 hoo.1 x hx)) (fun id p q=>hf id p (Nat.lt_of_lt_of_le q g2.hi)) (hi.mono g2.hi)
   refine hgv.wp fun φ' v' w' e hv H'=>?_
   refine zTh hcall hT all rest hrest _ s1 l' s' φ' _ w' h H' (hG.mono e.le) ((hF.mono e.le).put hoo.2 hv) (fun id p q=>?_) (hi.step g1) fun φ2 a2 w2 e2 H2 F2=>?_
   ·cases hφ:φ' id with
    |none=>rfl
    |some y=>
     rcases e.new id (by rw[hφ];simp) with r|r
     ·exact absurd (hf id (Nat.le_trans g1.next p) q) r
     ·omega
   ·exact k φ2 a2 w2 (e.trans e2 (Nat.le_refl _) g2.next g1.next (Nat.le_refl _)) H2 F2
end
end Go.Det
end
namespace Go.Det
variable {P:Program}
theorem zEi {l l':zAz}:∀ {xs:List Operand},(∀ x∈xs,evalO l x=evalO l' x)→zE6 l xs=zE6 l' xs
 |[],_=>rfl
 |x::t,h=>by rw[zE6,zE6,h x (by simp),zEi fun y hy=>h y (by simp[hy])]
theorem zGv {l l':zAz}:∀ {xs:List (Nat×Operand)},(∀ x∈xs,evalO l x.2=evalO l' x.2)→zFf l xs=zFf l' xs
 |[],_=>rfl
 |(i,x)::t,h=>by rw[zFf,zFf,h (i,x) (by simp),zGv fun y hy=>h y (by simp[hy])]
theorem zF1 {l l':zAz}{x:Option Operand}(h:∀ y,x=some y→evalO l y=evalO l' y):zC3 l x=zC3 l' x:=by
 cases x with
 |none=>rfl
 |some y=>rw[zC3,zC3,h y rfl]
theorem zRm {call:Call}{o:Oper}{l l':zAz}(h:∀ x∈o.op.operands.toList,evalO l x=evalO l' x):opD P call o l=opD P call o l':=by
 unfold opD
 cases hop:o.op<;>rw[hop] at h<;>simp only[Op.operands] at h<;>simp only
 case move x=>funext s;simp only[zK3,h x (by simp)]
 case assign x=>funext s;simp only[zK3,h x (by simp)]
 case pick c a b=>funext s;simp only[zIe,h c (by simp),h a (by simp),h b (by simp)]
 case alloc e=>rfl
 case box e x=>funext s;simp only[zWf,h x (by simp)]
 case build t ps=>funext s;simp only[zOx,zGv (xs:=ps.toList) (l:=l) (l':=l') fun x hx=>h x.2 (by simp;exact⟨x.1,by simpa using hx⟩)]
 case buildSlice t n ps=>funext s;simp only[zCq,zGv (xs:=ps.toList) (l:=l) (l':=l') fun x hx=>h x.2 (by simp;exact⟨x.1,by simpa using hx⟩)]
 case load t a=>funext s;simp only[zQt,h a (by simp)]
 case store t a x=>funext s;simp only[zGo,h a (by simp),h x (by simp)]
 case nilCheck x=>funext s;simp only[zCu,h x (by simp)]
 case binOp op t x y yt=>funext s;simp only[yC9,h x (by simp),h y (by simp)]
 case unOp op xt x=>funext s;simp only[yHg,h x (by simp)]
 case convert a b x=>funext s;simp only[zIf,h x (by simp)]
 case makeInterface t x=>funext s;simp only[zBz,h x (by simp)]
 case makeFunc fn a b=>
  funext s
  simp only[zHa,zEi (xs:=a.toList) (l:=l) (l':=l') (fun x hx=>h x (by simp at hx ⊢;exact .inl hx)),zEi (xs:=b.toList) (l:=l) (l':=l') (fun x hx=>h x (by simp at hx ⊢;exact .inr hx))]
 case makeSlice t n c=>funext s;simp only[zC4,h n (by simp),h c (by simp)]
 case slice t x lo hi mx=>
  funext s
  simp only[zOy,h x (by simp),zF1 (l:=l) (l':=l') (x:=lo) (fun y hy=>h y (by subst hy;simp)),zF1 (l:=l) (l':=l') (x:=hi) (fun y hy=>h y (by subst hy;simp)),
   zF1 (l:=l) (l':=l') (x:=mx) (fun y hy=>h y (by subst hy;simp))]
 case fieldAddr t x f=>funext s;simp only[zFq,h x (by simp)]
 case field t x f=>funext s;simp only[zOz,h x (by simp)]
 case indexAddr t x i=>funext s;simp only[zFr,h x (by simp),h i (by simp)]
 case index t x i=>funext s;simp only[zO0,h x (by simp),h i (by simp)]
 case extract t i=>funext s;simp only[zDd,h t (by simp)]
 case lookup t x k ok=>funext s;simp only[zKh,h x (by simp),h k (by simp)]
 case range t x=>funext s;simp only[zO1,h x (by simp)]
 case next x str=>funext s;simp only[zUo,h x (by simp)]
 case entry x=>funext s;simp only[zO2,h x (by simp)]
 case mapUpdate t x k v=>funext s;simp only[zFs,h x (by simp),h k (by simp),h v (by simp)]
 case call c=>
  unfold zIh
  cases hcal:c.callee with
  |builtin b=>
   simp only at h ⊢
   funext s
   simp only[zFg,zEi (xs:=c.args.toList) (l:=l) (l':=l') (fun x hx=>h x (by simp[Call.operands,hcal];simpa using hx))]
  |value f=>
   simp only at h ⊢
   funext s
   simp only[zE7,h f (by simp[Call.operands,hcal]),zEi (xs:=c.args.toList) (l:=l) (l':=l') (fun x hx=>h x (by simp[Call.operands,hcal];right;simpa using hx))]
  |invoke r m=>rfl
 all_goals rfl
theorem zXa {l:List Operand}{t:Nat}(h:Operand.tmp t∈l):bit (zUp l) t:=by
 induction l with
 |nil=>cases h
 |cons x r ih=>
  rw[zUp]
  rcases List.mem_cons.1 h with rfl|h
  ·exact zBh.2 (.inl (zD1.2 rfl))
  ·exact zBh.2 (.inr (ih h))
theorem zXb {l l':zAz}{x:Operand}(h:∀ t,x=.tmp t→zEp l t=zEp l' t):evalO l x=evalO l' x:=by
 cases x with
 |tmp t=>exact h t rfl
 |_=>rfl
theorem zPh {call:Call}{all:List Oper}{o:Oper}{l l':zAz}(h:∀ t,bit (zNl all o) t→zEp l t=zEp l' t):
  zBp all l o=zBp all l' o∧zC5 (opD P call o) (fun l=>zBp all l o) l=zC5 (opD P call o) (fun l=>zBp all l o) l':=by
 have e:zBp all l o=zBp all l' o:=by
  unfold zBp
  cases hg:o.guard with
  |none=>rfl
  |some g=>
   simp only
   cases hn:nth all g.1 with
   |none=>rfl
   |some q=>
    simp only
    cases hd:q.dst with
    |none=>rfl
    |some d=>
     simp only
     rw[h d (by unfold zNl;rw[hg];simp only[hn,hd];exact zBh.2 (.inr (zD1.2 rfl)))]
 refine⟨e,?_⟩
 funext s
 unfold zC5
 simp only[e]
 rw[zRm fun x hx=>zXb fun t ht=>h t (by subst ht;exact zBh.2 (.inl (zXa hx)))]
def Last {α:Type}(W:Nat→Nat→Prop)(val:Nat→Nat→α)(v0:Nat→α)(E:Nat→Prop)(x:Nat)(v:α):Prop:=
 (∃ j,E j∧W j x∧(∀ k,E k→W k x→k≤j)∧v=val j x)∨((∀ j,E j→¬ W j x)∧v=v0 x)
theorem Last.unique {α:Type}{W:Nat→Nat→Prop}{val:Nat→Nat→α}{v0:Nat→α}{E E':Nat→Prop}{x:Nat}{v v':α}(h:Last W val v0 E x v)(h':Last W val v0 E' x v')
  (e:∀ j,W j x→(E j↔E' j)):v=v':=by
 rcases h with⟨j,h1,h2,h3,rfl⟩|⟨h1,rfl⟩<;>rcases h' with⟨j',k1,k2,k3,rfl⟩|⟨k1,rfl⟩
 ·have a:=h3 j' ((e j' k2).2 k1) k2
  have b:=k3 j ((e j h2).1 h1) h2
  obtain rfl:j=j':=by omega
  rfl
 ·exact absurd h2 (k1 j ((e j h2).1 h1))
 ·exact absurd k2 (h1 j' ((e j' k2).2 k1))
 ·rfl
theorem Last.add {α:Type}{W:Nat→Nat→Prop}{val:Nat→Nat→α}{v0:Nat→α}{E:Nat→Prop}{x i:Nat}(hw:W i x)(hl:∀ k,E k→W k x→k≤i):
  Last W val v0 (fun j=>j=i∨E j) x (val i x):=
 .inl ⟨i,.inl rfl,hw,fun k hk hkw=>by rcases hk with rfl|hk;exact Nat.le_refl _;exact hl k hk hkw,rfl⟩
theorem Last.skip {α:Type}{W:Nat→Nat→Prop}{val:Nat→Nat→α}{v0:Nat→α}{E:Nat→Prop}{x i:Nat}{v:α}(h:Last W val v0 E x v)(hw:¬ W i x):
  Last W val v0 (fun j=>j=i∨E j) x v:=by
 rcases h with⟨j,h1,h2,h3,h4⟩|⟨h1,h4⟩
 ·exact .inl ⟨j,.inr h1,h2,fun k hk hkw=>by rcases hk with rfl|hk;exact absurd hkw hw;exact h3 k hk hkw,h4⟩
 ·exact .inr ⟨fun j hj=>by rcases hj with rfl|hj;exact hw;exact h1 j hj,h4⟩
theorem Last.iff {α:Type}{W:Nat→Nat→Prop}{val:Nat→Nat→α}{v0:Nat→α}{E E':Nat→Prop}{x:Nat}{v:α}(h:Last W val v0 E x v)(e:∀ j,E j↔E' j):Last W val v0 E' x v:=by
 have:E=E':=funext fun j=>propext (e j)
 rw[← this];exact h
end Go.Det
section
namespace Go.Det
variable {P:Program}
def yDv (P:Program)(call:Call)(all:List Oper)(o:Oper):zAz→St→Option (Value×St):=zC5 (opD P call o) (fun l=>zBp all l o)
theorem zTi {call:Call}(hT:∀ f args,Tr (call f args))(all:List Oper)(o:Oper)(l:zAz):Tr (yDv P call all o l):=
 zNx (f:=opD P call o) (fun l=>zBp all l o) l (zRj hT o l)
structure Trace (P:Program) (call:Call) (all rest:List Oper) (done:List zDv) (sl:List zJ7) (fs:List zDv) (ss:List zJ7) (L:Nat→zAz) (S X:Nat→St) (V:Nat→Value):Prop where
 len:fs.length=rest.length
 slen:ss.length=rest.length
 run:∀ i o,rest[i]?=some o→yDv P call all o (L i) (solo (S i))=some (V i,X i)
 nl:∀ i o,rest[i]?=some o→L (i+1)=zJd (L i) o.dst (V i)
 ft:∀ i o,rest[i]?=some o→∃ f,fs[i]?=some f∧f=zDf all o (done++fs.take i) (X i).rd (X i).wr∧zD4 P f 0 (done++fs.take i) (sl++ss.take i) (zRk (S i) (X i))=some (S (i+1))
 so:∀ i o,rest[i]?=some o→ss[i]?=some (zJy all o (L i) (V i))
 ed:∀ i o,rest[i]?=some o→zFt (done.length+i) o.after.toList=true
theorem zLw {call:Call}{all:List Oper}:∀ (rest:List Oper) (done:List zDv) (sl:List zJ7) (l:zAz) (s:St) (l':zAz) (s':St),zJ8 P call all rest done sl l s=some (l',s')→
  ∃ fs ss L S X V,Trace P call all rest done sl fs ss L S X V∧L 0=l∧S 0=s∧L rest.length=l'∧S rest.length=s'
 |[],done,sl,l,s,l',s',h=>by
  rw[zYy] at h
  cases h
  exact⟨[],[],fun _=>l,fun _=>s,fun _=>s,fun _=>und,⟨rfl,rfl,fun i o h=>by simp at h,fun i o h=>by simp at h,fun i o h=>by simp at h,fun i o h=>by simp at h,fun i o h=>by simp at h⟩,rfl,rfl,rfl,rfl⟩
 |o::rest,done,sl,l,s,l',s',h=>by
  rw[zHf] at h
  split at h
  case h_2=>cases h
  rename_i he
  unfold zHc at h
  split at h
  case h_2=>cases h
  rename_i x hx
  obtain⟨v,y⟩:=x
  simp only at h
  unfold zNn at h
  split at h
  case h_2=>cases h
  rename_i s1 hap
  obtain⟨fs,ss,L,S,X,V,T,e1,e2,e3,e4⟩:=zLw rest _ _ _ _ _ _ h
  refine⟨zDf all o done y.rd y.wr::fs,zJy all o l v::ss,fun i=>match i with|0=>l|i+1=>L i,fun i=>match i with|0=>s|i+1=>S i,fun i=>match i with|0=>y|i+1=>X i,
   fun i=>match i with|0=>v|i+1=>V i,⟨by simp[T.len],by simp[T.slen],fun i q hq=>?_,fun i q hq=>?_,fun i q hq=>?_,fun i q hq=>?_,fun i q hq=>?_⟩,rfl,rfl,e3,e4⟩
  ·cases i with
   |zero=>simp only[List.getElem?_cons_zero,Option.some.injEq] at hq;subst hq;exact hx
   |succ i=>exact T.run i q (by simpa using hq)
  ·cases i with
   |zero=>simp only[List.getElem?_cons_zero,Option.some.injEq] at hq;subst hq;exact e1
   |succ i=>exact T.nl i q (by simpa using hq)
  ·cases i with
   |zero=>
    simp only[List.getElem?_cons_zero,Option.some.injEq] at hq;subst hq
    refine⟨_,rfl,by simp,?_⟩
    simp only[List.take_zero,List.append_nil,Nat.zero_add]
    rw[e2];exact hap
   |succ i=>
    obtain⟨f,f1,f2,f3⟩:=T.ft i q (by simpa using hq)
    refine⟨f,by simpa using f1,?_,?_⟩
    ·rw[f2];simp[zDf,List.append_assoc]
    ·have:=f3;simpa [zDf,List.append_assoc] using this
  ·cases i with
   |zero=>simp only[List.getElem?_cons_zero,Option.some.injEq] at hq;subst hq;rfl
   |succ i=>simpa using T.so i q (by simpa using hq)
  ·cases i with
   |zero=>simp only[List.getElem?_cons_zero,Option.some.injEq] at hq;subst hq;simpa using he
   |succ i=>
    have:=T.ed i q (by simpa using hq)
    simpa [Nat.add_assoc,Nat.add_comm 1 i] using this
theorem zUz {a b:Option Addr}(h:yDa a b=true):a=b:=by
 unfold yDa at h
 split at h
 ·rfl
 ·rw[Bool.and_eq_true] at h
  rw[Nat.eq_of_beq_eq_true h.1,Nat.eq_of_beq_eq_true h.2]
 ·cases h
theorem yDw {a b:Value}(h:zWh a b=true):a=b:=by
 unfold zWh at h
 split at h
 ·rw[zUz h]
 ·simp only[Bool.and_eq_true] at h
  rw[zUz h.1,Nat.eq_of_beq_eq_true h.2.1,Nat.eq_of_beq_eq_true h.2.2]
 ·split at h
  ·rename_i r hr;exact(zJj hr).1 h
  ·cases h
theorem zRn {x:Option zJ7}{s s':St}(h:zJe P x s=some s'):∃ t a v,x=some (some (t,a,v))∧zDw P s t a=some (v,s'):=by
 unfold zJe at h
 split at h
 case h_2=>cases h
 split at h
 case h_2=>cases h
 rename_i z
 split at h
 case h_2=>cases h
 rename_i r hr
 split at h
 case h_2=>cases h
 rename_i hv
 cases h
 exact⟨z.1,z.2.1,z.2.2,rfl,by rw[hr,yDw hv]⟩
theorem zJk {s s':St}{t:TypeId}{a v:Value}(h:zDw P s t a=some (v,s')):∃ id off,a=.pointer (some ⟨id,off,none⟩)∧s'=s.read id∧s.h.get id≠none∧
  ∀ u:St,u.h.get id=s.h.get id→zDw P u t a=some (v,u.read id):=by
 unfold zDw at h
 split at h
 case h_2=>cases h
 rename_i id off
 split at h
 case h_2=>cases h
 rename_i cs e ro hg
 refine⟨id,off,rfl,?_⟩
 split at h
 ·rename_i hb
  split at h
  case h_2=>cases h
  rename_i n hn
  split at h
  case h_2=>cases h
  rename_i r hr
  cases h
  refine⟨rfl,by rw[hg];simp,fun u hu=>?_⟩
  simp only[zDw,hu,hg,hb,hn,hr]
 ·rename_i hb
  split at h
  case h_2=>cases h
  rename_i v1 t1 hd
  cases h
  refine⟨rfl,by rw[hg];simp,fun u hu=>?_⟩
  simp only[zDw,hu,hg,hb,hd]
 ·cases h
theorem zDp {f:zDv}:∀ {done:List zDv} {j:Nat} {sl:List zJ7} {s s':St},zD4 P f j done sl s=some s'→
  G1 s s'∧s'.h=s.h∧s'.next=s.next∧s'.hi=s.hi∧∀ k g,done[k]?=some g→bit f.before (j+k)∨apart g f=true∨(apartS g f=true∧∃ t a v,sl[k]?=some (some (t,a,v))∧∃ u u',u.h=s.h∧zDw P u t a=some (v,u'))
 |[],j,sl,s,s',h=>by
  simp only[zD4,Option.some.injEq] at h
  subst h
  exact⟨G1.refl _,rfl,rfl,rfl,fun k g hk=>by simp at hk⟩
 |x::t,j,sl,s,s',h=>by
  have tl:∀ k:Nat,sl.tail[k]?=sl[k+1]?:=fun k=>by cases sl<;>simp
  unfold zD4 at h
  split at h
  ·rename_i h1
   obtain⟨g1,g2,g3,g4,g5⟩:=zDp h
   refine⟨g1,g2,g3,g4,fun k g hk=>?_⟩
   cases k with
   |zero=>
    simp only[List.getElem?_cons_zero,Option.some.injEq] at hk;subst hk
    rw[Bool.or_eq_true] at h1
    rcases h1 with h1|h1
    ·exact .inl h1
    ·exact .inr (.inl h1)
   |succ k=>
    have:=g5 k g (by simpa using hk)
    rwa [show j+1+k=j+(k+1) by omega,tl] at this
  ·rename_i h1
   split at h
   case h_2=>cases h
   rename_i h2
   split at h
   case h_2=>cases h
   rename_i s1 h3
   obtain⟨ty,a,v,q1,q2⟩:=zRn h3
   obtain⟨id,off,rfl,rfl,hne,_⟩:=zJk q2
   obtain⟨g1,g2,g3,g4,g5⟩:=zDp h
   obtain⟨b,hb⟩:=Option.ne_none_iff_exists'.1 hne
   refine⟨(G1.read hb).trans g1,g2,g3,g4,fun k g hk=>?_⟩
   cases k with
   |zero=>
    simp only[List.getElem?_cons_zero,Option.some.injEq] at hk;subst hk
    refine .inr (.inr ⟨h2,ty,_,v,?_,s,_,rfl,q2⟩)
    cases sl with
    |nil=>simp at q1
    |cons y ys=>simpa using q1
   |succ k=>
    have:=g5 k g (by simpa using hk)
    rwa [show j+1+k=j+(k+1) by omega,tl] at this
theorem zGw {f:zDv}:∀ {done:List zDv} {j:Nat} {sl:List zJ7} {s:St},zFu f j done=true→zD4 P f j done sl s=some s
 |[],_,_,_,_=>rfl
 |x::t,j,sl,s,h=>by
  simp only[zFu,Bool.and_eq_true] at h
  simp only[zD4,h.1]
  exact zGw h.2
theorem zLx {i:Nat}:∀ {es:List Edge},zFt i es=true→∀ e∈es,Region.binds .any e=true→e.on < i
 |[],_,e,he,_=>by cases he
 |x::t,h,e,he,hb=>by
  simp only[zFt,Bool.and_eq_true] at h
  rcases List.mem_cons.1 he with rfl|he
  ·have h1:=h.1
   unfold Region.binds at hb
   cases hg:e.ground<;>rw[hg] at h1 hb<;>first|exact Nat.le_of_ble_eq_true h1|(simp at hb)
  ·exact zLx h.2 e he hb
theorem zJ3 {done:List zDv} {k:Nat}:∀ {es:List Edge},bit (zHb done es) k→∃ e∈es,Region.binds .any e=true∧(k=e.on∨∃ f,nth done e.on=some f∧bit f.before k)
  | [], h => absurd h zEr
  | x :: t, h => by
    rw[zHb] at h
    rcases zBh.1 h with h | h
    · refine ⟨x, by simp, ?_⟩
      cases hg : x.ground <;> rw [hg] at h <;> simp only at h <;> first
        | exact absurd h zEr
        | (refine ⟨by unfold Region.binds; rw [hg], ?_⟩
           rcases zBh.1 h with h | h
           · exact .inl (zD1.1 h)
           · right
             split at h
             · rename_i f hf; exact ⟨f, hf, h⟩
             · exact absurd h zEr)
    · obtain ⟨e, he, r⟩ := zJ3 h
      exact ⟨e, by simp [he], r⟩
theorem zKp {a b i:Nat}(h:Nat.beq (Nat.land a b) 0=true)(ha:bit a i)(hb:bit b i):False:=by
 have e:a &&& b=0:=Nat.eq_of_beq_eq_true h
 have:Nat.testBit (a &&& b) i=true:=by rw[Nat.testBit_and];unfold bit at ha hb;rw[ha,hb];rfl
 rw[e] at this
 simp at this
section
variable {call:Call} {all:List Oper} {fs:List zDv} {ss:List zJ7} {L:Nat→zAz} {S X:Nat→St} {V:Nat→Value}
def zEt (fs:List zDv)(i:Nat):zDv:=(fs[i]?).getD ⟨0,0,0,0,0⟩
theorem Trace.foot (T:Trace P call all all [] [] fs ss L S X V) {i:Nat} {o:Oper} (ho:all[i]?=some o):
    (zEt fs i).rt=zNl all o∧(zEt fs i).wt=zO3 o∧(zEt fs i).rd=(X i).rd∧(zEt fs i).wr=(X i).wr:=by
  obtain⟨f,f1,f2,_⟩:=T.ft i o ho
  unfold zEt
  rw[f1]
  subst f2
  exact⟨rfl,rfl,rfl,rfl⟩
theorem Trace.edge (T:Trace P call all all [] [] fs ss L S X V) {i:Nat} {o:Oper} (ho:all[i]?=some o) {e:Edge} (he:e∈o.after.toList) (hb:Region.binds .any e=true):e.on < i:=by
  have:=zLx (T.ed i o ho) e he hb
  simpa using this
theorem Trace.before (T:Trace P call all all [] [] fs ss L S X V) {i:Nat} {o:Oper} (ho:all[i]?=some o) {k:Nat} (h:bit (zEt fs i).before k):
    ∃ e∈o.after.toList,Region.binds .any e=true∧(k=e.on∨bit (zEt fs e.on).before k):=by
  obtain⟨f,f1,f2,_⟩:=T.ft i o ho
  have e1 : zEt fs i = f := by unfold zEt; rw [f1]; rfl
  rw[e1,f2] at h
  obtain⟨e,he,hb,r⟩:=zJ3 (show bit (zHb ([]++fs.take i) o.after.toList) k from h)
  refine⟨e,he,hb,?_⟩
  rcases r with r | ⟨f, hf, hk⟩
  · exact .inl r
  · right
    rw[zEs,List.nil_append,List.getElem?_take] at hf
    split at hf
    · unfold zEt; rw [hf]; exact hk
    · cases hf
def zRo (P:Program)(ss:List zJ7)(X:Nat→St)(i j:Nat):Prop:=∃ t a v,ss[i]?=some (some (t,a,v))∧∃ u u',u.h=(X j).h∧zDw P u t a=some (v,u')
theorem Trace.apart (T:Trace P call all all [] [] fs ss L S X V) {i j:Nat} (hij:i < j) (hj:j < all.length):
    bit (zEt fs j).before i∨Det.apart (zEt fs i) (zEt fs j)=true∨(apartS (zEt fs i) (zEt fs j)=true∧zRo P ss X i j):=by
  obtain⟨o,ho⟩:∃ o,all[j]?=some o:=⟨all[j],List.getElem?_eq_getElem hj⟩
  obtain⟨f,f1,_,f3⟩:=T.ft j o ho
  have hi : i < fs.length := by rw [T.len]; omega
  have := (zDp f3).2.2.2.2 i fs[i] (by rw [List.nil_append, List.getElem?_take, if_pos hij, List.getElem?_eq_getElem hi])
  have e1 : zEt fs j = f := by unfold zEt; rw [f1]; rfl
  have e2 : zEt fs i = fs[i] := by unfold zEt; rw [List.getElem?_eq_getElem hi]; rfl
  rw[e1,e2]
  rcases this with r | r | ⟨r1, t, a, v, r2, r3⟩
  · exact .inl (by simpa using r)
  · exact .inr (.inl r)
  · refine .inr (.inr ⟨r1, t, a, v, ?_, r3⟩)
    rw[List.nil_append,List.getElem?_take,if_pos hij] at r2
    exact r2
theorem zY5 {a b:zDv}(h:Det.apart a b=true):apartS a b=true:=by
 simp only[Det.apart,Bool.and_eq_true] at h
 simp only[apartS,Bool.and_eq_true]
 exact⟨h.1.1,h.1.2⟩
theorem Trace.apartS (T:Trace P call all all [] [] fs ss L S X V) {i j:Nat} (hij:i < j) (hj:j < all.length):bit (zEt fs j).before i∨Det.apartS (zEt fs i) (zEt fs j)=true:=by
  rcases T.apart hij hj with r | r | r
  · exact .inl r
  · exact .inr (zY5 r)
  · exact .inr r.1
theorem Trace.clashT (T:Trace P call all all [] [] fs ss L S X V) {i j t:Nat} (hij:i < j) (hj:j < all.length)
    (h:(bit (zEt fs i).wt t∧(bit (zEt fs j).rt t∨bit (zEt fs j).wt t))∨(bit (zEt fs j).wt t∧bit (zEt fs i).rt t)):bit (zEt fs j).before i:=by
  rcases T.apartS hij hj with r | r
  · exact r
  · simp only [Det.apartS, Bool.and_eq_true] at r
    rcases h with ⟨a, b⟩ | ⟨a, b⟩
    · exact (zKp r.1.1 a (zBh.2 b)).elim
    · exact (zKp r.1.2 a b).elim
theorem Trace.clashM (T:Trace P call all all [] [] fs ss L S X V) {i j t:Nat} (hij:i < j) (hj:j < all.length)
    (h:bit (zEt fs i).wr t∧(bit (zEt fs j).rd t∨bit (zEt fs j).wr t)):bit (zEt fs j).before i:=by
  rcases T.apartS hij hj with r | r
  · exact r
  · simp only [Det.apartS, Bool.and_eq_true] at r
    exact(zKp r.2 h.1 (zBh.2 h.2)).elim
theorem Trace.clashR (T:Trace P call all all [] [] fs ss L S X V) {i j t:Nat} (hij:i < j) (hj:j < all.length)
    (h:bit (zEt fs j).wr t∧bit (zEt fs i).rd t):bit (zEt fs j).before i∨zRo P ss X i j:=by
  rcases T.apart hij hj with r | r | r
  · exact .inl r
  · simp only [Det.apart, Bool.and_eq_true] at r
    exact(zKp r.2 h.1 h.2).elim
  · exact .inr r.2
def Closed (all:List Oper)(E:Nat→Prop):Prop:=∀ j o e,E j→all[j]?=some o→e∈o.after.toList→Region.binds .any e=true→E e.on
theorem Trace.down (T:Trace P call all all [] [] fs ss L S X V) {E:Nat→Prop} (hE:Closed all E) (hin:∀ j,E j→j < all.length):∀ j,E j→∀ k,bit (zEt fs j).before k→E k:=by
  intro j
  induction j using Nat.strongRecOn with
  | _ j ih =>
    intro hj k hk
    obtain⟨o,ho⟩:∃ o,all[j]?=some o:=⟨all[j]'(hin j hj),List.getElem?_eq_getElem (hin j hj)⟩
    obtain⟨e,he,hb,r⟩:=T.before ho hk
    have h1:=hE j o e hj ho he hb
    rcases r with rfl | r
    · exact h1
    · exact ih e.on (T.edge ho he hb) h1 k r
theorem Trace.down1 (T:Trace P call all all [] [] fs ss L S X V) {E:Nat→Prop} (hE:Closed all E) (hin:∀ j,E j→j < all.length) {i:Nat} {o:Oper} (ho:all[i]?=some o)
    (hi:∀ e∈o.after.toList,Region.binds .any e=true→E e.on) (k:Nat) (hk:bit (zEt fs i).before k):E k:=by
  obtain⟨e,he,hb,r⟩:=T.before ho hk
  rcases r with rfl | r
  · exact hi e he hb
  · exact T.down hE hin _ (hi e he hb) k r
end
end Go.Det
end
section
namespace Go.Det
variable {P:Program}
def WT (all:List Oper)(j t:Nat):Prop:=∃ o,all[j]?=some o∧o.dst=some t
def WM (m:Nat)(X:Nat→St)(j id:Nat):Prop:=j < m∧bit (X j).wr id
structure Ctx (P:Program) (w0:World) (n G:Nat) (call:Call) (ops:Array Oper) (fs:List zDv) (ss:List zJ7) (L:Nat→zAz) (S X:Nat→St) (V:Nat→Value) (φ0:Ren):Prop where
 hcall:zHv P w0 G call
 hT:∀ f args,Tr (call f args)
 T:Trace P call ops.toList ops.toList [] [] fs ss L S X V
 full:Full (S ops.toList.length).hi (S 0)
 fresh:∀ id,(S 0).next≤id→id < (S ops.toList.length).hi→φ0 id=none
 glob:Glob G φ0
 ok:∀ o∈ops.toList,zJ2 n G o=true
structure Done (w0:World) (n:Nat) (ops:Array Oper) (L:Nat→zAz) (S X:Nat→St) (V:Nat→Value) (φ0:Ren) (E:Nat→Prop) (φ:Ren) (h:Heap) (l:zAz) (a:Act) (w:World):Prop where
 hr:HR φ h w0 w
 fr:Fr n φ l a
 tm:∀ t,Last (WT ops.toList) (fun j _=>V j) (zEp (L 0)) E t (zEp l t)
 bl:∀ id,Last (WM ops.toList.length X) (fun j id=>(X j).h.get id) (S 0).h.get E id (h.get id)
 le:Le φ0 φ
 new:∀ id,φ id≠none→φ0 id≠none∨∃ j,E j∧(S j).next≤id∧id < (X j).next
 inside:∀ j,E j→j < ops.toList.length
 closed:Closed ops.toList E
theorem yF9 {all:List Oper}{j:Nat}(h:j < all.length):∃ o,all[j]?=some o:=⟨all[j],List.getElem?_eq_getElem h⟩
section
variable {w0:World} {n G:Nat} {call:Call} {ops:Array Oper} {fs:List zDv} {ss:List zJ7} {L:Nat→zAz} {S X:Nat→St} {V:Nat→Value} {φ0:Ren}
theorem Ctx.g (C:Ctx P w0 n G call ops fs ss L S X V φ0){i:Nat}(hi:i < ops.toList.length):G1 (solo (S i)) (X i):=by
 obtain⟨o,ho⟩:=yF9 hi
 exact(zTi C.hT ops.toList o (L i) _ _ _ (C.T.run i o ho)).1
theorem Ctx.g' (C:Ctx P w0 n G call ops fs ss L S X V φ0){i:Nat}(hi:i < ops.toList.length):G1 (S i) (S (i+1)):=by
 obtain⟨o,ho⟩:=yF9 hi
 obtain⟨f,_,_,f3⟩:=C.T.ft i o ho
 exact(C.g hi).solo.trans (zDp f3).1
theorem Ctx.snext (C:Ctx P w0 n G call ops fs ss L S X V φ0){i:Nat}(hi:i < ops.toList.length):(S (i+1)).next=(X i).hi:=by
 obtain⟨o,ho⟩:=yF9 hi
 obtain⟨f,_,_,f3⟩:=C.T.ft i o ho
 rw[(zDp f3).2.2.1];rfl
theorem Ctx.sheap (C:Ctx P w0 n G call ops fs ss L S X V φ0){i:Nat}(hi:i < ops.toList.length):(S (i+1)).h=(X i).h:=by
 obtain⟨o,ho⟩:=yF9 hi
 obtain⟨f,_,_,f3⟩:=C.T.ft i o ho
 rw[(zDp f3).2.1];rfl
theorem Ctx.gs (C:Ctx P w0 n G call ops fs ss L S X V φ0){i:Nat}:∀ {j:Nat},i≤j→j≤ops.toList.length→G1 (S i) (S j):=by
 intro j hij
 induction hij with
 |refl=>exact fun _=>G1.refl _
 |step hij ih=>exact fun hj=>(ih (Nat.le_of_succ_le hj)).trans (C.g' hj)
theorem Ctx.xnext (C:Ctx P w0 n G call ops fs ss L S X V φ0){i:Nat}(hi:i < ops.toList.length):(S i).next≤(X i).next∧(X i).next≤(X i).hi:=⟨(C.g hi).next,(C.g hi).inv (Nat.le_refl _)⟩
theorem Ctx.xhi (C:Ctx P w0 n G call ops fs ss L S X V φ0){i j:Nat}(hij:i < j)(hj:j≤ops.toList.length):(X i).hi≤(S j).next:=by
 rw[← C.snext (Nat.lt_of_lt_of_le hij hj)]
 exact(C.gs hij hj).next
theorem Ctx.top (C:Ctx P w0 n G call ops fs ss L S X V φ0){i:Nat}(hi:i < ops.toList.length):(X i).hi≤(S ops.toList.length).hi:=
 Nat.le_trans (C.xhi hi (Nat.le_refl _)) ((C.gs (Nat.zero_le _) (Nat.le_refl _)).inv C.full.le)
theorem Ctx.fullAt (C:Ctx P w0 n G call ops fs ss L S X V φ0){i:Nat}(hi:i≤ops.toList.length):Full (S ops.toList.length).hi (S i):=C.full.step (C.gs (Nat.zero_le _) hi)
theorem Ctx.lastT (C:Ctx P w0 n G call ops fs ss L S X V φ0)(t:Nat):∀ i,i≤ops.toList.length→Last (WT ops.toList) (fun j _=>V j) (zEp (L 0)) (fun j=>j < i) t (zEp (L i) t)
 |0,_=>.inr ⟨fun j hj=>absurd hj (Nat.not_lt_zero _),rfl⟩
 |i+1,hi=>by
  obtain⟨o,ho⟩:=yF9 hi
  have ih:=C.lastT t i (Nat.le_of_succ_le hi)
  rw[C.T.nl i o ho]
  have hiff:∀ j,(j=i∨j < i)↔j < i+1:=fun j=>by omega
  cases hd:o.dst with
  |none=>exact(ih.skip (i:=i) (fun⟨o',h1,h2⟩=>by rw[ho] at h1;cases h1;rw[hd] at h2;cases h2)).iff hiff
  |some d=>
   show Last _ _ _ _ t (zEp (zX1 (L i) d (V i)) t)
   rw[zFv]
   by_cases e:t=d
   ·rw[if_pos e]
    exact(Last.add (val:=fun j _=>V j) (i:=i) ⟨o,ho,by rw[hd,e]⟩ (fun k hk _=>Nat.le_of_lt hk)).iff hiff
   ·rw[if_neg e]
    exact(ih.skip (i:=i) (fun⟨o',h1,h2⟩=>by rw[ho] at h1;cases h1;rw[hd] at h2;cases h2;exact e rfl)).iff hiff
theorem Ctx.lastM (C:Ctx P w0 n G call ops fs ss L S X V φ0)(id:Nat):∀ i,i≤ops.toList.length→Last (WM ops.toList.length X) (fun j id=>(X j).h.get id) (S 0).h.get (fun j=>j < i) id ((S i).h.get id)
 |0,_=>.inr ⟨fun j hj=>absurd hj (Nat.not_lt_zero _),rfl⟩
 |i+1,hi=>by
  have ih:=C.lastM id i (Nat.le_of_succ_le hi)
  rw[C.sheap hi]
  have hiff:∀ j,(j=i∨j < i)↔j < i+1:=fun j=>by omega
  by_cases hb:bit (X i).wr id
  ·exact(Last.add (val:=fun j id=>(X j).h.get id) (i:=i) ⟨hi,hb⟩ (fun k hk _=>Nat.le_of_lt hk)).iff hiff
  ·have e:(X i).h.get id=(S i).h.get id:=(C.g hi).frame id hb
   rw[e]
   exact(ih.skip (i:=i) (fun h=>hb h.2)).iff hiff
variable {E:Nat→Prop} {φ:Ren} {h:Heap} {l:zAz} {a:Act} {w:World}
theorem WT.bit (C:Ctx P w0 n G call ops fs ss L S X V φ0) {j t:Nat} (hw:WT ops.toList j t):j < ops.toList.length∧bit (zEt fs j).wt t:=by
  obtain⟨o,h1,h2⟩:=hw
  refine⟨(List.getElem?_eq_some_iff.1 h1).1,?_⟩
  rw[(C.T.foot h1).2.1]
  unfold zO3
  rw[h2]
  exact zD1.2 rfl
theorem WM.bit (C:Ctx P w0 n G call ops fs ss L S X V φ0) {j id:Nat} (hw:WM ops.toList.length X j id):Det.bit (zEt fs j).wr id:=by
  obtain⟨o,ho⟩:=yF9 hw.1
  rw[(C.T.foot ho).2.2.2];exact hw.2
structure Ready (ops:Array Oper) (E:Nat→Prop) (i:Nat) (o:Oper):Prop where
 op:ops.toList[i]?=some o
 new:¬ E i
 edges:∀ e∈o.after.toList,Region.binds .any e=true→E e.on
theorem Ready.lt {i:Nat}{o:Oper}(R:Ready ops E i o):i < ops.toList.length:=(List.getElem?_eq_some_iff.1 R.op).1
theorem yGa (C:Ctx P w0 n G call ops fs ss L S X V φ0) (D:Done w0 n ops L S X V φ0 E φ h l a w) {i:Nat} {o:Oper} (R:Ready ops E i o) {t:Nat} (ht:bit (zEt fs i).rt t∨bit (zEt fs i).wt t)
    (j:Nat) (hj:WT ops.toList j t):E j↔j < i:=by
  obtain⟨jm,jb⟩:=WT.bit C hj
  rcases Nat.lt_trichotomy j i with q | q | q
  · exact ⟨fun _ => q, fun _ => C.T.down1 D.closed D.inside R.op R.edges j (C.T.clashT q R.lt (.inl ⟨jb, ht⟩))⟩
  · exact ⟨fun e => absurd (q ▸ e) R.new, fun e => absurd e (by omega)⟩
  · refine ⟨fun e => absurd (C.T.down D.closed D.inside j e i (C.T.clashT (t := t) q jm ?_)) R.new, fun e => absurd e (by omega)⟩
    rcases ht with ht | ht
    · exact .inr ⟨jb, ht⟩
    · exact .inl ⟨ht, .inr jb⟩
def yPy (P:Program)(ops:Array Oper)(ss:List zJ7)(X:Nat→St)(i:Nat):Prop:=∀ j,i < j→j < ops.toList.length→¬ zRo P ss X i j
theorem zY6 (C:Ctx P w0 n G call ops fs ss L S X V φ0) (D:Done w0 n ops L S X V φ0 E φ h l a w) {i:Nat} {o:Oper} (R:Ready ops E i o) {id:Nat} (ht:bit (X i).rd id∨bit (X i).wr id)
    (j:Nat) (hj:WM ops.toList.length X j id) (q:j < i):E j:=by
  have jb:=WM.bit C hj
  have ht : bit (zEt fs i).rd id ∨ bit (zEt fs i).wr id := by rw [(C.T.foot R.op).2.2.1, (C.T.foot R.op).2.2.2]; exact ht
  exact C.T.down1 D.closed D.inside R.op R.edges j (C.T.clashM q R.lt ⟨jb,ht⟩)
theorem yGb (C:Ctx P w0 n G call ops fs ss L S X V φ0) (D:Done w0 n ops L S X V φ0 E φ h l a w) {i:Nat} {o:Oper} (R:Ready ops E i o) {id:Nat} (ht:(yPy P ops ss X i∧bit (X i).rd id)∨bit (X i).wr id)
    (j:Nat) (hj:WM ops.toList.length X j id):E j↔j < i:=by
  have jb:=WM.bit C hj
  rcases Nat.lt_trichotomy j i with q | q | q
  · exact ⟨fun _ => q, fun _ => zY6 C D R (ht.imp And.right (fun q => q)) j hj q⟩
  · exact ⟨fun e => absurd (q ▸ e) R.new, fun e => absurd e (by omega)⟩
  · refine ⟨fun e => absurd (C.T.down D.closed D.inside j e i ?_) R.new, fun e => absurd e (by omega)⟩
    rcases ht with ⟨hh, ht⟩ | ht
    · rcases C.T.clashR (t := id) q hj.1 ⟨jb, by rw [(C.T.foot R.op).2.2.1]; exact ht⟩ with r | r
      · exact r
      · exact absurd r (hh j q hj.1)
    · exact C.T.clashM (t := id) q hj.1 ⟨by rw [(C.T.foot R.op).2.2.2]; exact ht, .inr jb⟩
theorem yPz (C:Ctx P w0 n G call ops fs ss L S X V φ0) (D:Done w0 n ops L S X V φ0 E φ h l a w) {i:Nat} {o:Oper} (R:Ready ops E i o) (t:Nat) (ht:bit (zNl ops.toList o) t):zEp l t=zEp (L i) t:=
  (D.tm t).unique (C.lastT t i (Nat.le_of_lt R.lt)) (yGa C D R (.inl (by rw [(C.T.foot R.op).1]; exact ht)))
theorem yNe (C:Ctx P w0 n G call ops fs ss L S X V φ0)(D:Done w0 n ops L S X V φ0 E φ h l a w){i:Nat}{o:Oper}(R:Ready ops E i o)(id:Nat)(ht:(yPy P ops ss X i∧bit (X i).rd id)∨bit (X i).wr id):h.get id=(S i).h.get id:=
 (D.bl id).unique (C.lastM id i (Nat.le_of_lt R.lt)) (yGb C D R ht)
theorem yNf (C:Ctx P w0 n G call ops fs ss L S X V φ0) (D:Done w0 n ops L S X V φ0 E φ h l a w) {i:Nat} {o:Oper} (R:Ready ops E i o) {k:Nat} (_:i < k) (_:k < ops.toList.length) (hs:zRo P ss X i k):
    ∀ u:St,u.h=h→∃ id,yDv P call ops.toList o (L i) u=some (V i,u.read id)∧X i=(solo (S i)).read id:=by
  obtain⟨t,ad,v,h1,u0,u0',h2,h3⟩:=hs
  have h4:=C.T.so i o R.op
  rw[h1] at h4
  have h4:=Option.some.inj h4
  unfold zJy at h4
  split at h4
  case h_2 => cases h4
  rename_i t' a' hop
  split at h4
  case h_2 => cases h4
  rename_i b hw
  split at h4
  case h_2 => cases h4
  cases h4
  have hro:∀ u,yDv P call ops.toList o (L i) u=zDw P u t (evalO (L i) a'):=by
    intro u
    unfold yDv zC5
    simp only[hw]
    unfold opD
    rw[hop]
    rfl
  have hrun:=C.T.run i o R.op
  rw[hro] at hrun
  obtain⟨id,off,e1,e2,e3,e4⟩:=zJk hrun
  have hrd : bit (X i).rd id := by rw [e2]; exact zBq
  intro u hu
  refine⟨id,?_,e2⟩
  rw[hro]
  have key:h.get id=(S i).h.get id∨∃ j,i < j∧j < ops.toList.length∧zRo P ss X i j∧h.get id=(X j).h.get id:=by
    rcases D.bl id with ⟨j, p1, p2, p3, p4⟩ | ⟨p1, p4⟩
    · rcases Nat.lt_trichotomy j i with q | q | q
      · left
        rw[p4]
        refine Last.unique (E := E) (E' := fun j => j < i) (.inl ⟨j, p1, p2, p3, rfl⟩ : Last (WM ops.toList.length X) (fun j id => (X j).h.get id) (S 0).h.get E id ((X j).h.get id)) ?_ ?_
        · exact C.lastM id i (Nat.le_of_lt R.lt)
        · exact fun j' hj' => ⟨fun e => Nat.lt_of_le_of_lt (p3 j' e hj') q, fun e => zY6 C D R (.inl hrd) j' hj' e⟩
      · exact absurd (q ▸ p1) R.new
      · right
        have hb : ¬ bit (zEt fs j).before i := fun hb => R.new (C.T.down D.closed D.inside j p1 i hb)
        refine⟨j,q,p2.1,?_,p4⟩
        rcases C.T.clashR (t := id) q p2.1 ⟨WM.bit C p2, by rw [(C.T.foot R.op).2.2.1]; exact hrd⟩ with r | r
        · exact absurd r hb
        · exact r
    · left
      rw[p4]
      refine Last.unique (E := E) (E' := fun j => j < i) (.inr ⟨p1, rfl⟩ : Last (WM ops.toList.length X) (fun j id => (X j).h.get id) (S 0).h.get E id ((S 0).h.get id)) (C.lastM id i (Nat.le_of_lt R.lt)) ?_
      exact fun j' hj' => ⟨fun e => absurd hj' (p1 j' e), fun e => zY6 C D R (.inl hrd) j' hj' e⟩
  rcases key with q | ⟨j, q1, q2, ⟨t2, a2, v2, k1, u2, u2', k2, k3⟩, q3⟩
  · exact e4 u (by rw [hu]; exact q)
  · rw [h1] at k1; cases k1
    obtain⟨id2,off2,f1,_,_,f4⟩:=zJk k3
    rw[e1] at f1;cases f1
    exact f4 u (by rw [hu, q3, k2])
theorem Ctx.chain (C:Ctx P w0 n G call ops fs ss L S X V φ0){i id:Nat}(hid:id < (X i).hi):∀ {j:Nat},i+1≤j→j≤ops.toList.length→(S j).h.get id≠none→(S (i+1)).h.get id≠none:=by
 intro j hij
 induction hij with
 |refl=>exact fun _ h=>h
 |@step k hij ih=>
  intro hj hn
  rcases(C.g' hj).dom id hn with r|r
  ·exact ih (Nat.le_of_succ_le hj) r
  ·exact absurd hid (Nat.not_lt.2 (Nat.le_trans (C.xhi hij (Nat.le_of_succ_le hj)) r.1))
theorem Ctx.zero (C:Ctx P w0 n G call ops fs ss L S X V φ0){i:Nat}(hi:i≤ops.toList.length):(S 0).next≤(S i).next:=(C.gs (Nat.zero_le _) hi).next
theorem yGc (C:Ctx P w0 n G call ops fs ss L S X V φ0) (D:Done w0 n ops L S X V φ0 E φ h l a w) {i:Nat} {o:Oper} (R:Ready ops E i o) (id:Nat) (h1:(S i).next≤id) (h2:id < (X i).hi):h.get id=none:=by
  have ht:=Nat.lt_of_lt_of_le h2 (C.top R.lt)
  have e : h.get id = (S 0).h.get id := (D.bl id).unique (E' := fun _ => False) (.inr ⟨fun _ => False.elim, rfl⟩) fun j hj => by
    refine ⟨fun hE => ?_, False.elim⟩
    have hne : j ≠ i := fun q => R.new (q ▸ hE)
    have gj:=C.g hj.1
    have hx:=C.xnext hj.1
    rcases gj.oldw id hj.2 with r | ⟨r1, r2⟩ | r
    · exact zEr r
    · have hlt : id < (S j).next := by
        rcases Nat.lt_or_ge id (S j).next with q | q
        · exact q
        · exact absurd ((C.fullAt (Nat.le_of_lt hj.1)).get id q ht) r2
      have hij:i < j:=by
        rcases Nat.lt_or_ge i j with q | q
        · exact q
        · have := (C.gs q (Nat.le_of_lt R.lt)).next
          omega
      have hn:=C.chain h2 hij (Nat.le_of_lt hj.1) r2
      rw[C.sheap R.lt] at hn
      have hw : bit (X i).wr id := Classical.byContradiction fun hb => hn (((C.g R.lt).frame id hb).trans ((C.fullAt (Nat.le_of_lt R.lt)).get id h1 ht))
      obtain⟨oj,hoj⟩:=yF9 hj.1
      have hb := C.T.clashM (t := id) hij hj.1 ⟨by rw [(C.T.foot R.op).2.2.2]; exact hw, .inl (by rw [(C.T.foot hoj).2.2.1]; exact r1)⟩
      exact R.new (C.T.down D.closed D.inside j hE i hb)
    · have r1 : (S j).next ≤ id := r.1
      rcases Nat.lt_or_gt_of_ne hne with q | q
      · have := C.xhi q (Nat.le_of_lt R.lt)
        omega
      · have := C.xhi q (Nat.le_of_lt hj.1)
        omega
  rw[e]
  exact C.full.get id (Nat.le_trans (C.zero (Nat.le_of_lt R.lt)) h1) ht
theorem yHp (C:Ctx P w0 n G call ops fs ss L S X V φ0)(D:Done w0 n ops L S X V φ0 E φ h l a w){i:Nat}{o:Oper}(R:Ready ops E i o)(id:Nat)(h1:(S i).next≤id)(h2:id < (X i).hi):φ id=none:=by
 cases hφ:φ id with
 |none=>rfl
 |some y=>
  exfalso
  rcases D.new id (by rw[hφ];simp) with r|⟨j,hE,r1,r2⟩
  ·exact r (C.fresh id (Nat.le_trans (C.zero (Nat.le_of_lt R.lt)) h1) (Nat.lt_of_lt_of_le h2 (C.top R.lt)))
  ·have hne:j≠i:=fun q=>R.new (q ▸ hE)
   have hjm:=D.inside j hE
   have hx:=C.xnext hjm
   rcases Nat.lt_or_gt_of_ne hne with q|q
   ·have:=C.xhi q (Nat.le_of_lt R.lt)
    omega
   ·have:=C.xhi q (Nat.le_of_lt hjm)
    omega
def mix (h : Heap) (s : St) : St := { h := h, next := s.next, hi := s.next, rd := 0, wr := 0 }
theorem Done.next (C:Ctx P w0 n G call ops fs ss L S X V φ0)(D:Done w0 n ops L S X V φ0 E φ h l a w){i:Nat}{o:Oper}(R:Ready ops E i o){t':St}{φ':Ren}{a':Act}{w':World}
  (g:G1 (mix h (S i)) t') (p:PW (solo (S i)) (mix h (S i)) (X i) t') (hx:Ext φ φ' (S i).next t'.next) (hr:HR φ' t'.h w0 w') (hf:Fr n φ' (zJd l o.dst (V i)) a'):
  Done w0 n ops L S X V φ0 (fun j=>j=i∨E j) φ' t'.h (zJd l o.dst (V i)) a' w':=by
 refine⟨hr,hf,fun t=>?_,fun id=>?_,D.le.trans hx.le,fun id hid=>?_,fun j hj=>?_,fun j q e hj hq he hb=>?_⟩
 ·cases hd:o.dst with
  |none=>exact(D.tm t).skip (i:=i) (fun⟨o',h1,h2⟩=>by rw[R.op] at h1;cases h1;rw[hd] at h2;cases h2)
  |some d=>
   show Last _ _ _ _ t (zEp (zX1 l d (V i)) t)
   rw[zFv]
   by_cases e:t=d
   ·rw[if_pos e]
    have hwt:WT ops.toList i t:=⟨o,R.op,by rw[hd,e]⟩
    exact Last.add (val:=fun j _=>V j) (i:=i) hwt (fun k hk hkw=>Nat.le_of_lt ((yGa C D R (.inr (WT.bit C hwt).2) k hkw).1 hk))
   ·rw[if_neg e]
    exact(D.tm t).skip (i:=i) (fun⟨o',h1,h2⟩=>by rw[R.op] at h1;cases h1;rw[hd] at h2;cases h2;exact e rfl)
 ·by_cases hb:bit (X i).wr id
  ·have e:t'.h.get id=(X i).h.get id:=by
    rcases p.pt id with q|⟨q1,q2⟩
    ·exact q
    ·rw[q1,q2];exact yNe C D R id (.inr hb)
   rw[e]
   exact Last.add (val:=fun j id=>(X j).h.get id) (i:=i) ⟨R.lt,hb⟩ (fun k hk hkw=>Nat.le_of_lt ((yGb C D R (.inr hb) k hkw).1 hk))
  ·have e:t'.h.get id=h.get id:=g.frame id (by rw[p.wr];exact hb)
   rw[e]
   exact(D.bl id).skip (i:=i) (fun q=>hb q.2)
 ·rcases hx.new id hid with r|r
  ·rcases D.new id r with r|⟨j,r1,r2⟩
   ·exact .inl r
   ·exact .inr ⟨j,.inr r1,r2⟩
  ·exact .inr ⟨i,.inl rfl,by rw[p.next] at r;exact r⟩
 ·rcases hj with rfl|hj
  ·exact R.lt
  ·exact D.inside j hj
 ·rcases hj with rfl|hj
  ·rw[R.op] at hq;cases hq;exact .inr (R.edges e he hb)
  ·exact .inr (D.closed j q e hj hq he hb)
theorem Done.step (C:Ctx P w0 n G call ops fs ss L S X V φ0)(D:Done w0 n ops L S X V φ0 E φ h l a w){i:Nat}{o:Oper}(R:Ready ops E i o){Q:Exit→Act→World→Prop}{K:Act→World→Prop}
  (k:∀ φ' h' l' a' w',Done w0 n ops L S X V φ0 (fun j=>j=i∨E j) φ' h' l' a' w'→K a' w'):wpOp P ops Q i K a w:=by
 have hop:ops[i]?=some o:=by rw[← Array.getElem?_toList];exact R.op
 have hok:=C.ok o (List.mem_of_getElem? R.op)
 unfold zJ2 at hok
 rw[Bool.and_eq_true] at hok
 obtain⟨hwc,hrc⟩:=zPh (P:=P) (call:=call) (all:=ops.toList) (o:=o) (l:=l) (l':=L i) (yPz C D R)
 have hrun:=C.T.run i o R.op
 have htr:=zTi C.hT ops.toList o (L i) _ _ _ hrun
 obtain⟨t',ht',p⟩:∃ t',yDv P call ops.toList o (L i) (mix h (S i))=some (V i,t')∧PW (solo (S i)) (mix h (S i)) (X i) t':=by
  by_cases hh:yPy P ops ss X i
  ·exact htr.2 (mix h (S i)) ⟨Nat.le_refl _,fun id q1 q2=>(C.fullAt (Nat.le_of_lt R.lt)).get id q1 (Nat.lt_of_lt_of_le q2 (C.top R.lt))⟩ ⟨rfl,rfl,rfl,rfl⟩
    (fun id q=>yNe C D R id (.inl ⟨hh,q⟩)) (fun id q1 q2=>yGc C D R id q1 q2)
  ·obtain⟨k,hk⟩:=Classical.not_forall.1 hh
   obtain⟨k1,hk⟩:=Classical.not_forall.1 hk
   obtain⟨k2,hk⟩:=Classical.not_forall.1 hk
   obtain⟨id,e1,e2⟩:=yNf C D R k1 k2 (Classical.not_not.1 hk) (mix h (S i)) rfl
   refine⟨_,e1,?_⟩
   rw[e2]
   exact PW.read (s:=solo (S i)) (t:=mix h (S i)) ⟨rfl,rfl,rfl,rfl⟩ id
 have g:=(zTi C.hT ops.toList o (L i) _ _ _ ht').1
 have ht2:yDv P call ops.toList o l (mix h (S i))=some (V i,t'):=by unfold yDv at ht' ⊢;rw[hrc];exact ht'
 unfold wpOp
 rw[hop]
 simp only
 unfold yDv zC5 at ht2
 cases hw:zBp ops.toList l o with
 |none=>simp[hw] at ht2
 |some b=>
  simp only[hw] at ht2
  have hwant:=zRl D.fr hw
  cases b with
  |false=>
   simp only[Option.some.injEq,Prod.mk.injEq] at ht2
   obtain⟨e1,e2⟩:=ht2
   rw[if_neg (by rw[hwant];simp)]
   refine k φ t'.h (zJd l o.dst (V i)) _ _ (D.next C R g p (Ext.refl _ _ _) ?_ ?_)
   ·rw[← e2];exact D.hr
   ·rw[← e1];exact D.fr.put hok.2 .skip
  |true=>
   simp only at ht2
   rw[if_pos hwant]
   left
   have hgv:=yF7 (ρ:=a.eval) C.hcall C.hT ht2 D.hr (C.glob.mono D.le) (fun x hx=>zKo (C.glob.mono D.le) D.fr (zE8 hok.1 x hx))
    (fun id q1 q2=>yHp C D R id q1 (by rw[p.hi] at q2;exact q2)) ⟨Nat.le_refl _,fun id q1 q2=>yGc C D R id q1 (by rw[p.hi] at q2;exact q2)⟩
   refine hgv.wp fun φ' v' w' e hv H'=>?_
   exact k φ' t'.h (zJd l o.dst (V i)) _ _ (D.next C R g p e H' ((D.fr.mono e.le).put hok.2 hv))
end
end Go.Det
end
section
namespace Go.Det
variable {P:Program}
def cnt (listed:Array Bool):Nat→Nat
 |0=>0
 |k+1=>cnt listed k+(if listed.getD k false=true then 1 else 0)
theorem zY7 (listed:Array Bool):∀ k,cnt listed k≤k
 |0=>Nat.le_refl _
 |k+1=>by have:=zY7 listed k;unfold cnt;split<;>omega
theorem zY8 {listed:Array Bool}:∀ {k:Nat},cnt listed k=k→∀ j,j < k→listed.getD j false=true
 |0,_,j,hj=>by omega
 |k+1,h,j,hj=>by
  have h1:=zY7 listed k
  unfold cnt at h
  split at h
  ·rename_i hk
   by_cases e:j=k
   ·rw[e];exact hk
   ·exact zY8 (k:=k) (by omega) j (by omega)
  ·omega
theorem zU0 (listed:Array Bool)(i j:Nat)(hi:i < listed.size):(listed.setIfInBounds i true).getD j false=if j=i then true else listed.getD j false:=by
 by_cases e:j=i
 ·subst e;simp[Array.getD_eq_getD_getElem?,hi]
 ·simp[Array.getD_eq_getD_getElem?,Array.getElem?_setIfInBounds_ne (Ne.symm e),e]
theorem zY9 {listed:Array Bool}{i:Nat}(hi:i < listed.size)(hn:listed.getD i false=false):∀ k,cnt (listed.setIfInBounds i true) k=cnt listed k+(if i < k then 1 else 0)
 |0=>by simp[cnt]
 |k+1=>by
  unfold cnt
  rw[zY9 hi hn k,zU0 _ _ _ hi]
  by_cases e:k=i
  ·subst e;rw[hn];simp
  ·rw[if_neg e]
   by_cases q:i < k
   ·have q':i < k+1:=by omega
    simp only[q,q',if_true];omega
   ·have q':¬ i < k+1:=by omega
    simp only[q,q',if_false];omega
section
variable {w0:World} {n G:Nat} {call:Call} {ops:Array Oper} {fs:List zDv} {ss:List zJ7} {L:Nat→zAz} {S X:Nat→St} {V:Nat→Value} {φ0:Ren}
theorem zRp {listed:Array Bool}{i:Nat}(h:i∈Region.ready .any ops listed)(hs:listed.size=ops.size):∃ o,Ready ops (fun j=>listed.getD j false=true) i o:=by
 unfold Region.ready at h
 rw[List.mem_filter,List.mem_range] at h
 obtain⟨hi,h⟩:=h
 rw[Bool.and_eq_true] at h
 obtain⟨h1,h2⟩:=h
 have ho:ops[i]?=some ops[i]:=Array.getElem?_eq_getElem hi
 refine⟨ops[i],by rw[Array.getElem?_toList];exact ho,?_,?_⟩
 ·intro hl
  have e:listed.getD i true=listed.getD i false:=by simp[Array.getD_eq_getD_getElem?,hs ▸ hi]
  rw[e,hl] at h1
  simp at h1
 ·intro e he hb
  rw[ho] at h2
  simp only[Option.map_some,Option.getD_some,Array.all_eq_true'] at h2
  have:=h2 e (by simpa using he)
  rw[hb] at this
  simpa using this
theorem yDx {listed:Array Bool}{i:Nat}{o:Oper}(R:Ready ops (fun j=>listed.getD j false=true) i o)(hs:listed.size=ops.size):i∈Region.ready .any ops listed:=by
 have hi:i < ops.size:=by have:=R.lt;simpa using this
 unfold Region.ready
 rw[List.mem_filter,List.mem_range]
 refine⟨hi,?_⟩
 have ho:ops[i]?=some o:=by rw[← Array.getElem?_toList];exact R.op
 rw[Bool.and_eq_true]
 refine⟨?_,?_⟩
 ·have e:listed.getD i true=listed.getD i false:=by simp[Array.getD_eq_getD_getElem?,hs ▸ hi]
  rw[e]
  cases hl:listed.getD i false
  ·rfl
  ·exact absurd hl R.new
 ·rw[ho]
  simp only[Option.map_some,Option.getD_some,Array.all_eq_true']
  intro e he
  cases hb:Region.binds .any e with
  |false=>rfl
  |true=>rw[R.edges e (by simpa using he) hb];rfl
theorem zXc (C:Ctx P w0 n G call ops fs ss L S X V φ0) {listed:Array Bool} (hs:listed.size=ops.size) (hr:Region.ready .any ops listed=[]):∀ j,j < ops.toList.length→listed.getD j false=true:=by
  intro j
  induction j using Nat.strongRecOn with
  | _ j ih =>
    intro hj
    obtain⟨o,ho⟩:=yF9 hj
    refine Classical.byContradiction fun hn => ?_
    have := yDx (ops := ops) (i := j) (o := o) ⟨ho, hn, fun e he hb => ih e.on (C.T.edge ho he hb) (Nat.lt_trans (C.T.edge ho he hb) hj)⟩ hs
    rw[hr] at this
    cases this
theorem Ctx.final (C:Ctx P w0 n G call ops fs ss L S X V φ0){E:Nat→Prop}{φ:Ren}{h:Heap}{l:zAz}{a:Act}{w:World}(D:Done w0 n ops L S X V φ0 E φ h l a w)
  (hE:∀ j,j < ops.toList.length→E j):Ext φ0 φ (S 0).next (S ops.toList.length).next∧HR φ (S ops.toList.length).h w0 w∧Fr n φ (L ops.toList.length) a:=by
 have hiff:∀ j,E j↔j < ops.toList.length:=fun j=>⟨D.inside j,hE j⟩
 refine⟨⟨D.le,fun id hid=>?_⟩,D.hr.same (fun id cs t ro hg=>?_) (fun id es hg=>?_),⟨D.fr.size,fun t=>?_,D.fr.defers⟩⟩
 ·rcases D.new id hid with r|⟨j,r1,r2,r3⟩
  ·exact .inl r
  ·right
   have hj:=D.inside j r1
   have:=C.xnext hj
   have:=C.xhi hj (Nat.le_refl _)
   have:=C.zero (Nat.le_of_lt hj)
   omega
 ·rw[(D.bl id).unique (C.lastM id _ (Nat.le_refl _)) fun j _=>hiff j];exact hg
 ·rw[(D.bl id).unique (C.lastM id _ (Nat.le_refl _)) fun j _=>hiff j];exact hg
 ·rw[← (D.tm t).unique (C.lastT t _ (Nat.le_refl _)) fun j _=>hiff j];exact D.fr.tmp t
theorem zU1 (C:Ctx P w0 n G call ops fs ss L S X V φ0){Q:Exit→Act→World→Prop}
  (hQ:∀ φ a w,Ext φ0 φ (S 0).next (S ops.toList.length).next→HR φ (S ops.toList.length).h w0 w→Fr n φ (L ops.toList.length) a→Q .normal a w):
  ∀ (fuel:Nat) (listed:Array Bool) (φ:Ren) (h:Heap) (l:zAz) (a:Act) (w:World),listed.size=ops.size→ops.size≤cnt listed ops.size+fuel→
   Done w0 n ops L S X V φ0 (fun j=>listed.getD j false=true) φ h l a w→wpAny P .any ops Q fuel listed a w
 |0,listed,φ,h,l,a,w,hs,hc,D=>by
  have hall:∀ j,j < ops.toList.length→listed.getD j false=true:=fun j hj=>zY8 (k:=ops.size) (by have:=zY7 listed ops.size;omega) j (by simpa using hj)
  refine⟨?_,?_⟩
  ·cases hr:Region.ready .any ops listed with
   |nil=>rfl
   |cons i t=>
    obtain⟨o,R⟩:=zRp (ops:=ops) (i:=i) (listed:=listed) (by rw[hr];simp) hs
    exact absurd (hall i R.lt) R.new
  ·obtain⟨e1,e2,e3⟩:=C.final D hall
   exact hQ φ a w e1 e2 e3
 |fuel+1,listed,φ,h,l,a,w,hs,hc,D=>by
  refine⟨fun hr=>?_,fun i hi=>?_⟩
  ·obtain⟨e1,e2,e3⟩:=C.final D (zXc C hs hr)
   exact hQ φ a w e1 e2 e3
  ·obtain⟨o,R⟩:=zRp hi hs
   have him:i < ops.size:=by have:=R.lt;simpa using this
   have hil:i < listed.size:=hs ▸ him
   refine Done.step C D R fun φ' h' l' a' w' D'=>?_
   refine zU1 C hQ fuel _ φ' h' l' a' w' (by simpa using hs) ?_ ?_
   ·have hn:listed.getD i false=false:=by
     cases hl:listed.getD i false
     ·rfl
     ·exact absurd hl R.new
    rw[zY9 hil hn,if_pos him];omega
   ·have e:(fun j=>j=i∨listed.getD j false=true)=(fun j=>(listed.setIfInBounds i true).getD j false=true):=by
     funext j
     rw[zU0 _ _ _ hil]
     by_cases q:j=i
     ·simp[q]
     ·simp[q]
    rw[← e];exact D'
theorem yDy (hcall:zHv P w0 G call)(hT:∀ f args,Tr (call f args))(hm:P.follows .mixedOrders=true){ops:Array Oper}(hok:∀ o∈ops.toList,zJ2 n G o=true){Q:Exit→Act→World→Prop}
  {id:Nat} {l:zAz} {s:St} {l':zAz} {s':St} {φ:Ren} {a:Act} {w:World} (h:zJ8 P call ops.toList ops.toList [] [] l s=some (l',s')) (H:HR φ s.h w0 w) (hG:Glob G φ) (hF:Fr n φ l a)
  (hf:∀ id,s.next≤id→id < s'.hi→φ id=none) (hi:Full s'.hi s)
  (k:∀ φ' a' w',Ext φ φ' s.next s'.next→HR φ' s'.h w0 w'→Fr n φ' l' a'→Q .normal a' w'):(Code.region id ops true).wp P Q a w:=by
 obtain⟨fs,ss,L,S,X,V,T,e1,e2,e3,e4⟩:=zLw _ _ _ _ _ _ _ h
 subst e1;subst e2;subst e3;subst e4
 have C:Ctx P w0 n G call ops fs ss L S X V φ:=⟨hcall,hT,T,hi,hf,hG,hok⟩
 refine wp_region_any hm (zU1 C k ops.size _ φ (S 0).h (L 0) a _ (by simp) (by omega) ?_)
 have hno:∀ j,¬ ((Array.replicate ops.size false).getD j false=true):=by
  intro j
  by_cases hj:j < ops.size<;>simp[Array.getD_eq_getD_getElem?,hj]
 exact⟨H.drawn _,hF,fun t=>.inr ⟨fun j hj=>absurd hj (hno j),rfl⟩,fun id=>.inr ⟨fun j hj=>absurd hj (hno j),rfl⟩,Le.refl _,fun id h=>.inl h,fun j hj=>absurd hj (hno j),fun j _ _ hj=>absurd hj (hno j)⟩
end
end Go.Det
end
section
namespace Go.Det
variable {P:Program}
def zPi (n G:Nat):List Oper→Bool
 |[]=>true
 |o::t=>zJ2 n G o&&zPi n G t
theorem zLy {n G:Nat}:∀ {l:List Oper},zPi n G l=true→∀ o∈l,zJ2 n G o=true
 |[],_,o,ho=>by cases ho
 |x::t,h,o,ho=>by
  simp only[zPi,Bool.and_eq_true] at h
  rcases List.mem_cons.1 ho with rfl|ho
  ·exact h.1
  ·exact zLy h.2 o ho
def zEu (n G:Nat):Code→Bool
 |.region _ ops _=>zPi n G ops.toList
 |.seq a b=>zEu n G a&&zEu n G b
 |.cond c a b=>zIr G c&&(zEu n G a&&zEu n G b)
 |.block _ a=>zEu n G a
 |.loop a=>zEu n G a
 |_=>true
def Ex.out:Ex→Exit
 |.normal=>.normal
 |.exit id=>.exit id
 |.ret=>.ret
theorem zZa {c:Code}{Q:Exit→Act→World→Prop}(R:Nat→Act→World→Prop)(h0:∀ a w,R 0 a w→False)
  (hs:∀ k a w,R (k+1) a w→c.wp P (Exit.then (R k) Q) a w) {k:Nat} {a:Act} {w:World} (h:R k a w):(Code.loop c).wp P Q a w:=by
 intro b t cs
 have key:∀ k a w,R k a w→∃ e a' w',Q e a' w'∧Arrives P (lone (b.at a (.code c::.inLoop c::t)) cs w) b t cs e a' w':=by
  intro k
  induction k with
  |zero=>exact fun a w h=>(h0 a w h).elim
  |succ k ih=>
   intro a w h
   obtain⟨e,a₁,w₁,hq,harr⟩:=hs k a w h b (.inLoop c::t) cs
   cases e with
   |normal=>
    obtain⟨e₂,a₂,w₂,hq₂,harr₂⟩:=ih a₁ w₁ hq
    exact⟨e₂,a₂,w₂,hq₂,.of_steps (Steps.trans harr (.one step_inLoop)) harr₂⟩
   |exit id=>exact⟨_,a₁,w₁,hq,.pass (x:=.inLoop c) rfl (fun _ _=>.inl (by simp)) harr⟩
   |goto l=>exact⟨_,a₁,w₁,hq,.pass (x:=.inLoop c) rfl (fun _ _=>.inl (by simp)) harr⟩
   |ret=>exact⟨_,a₁,w₁,hq,.pass (x:=.inLoop c) rfl (fun _ _=>.inl (by simp)) harr⟩
   |panic ch=>exact⟨_,a₁,w₁,hq,.pass (x:=.inLoop c) rfl (fun _ _=>.inl (by simp)) harr⟩
   |outgrown=>exact⟨_,a₁,w₁,hq,.pass (x:=.inLoop c) rfl (fun _ _=>.inl (by simp)) harr⟩
 obtain⟨e,a',w',hq,harr⟩:=key k a w h
 exact⟨e,a',w',hq,.of_steps (.one step_loop) harr⟩
section
variable {w0:World} {n G:Nat}
structure Pre (w0:World) (n G:Nat) (l:zAz) (s s':St) (φ:Ren) (a:Act) (w:World):Prop where
 hr:HR φ s.h w0 w
 glob:Glob G φ
 fr:Fr n φ l a
 fresh:∀ id,s.next≤id→id < s'.hi→φ id=none
 full:Full s'.hi s
theorem Pre.sub {l:zAz}{s s' s1:St}{φ:Ren}{a:Act}{w:World}(p:Pre w0 n G l s s' φ a w)(h:s1.hi≤s'.hi):Pre w0 n G l s s1 φ a w:=
 ⟨p.hr,p.glob,p.fr,fun id q1 q2=>p.fresh id q1 (Nat.lt_of_lt_of_le q2 h),p.full.mono h⟩
theorem Pre.next {l l1:zAz}{s s' s1:St}{φ φ1:Ren}{a a1:Act}{w w1:World}(p:Pre w0 n G l s s' φ a w)(g:G1 s s1)(e:Ext φ φ1 s.next s1.next)(H:HR φ1 s1.h w0 w1)(F:Fr n φ1 l1 a1):
  Pre w0 n G l1 s1 s' φ1 a1 w1:=by
 refine⟨H,p.glob.mono e.le,F,fun id q1 q2=>?_,p.full.step g⟩
 cases hφ:φ1 id with
 |none=>rfl
 |some y=>
  rcases e.new id (by rw[hφ];simp) with r|r
  ·exact absurd (p.fresh id (Nat.le_trans g.next q1) q2) r
  ·omega
def ySm (w0:World)(n:Nat)(φ:Ren)(s:St)(l':zAz)(s':St)(φ':Ren)(a':Act)(w':World):Prop:=Ext φ φ' s.next s'.next∧HR φ' s'.h w0 w'∧Fr n φ' l' a'
def zXd (P:Program)(w0:World)(n G:Nat)(f:zDa)(c:Code):Prop:=
 ∀ l s e l' s' φ a w,f l s=some (e,l',s')→Pre w0 n G l s s' φ a w→∀ Q:Exit→Act→World→Prop,
  (∀ φ' a' w',ySm w0 n φ s l' s' φ' a' w'→Q e.out a' w')→c.wp P Q a w
theorem yDz {r:Option (Ex×zAz×St)}{e:Ex}{l:zAz}{s:St}(h:r=some (e,l,s)):asc r=some ((e,l),s):=by rw[h];rfl
theorem TrC.g {f:zDa}(h:TrC f){l:zAz}{s:St}{e:Ex}{l':zAz}{s':St}(k:f l s=some (e,l',s')):G1 s s':=(h l s (e,l') s' (yDz k)).1
theorem zRq {f g:zDa}{l:zAz}{s:St}{e:Ex}{l':zAz}{s':St}(h:yHi f g l s=some (e,l',s')):
  (∃ l1 s1,f l s=some (.normal,l1,s1)∧g l1 s1=some (e,l',s'))∨(f l s=some (e,l',s')∧∀ R:Act→World→Prop,∀ Q,Exit.then R Q e.out=Q e.out):=by
 unfold yHi andThen at h
 cases hf:f l s with
 |none=>rw[hf] at h;cases h
 |some x=>
  obtain⟨e1,l1,s1⟩:=x
  rw[hf] at h
  cases e1 with
  |normal=>exact .inl ⟨l1,s1,rfl,h⟩
  |exit id=>simp only[Option.some.injEq,Prod.mk.injEq] at h;obtain⟨rfl,rfl,rfl⟩:=h;exact .inr ⟨rfl,fun _ _=>rfl⟩
  |ret=>simp only[Option.some.injEq,Prod.mk.injEq] at h;obtain⟨rfl,rfl,rfl⟩:=h;exact .inr ⟨rfl,fun _ _=>rfl⟩
theorem zZb {f g:zDa}{c d:Code}(hf:TrC f)(hg:TrC g)(sf:zXd P w0 n G f c)(sg:zXd P w0 n G g d):zXd P w0 n G (yHi f g) (.seq c d):=by
 intro l s e l' s' φ a w h p Q hQ
 refine wp_seq ?_
 rcases zRq h with⟨l1,s1,h1,h2⟩|⟨h1,h2⟩
 ·have g1:=hf.g h1
  have g2:=hg.g h2
  refine sf l s _ l1 s1 φ a w h1 (p.sub g2.hi) _ fun φ1 a1 w1 q=>?_
  exact sg l1 s1 e l' s' φ1 a1 w1 h2 (p.next g1 q.1 q.2.1 q.2.2) Q fun φ2 a2 w2 q2=>hQ φ2 a2 w2 ⟨q.1.trans q2.1 (Nat.le_refl _) g2.next g1.next (Nat.le_refl _),q2.2⟩
 ·refine sf l s e l' s' φ a w h1 p _ fun φ1 a1 w1 q=>?_
  rw[h2];exact hQ φ1 a1 w1 q
theorem zXe {f:zDa}{c:Code}(hf:TrC f)(sf:zXd P w0 n G f c)(k:Nat):zXd P w0 n G (zX8 k f) (.loop c):=by
 intro l s e l' s' φ a w h p Q hQ
 refine zZa (fun k a w=>∃ l s φ,zX8 k f l s=some (e,l',s')∧Pre w0 n G l s s' φ a w∧∀ φ' a' w',ySm w0 n φ s l' s' φ' a' w'→Q e.out a' w') ?_ ?_ (k:=k) ⟨l,s,φ,h,p,hQ⟩
 ·rintro a w ⟨l,s,φ,h,_⟩;cases h
 ·rintro k a w ⟨l,s,φ,h,p,hQ⟩
  rcases zRq (f:=f) (g:=zX8 k f) h with⟨l1,s1,h1,h2⟩|⟨h1,h2⟩
  ·have g1:=hf.g h1
   have g2:=(zPf hf k).g h2
   refine sf l s _ l1 s1 φ a w h1 (p.sub g2.hi) _ fun φ1 a1 w1 q=>?_
   exact⟨l1,s1,φ1,h2,p.next g1 q.1 q.2.1 q.2.2,fun φ2 a2 w2 q2=>hQ φ2 a2 w2 ⟨q.1.trans q2.1 (Nat.le_refl _) g2.next g1.next (Nat.le_refl _),q2.2⟩⟩
  ·refine sf l s e l' s' φ a w h1 p _ fun φ1 a1 w1 q=>?_
   rw[h2];exact hQ φ1 a1 w1 q
theorem zRr {r:Option (zAz×St)}{e:Ex}{l:zAz}{s:St}(h:yF4 r=some (e,l,s)):e=.normal∧r=some (l,s):=by
 unfold yF4 at h
 split at h
 ·rename_i x
  simp only[Option.some.injEq,Prod.mk.injEq] at h
  obtain⟨rfl,rfl,rfl⟩:=h
  exact⟨rfl,rfl⟩
 ·cases h
theorem zNz {call:Call}(hcall:zHv P w0 G call)(hT:∀ f args,Tr (call f args))(hm:P.follows .mixedOrders=true)(k:Nat)(c:Code)(hok:zEu n G c=true):
  zXd P w0 n G (zM1 P call k c) c:=by
 induction c with
 |skip=>
  intro l s e l' s' φ a w h p Q hQ
  cases h
  exact wp_skip (hQ φ a w ⟨Ext.refl _ _ _,p.hr,p.fr⟩)
 |region id ops draw=>
  have hops:=zLy (l:=ops.toList) hok
  clear hok
  intro l s e l' s' φ a w h p Q hQ
  cases draw with
  |true=>
   obtain⟨rfl,h2⟩:=zRr (r:=zJ8 P call ops.toList ops.toList [] [] l s) h
   exact yDy hcall hT hm hops h2 p.hr p.glob p.fr p.fresh p.full fun φ' a' w' q1 q2 q3=>hQ φ' a' w' ⟨q1,q2,q3⟩
  |false=>
   obtain⟨rfl,h2⟩:=zRr (r:=zWg P call ops.toList ops.toList l s) h
   exact wp_region_list (zTh hcall hT ops ops.toList hops l s l' s' φ a w h2 p.hr p.glob p.fr p.fresh p.full fun φ' a' w' q1 q2 q3=>hQ φ' a' w' ⟨q1,q2,q3⟩)
 |seq a b ha hb=>
  simp only[zEu,Bool.and_eq_true] at hok
  exact zZb (zIq hT k a) (zIq hT k b) (ha hok.1) (hb hok.2)
 |cond c a b ha hb=>
  simp only[zEu,Bool.and_eq_true] at hok
  intro l s e l' s' φ a' w h p Q hQ
  have hv:=zKo p.glob p.fr hok.1
  change zS3 c (zM1 P call k a) (zM1 P call k b) l s=_ at h
  unfold zS3 at h
  split at h
  case h_2=>cases h
  rename_i t ht
  rw[ht] at hv
  refine wp_cond (t:=t) (zHd hv) ?_
  cases t with
  |true=>exact ha hok.2.1 l s e l' s' φ a' w h p Q hQ
  |false=>exact hb hok.2.2 l s e l' s' φ a' w h p Q hQ
 |block id c ih=>
  intro l s e l' s' φ a w h p Q hQ
  refine wp_block ?_
  change zQu id (zM1 P call k c) l s=_ at h
  unfold zQu zS4 at h
  cases hr:zM1 P call k c l s with
  |none=>rw[hr] at h;cases h
  |some x=>
   obtain⟨e1,l1,s1⟩:=x
   rw[hr] at h
   cases e1 with
   |normal=>
    simp only[Option.some.injEq,Prod.mk.injEq] at h
    obtain⟨rfl,rfl,rfl⟩:=h
    exact ih hok l s _ l1 s1 φ a w hr p _ hQ
   |ret=>
    simp only[Option.some.injEq,Prod.mk.injEq] at h
    obtain⟨rfl,rfl,rfl⟩:=h
    exact ih hok l s _ l1 s1 φ a w hr p _ hQ
   |exit i=>
    simp only at h
    cases hb:Nat.beq i id with
    |true=>
     rw[hb] at h
     simp only[Option.some.injEq,Prod.mk.injEq] at h
     obtain⟨rfl,rfl,rfl⟩:=h
     refine ih hok l s _ l1 s1 φ a w hr p _ fun φ' a' w' q=>?_
     show(if i=id then Q .normal a' w' else Q (.exit i) a' w')
     rw[if_pos (Nat.eq_of_beq_eq_true hb)]
     exact hQ φ' a' w' q
    |false=>
     rw[hb] at h
     simp only[Option.some.injEq,Prod.mk.injEq] at h
     obtain⟨rfl,rfl,rfl⟩:=h
     refine ih hok l s _ l1 s1 φ a w hr p _ fun φ' a' w' q=>?_
     show(if i=id then Q .normal a' w' else Q (.exit i) a' w')
     rw[if_neg (Nat.ne_of_beq_eq_false hb)]
     exact hQ φ' a' w' q
 |loop c ih=>exact zXe (zIq hT k c) (ih hok) k
 |exit id=>
  intro l s e l' s' φ a w h p Q hQ
  cases h
  exact wp_exit (hQ φ a w ⟨Ext.refl _ _ _,p.hr,p.fr⟩)
 |ret=>
  intro l s e l' s' φ a w h p Q hQ
  cases h
  exact wp_ret (hQ φ a w ⟨Ext.refl _ _ _,p.hr,p.fr⟩)
 |_=>intro l s e l' s' φ a w h;cases h
end
end Go.Det
end
section
namespace Go.Det
variable {P:Program}
section
variable {w0:World} {n G:Nat}
def zRs (tmps:Array Value):ResultVar→Sem Value
 |.tmp t=>pure (tmps.getD t undef)
 |.cell a t=>do loadVar t (← asAddr (tmps.getD a undef))
theorem zZc {s s':St}{t:TypeId}{x x' v:Value}{φ:Ren}{w:World}(h:zDw P s t x=some (v,s'))(H:HR φ s.h w0 w)(hx:VR φ x x'):
  ∃ ad v',x'=.pointer (some ad)∧(loadVar t ad).run P w=.ok v' w∧VR φ v v'∧s'.h=s.h∧s'.next=s.next:=by
 unfold zDw at h
 split at h
 case h_2=>cases h
 rename_i id off
 split at h
 case h_2=>cases h
 rename_i cs e ro hg
 obtain⟨b,sh,sz,e1,hp⟩:=zDm hx
 obtain⟨b',sh',sz',c,fz,k⟩:=H.cells _ _ _ _ hg
 have:=k.at_;rw[e1] at this;cases this
 split at h
 ·rename_i hb
  split at h
  case h_2=>cases h
  rename_i n hn
  split at h
  case h_2=>cases h
  rename_i r hr
  simp only[Option.some.injEq,Prod.mk.injEq] at h
  obtain⟨rfl,rfl⟩:=h
  rw[zB8] at hr
  obtain⟨rfl,hle⟩:=zB3 hr
  by_cases h0:n=0
  ·subst h0
   refine⟨_,.agg #[],hp,?_,?_,rfl,rfl⟩
   ·simp[loadVar,zC8 hb,zB1 hn,loadCells,loadCellsFrom]
   ·rw[List.take_zero];exact VR.agg_of (VRL.nil φ)
  ·obtain⟨r',hrun,hrel⟩:=zCv (P:=P) (n:=n) (off:=off) k (by simp at hle;omega)
   obtain⟨r'⟩:=r'
   refine⟨_,.agg ⟨r'⟩,hp,?_,VR.agg_of hrel,rfl,rfl⟩
   simp[loadVar,zC8 hb,zB1 hn,hrun]
 ·rename_i hb
  split at h
  case h_2=>cases h
  rename_i v1 t1 hd
  simp only[Option.some.injEq,Prod.mk.injEq] at h
  obtain⟨rfl,rfl⟩:=h
  rw[zB8] at hd
  have hlt:off < cs.length:=by
   rcases Nat.lt_or_ge off cs.length with q|q
   ·exact q
   ·rw[List.drop_eq_nil_of_le q] at hd;cases hd
  have hv1:cs.getD off und=v1:=by
   rw[List.getD_eq_getElem?_getD,show cs[off]?=(cs.drop off)[0]? by rw[List.getElem?_drop];rfl,hd];rfl
  have hc:=k.cell off hlt
  rw[hv1] at hc
  have hcell:=cell_at k.blk (sh+off) (by rw[k.size];have:=k.fit;omega)
  exact⟨_,_,hp,by simp[loadVar,zC8 hb,hcell],hc,rfl,rfl⟩
 ·cases h
theorem zPj {tmps:Array Value}{l:zAz}:∀ (rs:List ResultVar) {s:St} {vs:List Value} {s':St} {φ:Ren} {w:World},zQv P l s rs=some (vs,s')→HR φ s.h w0 w→(∀ t,VR φ (zEp l t) (tmps.getD t undef))→
  ∃ vs',(rs.mapM (zRs tmps)).run P w=.ok vs' w∧VRL φ vs vs'∧s'.h=s.h∧s'.next=s.next
 |[],s,vs,s',φ,w,h,H,_=>by
  rw[yDt] at h
  cases h
  exact⟨[],by simp,VRL.nil _,rfl,rfl⟩
 |.tmp t::rest,s,vs,s',φ,w,h,H,hl=>by
  rw[zPg] at h
  split at h
  case h_2=>cases h
  rename_i vs1 s1 h1
  cases h
  obtain⟨vs',r1,r3,r4,r5⟩:=zPj rest h1 H hl
  refine⟨tmps.getD t undef::vs',?_,VRL.cons (hl t) r3,r4,r5⟩
  simp only[List.mapM_cons,zRs,pure_bind,Sem.run_bind,r1,Result.andThen_ok,Sem.run_pure]
 |.cell a t::rest,s,vs,s',φ,w,h,H,hl=>by
  rw[zLt] at h
  split at h
  case h_2=>cases h
  rename_i v s1 h1
  split at h
  case h_2=>cases h
  rename_i vs1 s2 h2
  cases h
  obtain⟨ad,v',had,hr,hv,e1,e2⟩:=zZc h1 H (hl a)
  obtain⟨vs',r1,r3,r4,r5⟩:=zPj rest h2 (by rw[e1];exact H) hl
  refine⟨v'::vs',?_,VRL.cons hv r3,r4.trans e1,r5.trans e2⟩
  simp only[List.mapM_cons,zRs,had,asAddr,pure_bind,Sem.run_bind,hr,r1,Result.andThen_ok,Sem.run_pure]
theorem zLz {fn:Func}{tmps:Array Value}{w w':World}{vs:List Value}(h:(fn.results.toList.mapM (zRs tmps)).run P w=.ok vs w'):
  (results fn tmps).run P w=.ok (zHr vs) w':=by
 have e:results fn tmps=(do let vs ← fn.results.mapM (zRs tmps);pure (if h:vs.size=1 then vs[0] else .tuple vs)):=by
  unfold results
  congr 1
 rw[e,Array.mapM_eq_mapM_toList]
 simp only[map_eq_pure_bind,bind_assoc,pure_bind,Sem.run_bind,h,Result.andThen_ok,Sem.run_pure]
 match vs with
 |[]=>rfl
 |[v]=>rfl
 |v::u::t=>rfl
theorem zU2 {φ:Ren}{vs vs':List Value}(h:VRL φ vs vs'):VR φ (zHr vs) (zHr vs'):=by
 match vs,vs' with
 |[],[]=>exact VR.tuple_of h
 |[v],[v']=>exact h.2 0
 |a::b::t,a'::b'::t'=>exact VR.tuple_of h
 |[],_::_=>exact absurd h.1 (by simp)
 |_::_,[]=>exact absurd h.1 (by simp)
 |[_],_::_::_=>exact absurd h.1 (by simp)
 |_::_::_,[_]=>exact absurd h.1 (by simp)
theorem zIs {φ:Ren}{v v':Value}(h:flat v=true)(k:VR φ v v')(hne:v≠und):v'=v:=by
 unfold flat at h
 split at h
 ·cases k with
  |any=>exact absurd rfl hne
  |tuple a a' e q=>rw[zCf h ⟨e,q⟩]
 ·exact zCj h k
theorem zHh {v v':Value}{φ φ':Ren}(h:flat v=true)(k:VR φ v v'):VR φ' v v':=by
 by_cases e:v=und
 ·subst e;exact .any _
 ·rw[zIs h k e];exact zCi h φ'
theorem yP0 {s y s':St}{v v1 v':Value}{φ φ1:Ren}{w w':World}(h:gcD s v1 y=some (v,s'))(H:HR φ s.h w0 w)(g:G1 (yF8 s) y)(hf:∀ id,s.next≤id→id < s'.hi→φ id=none)(hle:s.next≤s.hi)
  (e:Ext φ φ1 s.next y.next) (hv:VR φ1 v1 v') (H1:HR φ1 y.h w0 w'):∃ φ',Ext φ φ' s.next s'.next∧VR φ' v v'∧HR φ' s'.h w0 w':=by
 unfold gcD at h
 cases hc:(flat v1&&(Nat.beq (Nat.mod y.wr (Nat.shiftLeft 1 s.next)) 0&&Nat.ble (Nat.lor y.rd y.wr+1) (Nat.shiftLeft 1 y.next)))<;>rw[hc] at h<;>simp only[Option.some.injEq,Prod.mk.injEq] at h<;>obtain⟨rfl,rfl⟩:=h
 ·exact⟨φ1,e,hv,H1⟩
 ·simp only[Bool.and_eq_true] at hc
  have hk:∀ id,φ id≠none→y.h.get id=s.h.get id:=by
   intro id hne
   refine g.frame id fun hb=>?_
   have h1:id < y.next:=zYp (Nat.le_of_ble_eq_true hc.2.2) (zBh.2 (.inr hb))
   rcases Nat.lt_or_ge id s.next with q|q
   ·have h2:=zTf.2 ⟨q,hb⟩
    rw[Nat.eq_of_beq_eq_true hc.2.1] at h2
    exact zEr h2
   ·exact hne (hf id q (Nat.lt_of_lt_of_le h1 (g.inv hle)))
  refine⟨φ,Ext.refl _ _ _,zHh hc.1 hv,H.forget H1 e.le (fun id cs t ro hg=>?_) fun id es hg=>?_⟩
  ·obtain⟨b,sh,sz,c,fz,k⟩:=H.cells _ _ _ _ hg
   rw[hk id (by rw[k.at_];simp)];exact hg
  ·obtain⟨b,sh,sz,O,k⟩:=H.obs _ _ hg
   rw[hk id (by rw[k.at_];simp)];exact hg
def zEv (G:Nat)(fn:Func):Bool:=match fn.body with
 |some c=>zEu fn.ntmps G c&&!(fn.name== "runtime.NumGoroutine")
 |none=>true
def zL0 (intr:zSv):Prop:=∀ f g,intr f=some g→∀ args,Tr (g args)
def zL1 (P:Program)(w0:World)(G:Nat)(intr:zSv):Prop:=∀ f g,intr f=some g→∀ args s v s',g args s=some (v,s')→∀ φ w args',HR φ s.h w0 w→Glob G φ→VRL φ args args'→(∀ id,s.next≤id→id < s'.hi→φ id=none)→Full s'.hi s→
  Gives P w0 φ s.next s' v ((callFunc f ⟨args'⟩).run P w)
theorem zKq (t:Nat):zEp [] t=und:=by
 show zEc und (zEc [] [] (t / 8)) (t % 8)=und
 rw[zCz,zCz]
theorem zXf (l:List Value):∀ t,zEc und l t=l.getD t und:=by
 induction l with
 |nil=>intro t;rw[zCz];simp
 |cons x r ih=>
  intro t
  cases t with
  |zero=>rfl
  |succ t=>rw[zDk,ih];simp
theorem zRt (r:List Value)(rest:zAz)(t:Nat):zEp (r::rest) t=if t < 8 then r.getD t und else zEp rest (t - 8):=by
 show zEc und (zEc [] (r::rest) (t / 8)) (t % 8)=_
 by_cases h:t < 8
 ·rw[if_pos h,show t / 8=0 by omega,show t % 8=t by omega,zJg,zXf]
 ·rw[if_neg h,show t / 8=(t - 8) / 8+1 by omega,zDk,show t % 8=(t - 8) % 8 by omega];rfl
theorem zRu:∀ (k:Nat) (args:List Value) (t:Nat),zEp (zAn args k) t=und∨zEp (zAn args k) t=args.getD t und
 |0,args,t=>.inl (by rw[zAn];exact zKq t)
 |k+1,args,t=>by
  unfold zAn
  split
  ·rename_i a b c d e f g h r
   rw[zRt]
   by_cases q:t < 8
   ·rw[if_pos q]
    right
    match t,q with
    |0,_|1,_|2,_|3,_|4,_|5,_|6,_|7,_=>rfl
   ·rw[if_neg q]
    obtain⟨u,rfl⟩:∃ u,t=u+8:=⟨t - 8,by omega⟩
    have:=zRu k r u
    simpa using this
  ·exact .inl (zKq t)
  ·rw[zRt]
   by_cases q:t < 8
   ·rw[if_pos q];exact .inr rfl
   ·rw[if_neg q];exact .inl (zKq _)
theorem zL2 {φ:Ren}{args:List Value}{args':List Value}{m:Nat}(h:VRL φ args args')(hm:args.length≤m):
  Fr m φ (zAn args 8) { tmps:=(⟨args'⟩:Array Value)++Array.replicate (m - (⟨args'⟩:Array Value).size) undef,defers:=[] }:=by
 refine⟨?_,fun t=>?_,rfl⟩
 ·have:=h.1
  simp
  omega
 ·rcases zRu 8 args t with e|e
  ·rw[e];exact .any _
  ·rw[e]
   by_cases q:t < args.length
   ·have hq:t < args'.length:=by rw[← h.1];exact q
    have:=h.2 t
    have e2:((⟨args'⟩:Array Value)++Array.replicate (m - (⟨args'⟩:Array Value).size) undef).getD t undef=args'.getD t und:=by
     rw[Array.getD_eq_getD_getElem?,Array.getElem?_append_left (by simpa using hq),List.getD_eq_getElem?_getD]
     simp[hq]
    rw[e2];exact this
   ·rw[List.getD_eq_getElem?_getD,List.getElem?_eq_none (by omega)]
    exact .any _
theorem zBj {f:FuncId}{fn:Func}{c:Code}(hf:P.funcs[f]?=some fn)(hb:fn.body=some c)(hn:(fn.name== "runtime.NumGoroutine")=false)(args:Array Value)(w:World):
  (callFunc f args).run P w=.ok (.enter f args) w:=by
 have hn':¬ fn.name= "runtime.NumGoroutine":=by intro e;rw[e] at hn;simp at hn
 unfold callFunc
 simp[hf,hb,hn']
theorem zU3 {intr:zSv}(hm:P.follows .mixedOrders=true)(hok:∀ f fn,intr f=none→nth P.funcs.toList f=some fn→zEv G fn=true)(hit:zL0 intr)(hi:zL1 P w0 G intr)(n:Nat):
  ∀ k,zHv P w0 G (zJf P intr n k)
 |0=>fun f args s v s' h=>by rw[zW9] at h;cases h
 |k+1=>by
  intro f args s v s' h φ w args' H hG hA hf hF
  rw[zNy] at h
  cases hfi:intr f with
  |some g=>
   simp only[hfi] at h
   exact hi f g hfi args s v s' h φ w args' H hG hA hf hF
  |none=>
   simp only[hfi] at h
   unfold yDb at h
   split at h
   case h_2=>cases h
   rename_i fn hfn
   split at h
   case h_2=>cases h
   rename_i c hc
   have hk:=hok f fn hfi hfn
   unfold zEv at hk
   rw[hc] at hk
   simp only[Bool.and_eq_true,Bool.not_eq_true'] at hk
   rw[zEs,Array.getElem?_toList] at hfn
   have hT:=zUy (P:=P) hit n k
   have hcall:=zU3 hm hok hit hi n k
   simp only[zLv] at h
   split at h
   case h_2=>cases h
   rename_i hle
   have hle:=Nat.le_of_ble_eq_true hle
   split at h
   case h_2=>cases h
   rename_i x hx
   obtain⟨v1,y⟩:=x
   simp only at h
   unfold obind asc at hx
   cases hr:zM1 P (zJf P intr n k) n c (zAn args 8) (yF8 s) with
   |none=>rw[hr] at hx;cases hx
   |some z=>
    obtain⟨e,l1,y1⟩:=z
    rw[hr] at hx
    simp only at hx
    have g1:=(zIq hT n c).g hr
    have hhi:y.hi=s'.hi:=by
     unfold gcD at h
     split at h<;>simp only[Option.some.injEq,Prod.mk.injEq] at h<;>obtain⟨_,rfl⟩:=h<;>rfl
    have hres:omap (zQv P l1 y1 fn.results.toList) zHr=some (v1,y):=by
     cases e with
     |normal=>exact hx
     |ret=>exact hx
     |exit i=>cases hx
    unfold omap at hres
    split at hres
    case h_2=>cases hres
    rename_i q hq
    obtain⟨vs,y2⟩:=q
    simp only[Option.some.injEq,Prod.mk.injEq] at hres
    obtain⟨rfl,rfl⟩:=hres
    have g2:=(zLu (P:=P) l1 fn.results.toList y1 vs y2 hq).1
    rw[zBj hfn hc hk.2]
    show Calls P f ⟨args'⟩ w _
    refine calls_of_wp hfn hc ?_
    have hpre:Pre w0 fn.ntmps G (zAn args 8) (yF8 s) y1 φ { tmps:=(⟨args'⟩:Array Value)++Array.replicate (fn.ntmps - (⟨args'⟩:Array Value).size) undef,defers:=[] } w:=
     ⟨H,hG,zL2 hA hle,fun id q1 q2=>hf id q1 (by rw[← hhi];exact Nat.lt_of_lt_of_le q2 g2.hi),⟨hF.le,fun id q1 q2=>hF.get id q1 (by rw[← hhi];exact Nat.lt_of_lt_of_le q2 g2.hi)⟩⟩
    refine zNz hcall hT hm n c hk.1 _ _ _ _ _ φ _ w hr hpre _ fun φ1 a1 w1 po=>?_
    obtain⟨e1,H1,F1⟩:=po
    obtain⟨vs',r1,r3,r4,r5⟩:=zPj fn.results.toList hq H1 F1.tmp
    have hgc:=yP0 h H (g1.trans g2) hf hF.le (e1.mono (Nat.le_refl _) (Nat.le_of_eq r5.symm)) (zU2 r3) (by rw[r4];exact H1)
    have hend:a1.defers=[]∧∃ v2,(results fn a1.tmps).run P w1=.ok v2 w1∧∃ v' φ',Ending.returned v2=.returned v'∧Ext φ φ' s.next s'.next∧VR φ' v v'∧HR φ' s'.h w0 w1:=by
     obtain⟨φ',q1,q2,q3⟩:=hgc
     exact⟨F1.defers,zHr vs',zLz r1,zHr vs',φ',rfl,q1,q2,q3⟩
    cases e with
    |normal=>exact hend
    |ret=>exact hend
    |exit i=>cases hx
end
end Go.Det
end
namespace Go.Det
variable {P:Program}
def zEw (mask:Nat)(ext:zSv):zSv:=fun f=>match Nat.testBit mask f with
 |true=>none
 |false=>match ext f with
  |some g=>some g
  |none=>some fun _ _=>none
theorem zTj {mask:Nat}{ext:zSv}{f:FuncId}(h:zEw mask ext f=none):Nat.testBit mask f=true:=by
 unfold zEw at h
 split at h
 ·assumption
 ·split at h<;>cases h
theorem zL3 {mask:Nat}{ext:zSv}{f:FuncId}{g}(h:zEw mask ext f=some g):ext f=some g∨g=fun _ _=>none:=by
 unfold zEw at h
 split at h
 ·cases h
 ·split at h
  ·rename_i g' hg;cases h;exact .inl hg
  ·cases h;exact .inr rfl
theorem zZd {mask:Nat}{ext:zSv}(h:zL0 ext):zL0 (zEw mask ext):=by
 intro f g hf args
 rcases zL3 hf with h1|rfl
 ·exact h f g h1 args
 ·exact zA6 fun _=>rfl
theorem zZe {w0:World}{G:Nat}{mask:Nat}{ext:zSv}(h:zL1 P w0 G ext):zL1 P w0 G (zEw mask ext):=by
 intro f g hf
 rcases zL3 hf with h1|rfl
 ·exact h f g h1
 ·intro args s v s' e;cases e
def yP1 (P:Program)(G f:Nat):Bool:=match nth P.funcs.toList f with|some fn=>zEv G fn|none=>true
def zL4 (P:Program)(G mask:Nat):Nat→Bool
 |0=>true
 |f+1=>(match Nat.testBit mask f with|true=>yP1 P G f|false=>true)&&zL4 P G mask f
theorem zRv {G mask:Nat}:∀ {N:Nat},zL4 P G mask N=true→∀ f,f < N→Nat.testBit mask f=true→yP1 P G f=true
 |0,_,f,hf,_=>by omega
 |N+1,h,f,hf,hb=>by
  simp only[zL4,Bool.and_eq_true] at h
  by_cases e:f=N
  ·subst e;have:=h.1;rw[hb] at this;exact this
  ·exact zRv h.2 f (by omega) hb
theorem mask_lt {mask N f:Nat} (h:Nat.ble (mask+1) (Nat.shiftLeft 1 N)=true) (hb:Nat.testBit mask f=true):f < N:=zYp (Nat.le_of_ble_eq_true h) hb
theorem zXg {G mask N:Nat} {ext:zSv} (h:(Nat.ble (mask+1) (Nat.shiftLeft 1 N)&&zL4 P G mask N)=true):
    ∀ f fn,zEw mask ext f=none→nth P.funcs.toList f=some fn→zEv G fn=true:=by
  intro f fn hf hn
  rw[Bool.and_eq_true] at h
  have hb:=zTj hf
  have:=zRv h.2 f (mask_lt h.1 hb) hb
  unfold yP1 at this
  rw[hn] at this
  exact this
def isTrue:Option (Value×St)→Bool
 |some x=>match x.1 with|.bool b=>b|_=>false
 |none=>false
theorem zTk {r:Option (Value×St)}(h:isTrue r=true):∃ s',r=some (.bool true,s'):=by
 cases r with
 |none=>cases h
 |some x=>
  obtain⟨v,s⟩:=x
  cases v with
  |bool b=>have h:b=true:=h;subst h;exact⟨s,rfl⟩
  |_=>cases h
structure yQf (W W':World):Prop where
 os:W'.os=W.os
 output:W'.output=W.output
 size:W.heap.size≤W'.heap.size
 old:∀ b,b < W.heap.size→W'.heap[b]?=W.heap[b]?
theorem HR.kept {φ:Ren}{h:Heap}{W W':World}(H:HR φ h W W'):yQf W W':=⟨H.os,H.output,H.size,H.old⟩
def zAo (h:Heap)(k:Nat):St:={ h:=h,next:=k,hi:=k,rd:=0,wr:=0 }
theorem zU4 {G mask N n k:Nat} {ext:zSv} {f:FuncId} {fn:Func} {c:Code} {args args':List Value} {h:Heap} {top:Nat} {W:World} {φ:Ren} {v:Value} {s':St}
    (hm:P.follows .mixedOrders=true) (hok:(Nat.ble (mask+1) (Nat.shiftLeft 1 N)&&zL4 P G mask N)=true) (hit:zL0 ext) (hio:zL1 P W G ext)
    (hf:P.funcs[f]?=some fn) (hb:fn.body=some c) (hn:(fn.name== "runtime.NumGoroutine")=false)
    (H:HR φ h W W) (hG:Glob G φ) (hA:VRL φ args args') (hφ:∀ id,top≤id→φ id=none) (hF:∀ id,top≤id→h.get id=none)
    (e:zJf P (zEw mask ext) n k f args (zAo h top)=some (v,s')):
    Calls P f ⟨args'⟩ W fun e W' => ∃ v' φ', e = .returned v' ∧ Ext φ φ' top s'.next ∧ VR φ' v v' ∧ HR φ' s'.h W W' := by
  have := zU3 (P := P) (w0 := W) (G := G) hm (zXg hok) (zZd hit) (zZe hio) n k f args _ v s' e φ W args' H hG hA (fun id q _ => hφ id q) ⟨Nat.le_refl _, fun id q _ => hF id q⟩
  rw[zBj hf hb hn] at this
  exact this
theorem HR.empty (φ:Ren)(W:World)(hd:∀ id b sh sz,φ id=some (b,sh,sz)→b < W.heap.size):HR φ [] W W:=by
 have hg:∀ id,Heap.get [] id=none:=by
  intro id
  show zEc none (zEc [] [] (id / 8)) (id % 8)=none
  rw[zCz,zCz]
 exact⟨rfl,rfl,rfl,Nat.le_refl _,fun _ _=>rfl,hd,fun id cs e ro h=>(by rw[hg] at h;cases h),fun i j ci ei cj ej ro bi si zi bj sj zj _ h=>(by rw[hg] at h;cases h),
  fun id es h=>(by rw[hg] at h;cases h),fun i j ei ej bi si zi bj sj zj _ h=>(by rw[hg] at h;cases h)⟩
end Go.Det
namespace Go.Det
variable {P:Program}
def glob (G:Nat)(W:World):Ren:=fun g=>if g < G then some (g,0,match W.heap[g]? with|some (.cells c _ _)=>c.size|_=>0) else none
theorem zEj (G:Nat)(W:World):Glob G (glob G W):=fun g hg=>⟨_,by unfold glob;rw[if_pos hg]⟩
theorem zDu (G:Nat)(W:World){top:Nat}(h:G≤top)(id:Nat)(hid:top≤id):glob G W id=none:=by unfold glob;rw[if_neg (by omega)]
structure Laying (G:Nat) (W:World) (h:Heap):Prop where
 hr:HR (glob G W) h W W
 ro:∀ id cs e r,h.get id=some (.cells cs e r)→r=true
 nomp:∀ id es,h.get id≠some (.ob es)
 top:∀ id,G≤id→h.get id=none
theorem zL5 (id:Nat):Heap.get [] id=none:=by
 show zEc none (zEc [] [] (id / 8)) (id % 8)=none
 rw[zCz,zCz]
theorem Laying.empty {G:Nat}{W:World}(hG:G≤W.heap.size):Laying G W []:=
 ⟨HR.empty _ W (fun id b sh sz h=>by
  unfold glob at h
  split at h
  ·cases h;omega
  ·cases h),fun id cs e r h=>(by rw[zL5] at h;cases h),fun id es h=>(by rw[zL5] at h;cases h),fun id _=>zL5 id⟩
theorem Laying.lay {G:Nat}{W:World}{h:Heap}(L:Laying G W h){g:Nat}{c:Array Value}{t:TypeId}{fz:Nat×Nat}{cs:List Value}(hg:g < G)(hb:W.heap[g]?=some (.cells c t fz))(hc:c.toList=cs)(hf:zEd cs=true):
  Laying G W (h.set g (.cells cs (2 * t) true)):=by
 have hφ:glob G W g=some (g,0,c.size):=by unfold glob;rw[if_pos hg,hb]
 have hone:∀ id b sh sz,glob G W id=some (b,sh,sz)→b=id:=by
  intro id b sh sz e
  unfold glob at e
  split at e
  ·cases e;rfl
  ·cases e
 have hv:VRL (glob G W) cs c.toList:=by rw[hc];exact zNp hf _
 have hnm:∀ id es,(h.set g (.cells cs (2 * t) true)).get id≠some (.ob es):=by
  intro id es q
  rw[Heap.get_set] at q
  by_cases hi:id=g
  ·rw[if_pos hi] at q;cases q
  ·rw[if_neg hi] at q;exact L.nomp _ _ q
 refine⟨⟨rfl,rfl,rfl,Nat.le_refl _,fun _ _=>rfl,L.hr.dom,fun id cs' e r q=>?_,fun i j ci ei cj ej r bi si zi bj sj zj hij gi gj ai aj=>?_,fun id es q=>absurd q (hnm id es),fun i j ei ej bi si zi bj sj zj hij gi _ _ _=>absurd gi (hnm i ei)⟩,fun id cs' e r q=>?_,hnm,fun id hid=>?_⟩
 ·rw[Heap.get_set] at q
  by_cases hi:id=g
  ·subst hi;rw[if_pos rfl] at q;cases q
   refine⟨id,0,c.size,c,fz,hφ,by rw[zS5];exact hb,fun h=>absurd h (zYb t),rfl,by rw[← hc];simp,fun i _=>?_,fun h=>by cases h⟩
   have:=hv.2 i
   rw[Nat.zero_add]
   simpa [List.getD_eq_getElem?_getD,Array.getD_eq_getD_getElem?] using this
  ·rw[if_neg hi] at q;exact L.hr.cells _ _ _ _ q
 ·rw[hone _ _ _ _ ai,hone _ _ _ _ aj];exact hij
 ·rw[Heap.get_set] at q
  by_cases hi:id=g
  ·rw[if_pos hi] at q;cases q;rfl
  ·rw[if_neg hi] at q;exact L.ro _ _ _ _ q
 ·rw[Heap.get_set,if_neg (by omega)];exact L.top id hid
theorem zGx {H:Type}{enc:TypeId×Value→H}{w:World}{base:Nat}{spare:Nat→Bool}{held:Bool}{fuel:Nat}{t e:TypeId}{n:Nat}{k:IntKind}{cs:List Value}{ns:List Int}{p:List MemPlace}
  (ht:P.underlying t=some (.array n e)) (he:P.underlying e=some (.int k)) (hc:P.cellsOf e=1) (hct:P.cellsOf t=n)
  (h:DataW.trod enc P w base spare held fuel t cs=some (.agg (ns.map fun n=>.lit (.int k n)),p)):cs=ns.map (Value.int k):=by
 obtain⟨xs,m,_,ex,hl,hn,hel⟩:=DataW.trod_array ht h
 simp only[Prod.mk.injEq,DataW.agg.injEq] at ex
 have hlen:ns.length=n:=by rw[← hn];have:=congrArg List.length ex.1;simpa using this
 refine List.ext_getElem? fun i=>?_
 by_cases hi:i < n
 ·have h1:=hel i hi
  rw[hc,Nat.mul_one] at h1
  have hx:xs[i]?=some xs[i]:=List.getElem?_eq_getElem (by omega)
  rw[hx] at h1
  obtain⟨a,ha,hb,_⟩:=DataW.trod_int he h1
  have hin:i < ns.length:=by rw[hlen];exact hi
  have e1:(xs.map (·.1))[i]?=(ns.map fun n=>DataW.lit (.int k n))[i]?:=by rw[ex.1]
  rw[List.getElem?_map,hx,List.getElem?_map,List.getElem?_eq_getElem hin] at e1
  simp only[Option.map_some,hb,Option.some.injEq,DataW.lit.injEq,Lit.int.injEq,true_and] at e1
  have e2:cs[i]?=((cs.drop i).take 1)[0]?:=by rw[List.getElem?_take_of_lt (by omega),List.getElem?_drop,Nat.add_zero]
  rw[e2,ha,List.getElem?_map,List.getElem?_eq_getElem hin,← e1]
  rfl
 ·rw[List.getElem?_eq_none (by rw[hl,hct];omega),List.getElem?_eq_none (by simp;omega)]
theorem zEx {W:World}{n:String}{g:Nat}{cs:Array Value}(hg:P.globalNamed n=some g)(hv:W.var? P n=some cs):∃ t fz,W.heap[g]?=some (.cells cs t fz):=by
 unfold World.var? at hv
 rw[hg] at hv
 simp only[Option.bind_some] at hv
 split at hv
 ·rename_i c t fz hb;cases hv;exact⟨t,fz,hb⟩
 ·cases hv
theorem zPk {W:World}{g:Nat}{o}(h:W.heap[g]?=some o):g < W.heap.size:=by
 rcases Nat.lt_or_ge g W.heap.size with q|q
 ·exact q
 ·rw[Array.getElem?_eq_none q] at h;cases h
end Go.Det
end

/- Texts of a proof, joined: words of the print (those that are named here) and printed functions. -/
import Derived.Test.YtfnacgojmdbjmaaGreatDoorPkm3
import Derived.Lib.Split
import Derived.Lib.Join
set_option linter.unusedSimpArgs false
set_option linter.unusedVariables false
set_option maxRecDepth 100000
noncomputable section
namespace Go.Det
variable {P:Program}
theorem zSd {l:zAz}(rs:List ResultVar):∀ {s:St} {K K':List Value→St→Prop},(∀ vs s,K vs s→K' vs s)→yGe P l s rs K→yGe P l s rs K':=by
 induction rs with
 |nil=>exact fun k h=>k _ _ h
 |cons r rest ih=>
  intro s K K' k h
  cases r with
  |tmp t=>exact ih (K:=fun vs s=>K (zEp l t::vs) s) (fun _ _ h=>k _ _ h) h
  |cell a t=>exact zN4 (fun v s h=>ih (K:=fun vs s=>K (v::vs) s) (fun _ _ h=>k _ _ h) h) h
theorem yAr {fn:Func}{Q Q':KV}(k:∀ v s,Q v s→Q' v s){e:Ex}{l:zAz}{s:St}(h:zA7 P fn Q e l s):zA7 P fn Q' e l s:=by
 unfold zA7 at h ⊢
 cases e with
 |exit _=>exact h
 |normal=>exact zSd _ (fun _ _ h=>k _ _ h) h
 |ret=>exact zSd _ (fun _ _ h=>k _ _ h) h
def yPq:Value→Bool
 |.float .f64 1=>true
 |.slice _ n c=>Nat.ble zEo c||Nat.ble n c
 |_=>false
def yC3 {β:Type}(d:Value→Option β):List Value→Option (List β)
 |[]=>some []
 |v::t=>match d v with
  |some b=>(match yC3 d t with|some r=>some (b::r)|none=>none)
  |none=>none
theorem zPw {β:Type}{d:Value→Option β}{e:β→Value}(hd:∀ v b,d v=some b→v=e b):∀ {l:List Value} {r:List β},yC3 d l=some r→l=r.map e
 |[],r,h=>by cases h;rfl
 |v::t,r,h=>by
  unfold yC3 at h
  split at h
  case h_2=>cases h
  rename_i b hb
  split at h
  case h_2=>cases h
  rename_i r' hr
  cases h
  rw[hd v b hb,zPw hd hr];rfl
def zMn {β γ δ:Type}(d:Value→Option β)(dr:List Value→Option γ)(F:List β→γ→Option δ)(enc:δ→Value)(args:List Value)(s:St):Option (Value×St):=
 match args with
 |v::rest=>match yPq v with
  |true=>(match dr rest with
   |some g=>(match yFz v with
    |some n=>(match zBu s 1 n v with
     |some x=>(match yC3 d x.1 with
      |some l=>(match F l g with|some r=>some (enc r,x.2)|none=>none)
      |none=>none)
     |none=>none)
    |none=>none)
   |none=>none)
  |false=>none
 |[]=>none
def Con.reads {β γ δ:Type}(d:Value→Option β)(dr:List Value→Option γ)(F:List β→γ→Option δ)(enc:δ→Value):Con where
 own:=zMn d dr F enc
 w:=fun args s K=>match args with
  |v::rest=>(match yPq v with
   |true=>(match dr rest with
    |some g=>(match yFz v with
     |some n=>(match zBu s 1 n v with
      |some x=>(match yC3 d x.1 with
       |some l=>∃ r,F l g=some r∧K (enc r) x.2
       |none=>False)
      |none=>False)
     |none=>False)
    |none=>False)
   |false=>False)
  |[]=>False
 ok:=by
  intro args s K h
  unfold zMn
  split at h
  case h_2=>exact h.elim
  split at h
  case h_2=>exact h.elim
  rename_i h1
  split at h
  case h_2=>exact h.elim
  rename_i g h2
  split at h
  case h_2=>exact h.elim
  rename_i n h3
  split at h
  case h_2=>exact h.elim
  rename_i x h4
  split at h
  case h_2=>exact h.elim
  rename_i l h5
  obtain⟨r,hr,hk⟩:=h
  exact⟨enc r,x.2,by simp only[h1,h2,h3,h4,h5,hr],hk,fun K' k=>⟨r,hr,k⟩⟩
 mono:=by
  intro args s K K' k h
  split at h
  case h_2=>exact h.elim
  split at h
  case h_2=>exact h.elim
  rename_i h1
  split at h
  case h_2=>exact h.elim
  rename_i g h2
  split at h
  case h_2=>exact h.elim
  rename_i n h3
  split at h
  case h_2=>exact h.elim
  rename_i x h4
  split at h
  case h_2=>exact h.elim
  rename_i l h5
  obtain⟨r,hr,hk⟩:=h
  first|exact⟨r,hr,k _ _ hk⟩|(simp only[*];exact⟨r,hr,k _ _ hk⟩)
theorem yEo {β γ δ:Type}(d:Value→Option β)(dr:List Value→Option γ)(F:List β→γ→Option δ)(enc:δ→Value)(args:List Value):Tr (zMn d dr F enc args):=by
 intro s v s' h
 unfold zMn at h
 split at h
 case h_2=>cases h
 rename_i v0 rest
 split at h
 case h_2=>cases h
 rename_i h1
 split at h
 case h_2=>cases h
 rename_i g h2
 split at h
 case h_2=>cases h
 rename_i n h3
 split at h
 case h_2=>cases h
 rename_i x h4
 split at h
 case h_2=>cases h
 rename_i l h5
 split at h
 case h_2=>cases h
 rename_i r h6
 cases h
 obtain⟨a,b⟩:=zH6 1 n v0 s x.1 x.2 h4
 refine⟨a,fun u j hbe hag hx=>?_⟩
 obtain⟨u',e,k⟩:=b u j hbe hag hx
 exact⟨u',by unfold zMn;simp only[h1,h2,h3,e,h5,h6],k⟩
def yAs {β:Type}(e:β→Value)(w:World)(A:Option Addr)(l:List β):Prop:=
 l=[]∨∃ b o,A=some ⟨b,o,none⟩∧∀ j x,l[j]?=some x→w.cell? ⟨b,o+j,none⟩=some (e x)
theorem own_reads {G:Nat}{f:FuncId}{fn:Func}{c:Code}{β γ δ:Type}{d:Value→Option β}{dr:List Value→Option γ}{F:List β→γ→Option δ}{enc:δ→Value}{e:β→Value}{er:γ→List Value}{W:World}{Gd:World→Prop}
  (hW:∀ w,Later W w→Gd w) (hf:P.funcs[f]?=some fn) (hb:fn.body=some c) (hn:(fn.name== "runtime.NumGoroutine")=false)
  (hd:∀ v b,d v=some b→v=e b) (he:∀ b,flat (e b)=true∧e b≠und) (hdr:∀ r g,dr r=some g→r=er g) (her:∀ g,zCp (er g)=true)
  (h:∀ l g r,F l g=some r→flat (enc r)=true∧enc r≠und∧∀ w A c,Gd w→l.length≤c→yAs e w A l→
   Calls P f ⟨.slice A l.length c::er g⟩ w fun z w'=>z=.returned (enc r)∧(w'.os=w.os∧w'.tape=w.tape∧w'.output=w.output∧w.heap.size≤w'.heap.size∧∀ j,j < w.heap.size→w'.heap[j]?=w.heap[j]?)):
  zAr P W G f (Con.reads d dr F enc).own:=by
 refine⟨yEo d dr F enc,fun W1 k1 args s v s' ed φ w args' H _ hA _ _=>?_⟩
 change zMn d dr F enc args s=some (v,s') at ed
 unfold zMn at ed
 split at ed
 case h_2=>cases ed
 rename_i v0 rest
 split at ed
 case h_2=>cases ed
 rename_i h1
 split at ed
 case h_2=>cases ed
 rename_i g h2
 split at ed
 case h_2=>cases ed
 rename_i n h3
 split at ed
 case h_2=>cases ed
 rename_i x h4
 split at ed
 case h_2=>cases ed
 rename_i l h5
 split at ed
 case h_2=>cases ed
 rename_i r h6
 cases ed
 obtain rfl:=hdr _ _ h2
 have hx:=zPw hd h5
 have kw:Later W w:=k1.trans H.later
 obtain⟨A,c',hA1,hlen,hc,hrow,hs⟩:∃ A c',args'=.slice A l.length c'::er g∧n=l.length∧l.length≤c'∧yAs e w A l∧(x.2.h=s.h∧s.next=x.2.next):=by
  obtain⟨hl,hA⟩:=hA
  cases args' with
  |nil=>simp at hl
  |cons u t=>
   have hv:=hA 0
   simp only[List.getD_cons_zero] at hv
   have ht:VRL φ (er g) t:=⟨by simpa using hl,fun i=>by have:=hA (i+1);simpa only[List.getD_cons_succ] using this⟩
   have ht:=zCf (her g) ht
   subst ht
   have hll:x.1.length=l.length:=by rw[hx,List.length_map]
   unfold yPq at h1
   split at h1
   ·
    cases h3
    unfold zBu at h4
    simp only at h4
    split at h4
    case isFalse=>cases h4
    cases h4
    cases hv with
    |emp a c hsp=>
     have:l=[]:=List.eq_nil_of_length_eq_zero hll.symm
     subst this
     exact⟨a,c,rfl,rfl,Nat.zero_le _,.inl rfl,rfl,rfl⟩
   ·rename_i a0 m c0
    cases h3
    unfold zBu at h4
    split at h4
    ·rename_i id off n1 c1 heq
     cases heq
     have hcap:∃ b sh sz cc,u=.slice (some ⟨b,sh+off,none⟩) n cc∧φ id=some (b,sh,sz)∧n≤cc:=by
      cases hv with
      |slice _ _ b sh sz _ _ hφ hlt=>
       refine⟨b,sh,sz,c0,rfl,hφ,?_⟩
       rcases Bool.or_eq_true_iff.1 h1 with q|q
       ·have:=Nat.le_of_ble_eq_true q;omega
       ·exact Nat.le_of_ble_eq_true q
      |sliceU _ _ b sh sz _ cc _ hφ _ _ hle=>exact⟨b,sh,sz,cc,rfl,hφ,hle⟩
     obtain⟨b,sh,sz,cc,rfl,hφ,hle⟩:=hcap
     split at h4
     ·rename_i h0
      have h0:n * 1=0:=Nat.eq_of_beq_eq_true h0
      cases h4
      have:l=[]:=List.eq_nil_of_length_eq_zero hll.symm
      subst this
      have:n=0:=by omega
      subst this
      exact⟨_,cc,rfl,rfl,Nat.zero_le _,.inl rfl,rfl,rfl⟩
     ·split at h4
      case h_2=>cases h4
      rename_i cs e0 ro hg
      split at h4
      case h_2=>cases h4
      rename_i r0 hr0
      cases h4
      simp only at hx hll
      rw[zB8] at hr0
      obtain⟨e1,e2⟩:=zB3 hr0
      rw[Nat.mul_one] at e1 e2
      have hn:n=l.length:=by rw[← hll,e1,List.length_take];omega
      subst hn
      refine⟨_,cc,rfl,rfl,hle,.inr ⟨b,sh+off,rfl,fun j y hj=>?_⟩,rfl,rfl⟩
      obtain⟨b2,sh2,sz2,c2,fz,q⟩:=H.cells _ _ _ _ hg
      have:=q.at_
      rw[hφ] at this;cases this
      have hjl:j < l.length:=(List.getElem?_eq_some_iff.1 hj).1
      have hcs:cs.getD (off+j) und=e y:=by
       have h7:r0[j]?=some (e y):=by rw[hx,List.getElem?_map,hj];rfl
       rw[e1,List.getElem?_take,if_pos hjl,List.getElem?_drop] at h7
       rw[List.getD_eq_getElem?_getD,h7];rfl
      have hlt:off+j < cs.length:=by rw[List.length_drop] at e2;omega
      have hv:=q.cell (off+j) hlt
      rw[hcs] at hv
      have hv:=zIs (he y).1 hv (he y).2
      unfold World.cell?
      rw[q.blk]
      simp only[Option.isSome_none,Bool.false_eq_true,if_false]
      have hfit:=q.fit
      have hsz:=q.size
      rw[Array.getD_eq_getD_getElem?,Array.getElem?_eq_getElem (by omega)] at hv
      rw[show sh+off+j=sh+(off+j) by omega,Array.getElem?_eq_getElem (by omega)]
      simpa using hv
    ·rename_i n1 c1 heq
     cases heq
     split at h4
     case isFalse=>cases h4
     rename_i h0
     cases h4
     have h0:n=0:=Nat.eq_of_beq_eq_true h0
     subst h0
     have:l=[]:=List.eq_nil_of_length_eq_zero hll.symm
     subst this
     cases hv with
     |snil _ _ hlt=>exact⟨none,c0,rfl,rfl,Nat.zero_le _,.inl rfl,rfl,rfl⟩
    ·rename_i heq;cases heq
    ·rename_i heq;cases heq
    ·cases h4
   ·cases h1
 obtain⟨f1,f2,f3⟩:=h l g r h6
 rw[hA1,zBj hf hb hn]
 refine(f3 w A c' (hW w kw) hc hrow).mono ?_
 rintro z W' ⟨rfl,o1,o2,o3,o4,o5⟩
 refine⟨_,φ,rfl,Ext.refl _ _ _,zCi f1 _,?_⟩
 rw[hs.1]
 exact H.keep ⟨o1,o3,o4,o5⟩ o2
def Con.made {α:Type}(dec:List Value→Option α)(F:α→Option (List Value))(n:Nat)(e:TypeId):Con where
 own:=fun args s=>match dec args with
  |some a=>(match F a with
   |some cs=>some (.slice (some ⟨s.next,0,none⟩) n n,s.new (.cells cs e false))
   |none=>none)
  |none=>none
 w:=fun args s K=>match dec args with
  |some a=>∃ cs,F a=some cs∧K (.slice (some ⟨s.next,0,none⟩) n n) (s.new (.cells cs e false))
  |none=>False
 ok:=by
  intro args s K h
  split at h
  ·rename_i a ha
   obtain⟨cs,hr,hk⟩:=h
   exact⟨_,_,by simp only[ha,hr],hk,fun K' k=>⟨cs,hr,k⟩⟩
  ·exact h.elim
 mono:=by
  intro args s K K' k h
  split at h
  ·obtain⟨cs,hr,hk⟩:=h
   exact⟨cs,hr,k _ _ hk⟩
  ·exact h.elim
theorem yEp {cw:Cw}{W:World}{G:Nat}{l:List (Nat×Own)}{h:Heap}{f:FuncId}{fn:Func}{c:Code}{α:Type}{dec:List Value→Option α}{F:α→Option (List Value)}{n:Nat}{e:TypeId}(enc:α→List Value)(L:Laying G W h)(hGW:G≤W.heap.size)(hG64:G≤64)
  (hm:P.follows .mixedOrders=true) (hl:OwnsAll P W G l) (ho:CwOk (zDr l) cw) (hf:P.funcs[f]?=some fn) (hb:fn.body=some c) (hok:zEv G fn=true) (hn:n < zEo)
  (hdec:∀ args a,dec args=some a→args=enc a) (hflat:∀ a,zCp (enc a)=true∧Nat.ble (enc a).length fn.ntmps=true)
  (hF:∀ a cs,F a=some cs→(∀ v∈cs,flat v=true)∧zAx P cw c (zAn (enc a) 8) (zAo h 64) (zA7 P fn fun v' s'=>∃ k,v'=.slice (some ⟨k,0,none⟩) n n∧s'.h.get k=some (.cells cs e false))):zAr P W G f (Con.made dec F n e).own:=by
 refine⟨fun args=>?_,fun W1 k1 args s v s' ed φ w args' H _ hA hfr _=>?_⟩
 ·refine zLp (match dec args with
   |some a=>(match F a with
    |some cs=>some (Blk.cells cs e false,fun k=>Value.slice (some ⟨k,0,none⟩) n n)
    |none=>none)
   |none=>none) fun s=>?_
  show(match dec args with
   |some a=>(match F a with
    |some cs=>some (Value.slice (some ⟨s.next,0,none⟩) n n,s.new (.cells cs e false))
    |none=>none)
   |none=>none)=_
  cases dec args with
  |none=>rfl
  |some a=>
   simp only
   cases F a with
   |none=>rfl
   |some r=>rfl
 ·have e0:(match dec args with
   |some a=>(match F a with
    |some cs=>some (Value.slice (some ⟨s.next,0,none⟩) n n,s.new (.cells cs e false))
    |none=>none)
   |none=>none)=some (v,s'):=ed
  split at e0
  case h_2=>cases e0
  rename_i a ha
  split at e0
  case h_2=>cases e0
  rename_i cs hr
  cases e0
  obtain rfl:=hdec _ _ ha
  obtain⟨h1,h4⟩:=hF a cs hr
  have hnn:(fn.name== "runtime.NumGoroutine")=false:=by
   unfold zEv at hok
   rw[hb] at hok
   simp only[Bool.and_eq_true,Bool.not_eq_true'] at hok
   exact hok.2
  rw[zCf (hflat a).1 hA,zBj hf hb hnn]
  have kw:Later W w:=k1.trans H.later
  have Lw:=L.move kw.size kw.old hGW
  refine(zIv (P:=P) (w0:=w) (φ0:=glob G w) (G:=G) ho (zHm hl kw) (zHl hl) hm (zEj G w) (fun id q=>zDu G w hG64 id q) hf hb hok (hflat a).2 Lw.hr (zDl (hflat a).1 _) (fun id q=>zDu G w hG64 id q) (fun id q=>Lw.top id (Nat.le_trans hG64 q)) (Nat.le_refl 64) h4).mono ?_
  rintro z W' ⟨v1,v',s1,φ',rfl,⟨k0,rfl,hg⟩,hv,H',_,_⟩
  obtain⟨b,sh,sz,c2,fz,q⟩:=H'.cells _ _ _ _ hg
  have hv':v'=.slice (some ⟨b,sh+0,none⟩) n n:=by
   cases hv with
   |slice _ _ b2 sh2 sz2 _ _ hφ _=>
    have:=q.at_
    rw[hφ] at this
    cases this
    rfl
   |sliceU _ _ b2 sh2 sz2 _ _ _ hφ=>omega
  subst hv'
  have hnew:φ s.next=none:=hfr s.next (Nat.le_refl _) (by show s.next < Nat.max s.hi (s.next+1);exact Nat.lt_of_lt_of_le (Nat.lt_succ_self _) (Nat.le_max_right _ _))
  have hmine:=q.mine rfl
  refine⟨_,upd φ s.next (b,sh,sz),rfl,Ext.upd hnew _,VR.slice _ _ _ _ _ _ _ (zBe _ _ _) hn,?_⟩
  refine H.adopt (w':=W') hnew H'.os H'.output H'.tape H'.size (fun j hj _=>H'.old j hj) (Nat.le_trans H.size hmine.1) (fz:=fz) (c:=c2) q.blk q.exact_ ?_ q.size q.fit (fun i hi=>?_) (fun _=>hmine.2) (fun O qq=>by rw[Array.getElem?_eq_none hmine.1] at qq;cases qq)
  ·intro j cj ej rj bj sj zj _ a'
   have:=H.dom _ _ _ _ a'
   omega
  ·have:=q.cell i hi
   have hm:cs.getD i und∈cs:=by rw[List.getD_eq_getElem?_getD,List.getElem?_eq_getElem hi];exact List.getElem_mem hi
   exact zHh (h1 _ hm) this
end Go.Det
namespace Go.Det.Txt
open Go.Lib
theorem zPx (c:UInt8)(s:List UInt8)(j:Nat):occAt s [c] j=true↔s[j]?=some c:=by
 unfold occAt
 cases h:s.drop j with
 |nil=>
  have:s.length≤j:=List.drop_eq_nil_iff.1 h
  rw[List.getElem?_eq_none this]
  simp[List.isPrefixOf]
 |cons x t=>
  have:s[j]?=some x:=by
   have:(s.drop j)[0]?=some x:=by rw[h];rfl
   simpa using this
  rw[this]
  simp[List.isPrefixOf]
  exact eq_comm
theorem index_no {c:UInt8}{s:List UInt8}(h:c∉s):index s [c]=-1:=by
 refine index_none fun j _=>?_
 cases hq:occAt s [c] j with
 |false=>rfl
 |true=>exact absurd (List.mem_of_getElem? ((zPx c s j).1 hq)) h
theorem zVf {c:UInt8}{p t:List UInt8}(h:c∉p):index (p++c::t) [c]=(p.length:Int):=by
 refine index_first (by simp) ((zPx _ _ _).2 (by simp)) fun j hj=>?_
 cases hq:occAt (p++c::t) [c] j with
 |false=>rfl
 |true=>
  have:=(zPx _ _ _).1 hq
  rw[List.getElem?_append_left hj] at this
  exact absurd (List.mem_of_getElem? this) h
theorem join_more (p q:List UInt8)(r:List (List UInt8))(c:UInt8):join (p::q::r) [c]=p++c::join (q::r) [c]:=by
 rw[join_cons,join_cons]
 simp[joinTail,List.append_assoc]
theorem zT0 (p t:List UInt8)(c:UInt8):(p++c::t).drop (p.length+1)=t:=by
 rw[List.drop_append,List.drop_eq_nil_of_le (by omega),Nat.add_sub_cancel_left];rfl
theorem zOf {c:UInt8}:∀ (ps:List (List UInt8)),ps≠[]→(∀ p∈ps,c∉p)→split (join ps [c]) [c]=ps
 |[],h,_=>absurd rfl h
 |[p],_,h=>by
  have hi:=index_no (h p List.mem_cons_self)
  unfold split
  rw[join_one,count_miss hi]
  rfl
 |p::q::r,_,h=>by
  have hp:=h p List.mem_cons_self
  have ih:=zOf (q::r) (by simp) fun x hx=>h x (List.mem_cons_of_mem _ hx)
  rw[join_more]
  have hi:=zVf (t:=join (q::r) [c]) hp
  unfold split at ih ⊢
  rw[count_hit (by simp) hi]
  show splitK [c] 0 (1+count ((p++c::join (q::r) [c]).drop (p.length+1)) [c]) _=_
  rw[zT0,Nat.add_comm 1]
  unfold splitK
  have:((index (p++c::join (q::r) [c]) [c])==-1)=false:=by rw[hi,beq_eq_false_iff_ne];omega
  rw[this,hi]
  simp only[Bool.false_eq_true,if_false,Int.toNat_natCast,Nat.add_zero]
  show _::splitK [c] 0 _ ((p++c::join (q::r) [c]).drop (p.length+1))=_
  rw[zT0,ih,List.take_append_of_le_length (Nat.le_refl _),List.take_length]
theorem splitB_join {c:UInt8}(ps:List (List UInt8))(h:ps≠[])(hc:∀ p∈ps,c∉p):splitB ⟨#[c]⟩ 0 (countB ⟨(join ps [c]).toArray⟩ ⟨#[c]⟩) ⟨(join ps [c]).toArray⟩=ps.map fun p=>⟨p.toArray⟩:=by
 have h1:=splitB_data ⟨#[c]⟩ 0 (countB ⟨(join ps [c]).toArray⟩ ⟨#[c]⟩) ⟨(join ps [c]).toArray⟩
 have h2:=zOf ps h hc
 unfold split at h2
 have h3:(splitB ⟨#[c]⟩ 0 (countB ⟨(join ps [c]).toArray⟩ ⟨#[c]⟩) ⟨(join ps [c]).toArray⟩).map (·.data.toList)=ps:=h1.trans h2
 have h4:=congrArg (List.map fun p:List UInt8=>(⟨p.toArray⟩:ByteArray)) h3
 rw[List.map_map] at h4
 rw[← h4]
 exact(List.map_id'' (fun _=>rfl) _).symm
def twice (c:UInt8):List UInt8→Bool
 |x::y::t=>(x==c&&y==c)||twice c (y::t)
 |_=>false
theorem twice_cons {c x:UInt8}(h:x≠c)(t:List UInt8):twice c (x::t)=twice c t:=by
 cases t with
 |nil=>rfl
 |cons y t=>simp[twice,h]
theorem zG4 {c:UInt8}:∀ {p:List UInt8},c∉p→∀ t,twice c (p++t)=twice c t
 |[],_,t=>rfl
 |x::p,h,t=>by
  rw[List.cons_append,twice_cons (fun e=>h (by rw[e];exact List.mem_cons_self)),zG4 (fun e=>h (List.mem_cons_of_mem _ e))]
theorem twice_join {c:UInt8}:∀ (ps:List (List UInt8)),(∀ p∈ps,c∉p∧p≠[])→∀ t,twice c (join ps [c]++t)=twice c t
 |[],_,t=>rfl
 |[p],h,t=>by rw[join_one];exact zG4 (h p List.mem_cons_self).1 t
 |p::q::r,h,t=>by
  rw[join_more,List.append_assoc,zG4 (h p List.mem_cons_self).1,List.cons_append]
  have ih:=twice_join (q::r) (fun x hx=>h x (List.mem_cons_of_mem _ hx)) t
  obtain⟨h1,h2⟩:=h q (List.mem_cons_of_mem _ List.mem_cons_self)
  cases q with
  |nil=>exact absurd rfl h2
  |cons x q=>
   have hx:x≠c:=fun e=>h1 (by rw[e];exact List.mem_cons_self)
   rw[join_cons] at ih ⊢
   rw[← ih]
   simp[twice,hx]
theorem yAt {c:UInt8}:∀ {s:List UInt8} {j:Nat},occAt s [c,c] j=true→∃ a b,s=a++c::c::b∧a.length=j
 |s,j,h=>by
  unfold occAt at h
  obtain⟨b,hb⟩:=List.isPrefixOf_iff_prefix.1 h
  refine⟨s.take j,b,?_,?_⟩
  ·have:s.drop j=c::c::b:=by rw[← hb];rfl
   rw[← this,List.take_append_drop]
  ·rw[List.length_take]
   have:(s.drop j).length=b.length+2:=by rw[← hb];simp
   rw[List.length_drop] at this
   omega
theorem zMo {c:UInt8}:∀ (a b:List UInt8),twice c (a++c::c::b)=true
 |[],b=>by simp[twice]
 |[x],b=>by simp[twice]
 |x::y::a,b=>by
  have:=zMo (c:=c) (y::a) b
  simp only[List.cons_append] at this ⊢
  simp[twice,this]
theorem yEq {c:UInt8}{s:List UInt8}(h:twice c s=false)(j:Nat):occAt s [c,c] j=false:=by
 cases hq:occAt s [c,c] j with
 |false=>rfl
 |true=>
  obtain⟨a,b,rfl,_⟩:=yAt hq
  rw[zMo] at h
  cases h
theorem cut_miss {c:UInt8}{s:List UInt8}(h:twice c s=false):cut s [c,c]=(s,[],false):=by
 unfold cut
 rw[index_none fun j _=>yEq h j]
 rfl
theorem cut_hit {c:UInt8}{a:List UInt8}(b:List UInt8)(h:twice c (a++[c])=false):cut (a++c::c::b) [c,c]=(a,b,true):=by
 have hi:index (a++c::c::b) [c,c]=(a.length:Int):=by
  refine index_first (by simp) ?_ fun j hj=>?_
  ·unfold occAt
   rw[List.drop_left]
   simp[List.isPrefixOf]
  ·cases hq:occAt (a++c::c::b) [c,c] j with
   |false=>rfl
   |true=>
    exfalso
    obtain⟨x,y,e,hx⟩:=yAt hq
    have e1:(a++[c]).take (j+2)=x++[c,c]:=by
     have:(a++c::c::b).take (j+2)=x++[c,c]:=by
      rw[e,List.take_append,List.take_of_length_le (by omega),hx,show j+2 - j=2 by omega];rfl
     have e3:((a++[c])++c::b).take (j+2)=(a++[c]).take (j+2):=List.take_append_of_le_length (by rw[List.length_append,List.length_singleton];omega)
     rw[← e3,← this]
     simp
    have e2:a++[c]=x++c::c::(a++[c]).drop (j+2):=by
     conv=>lhs;rw[← List.take_append_drop (j+2) (a++[c]),e1]
     simp
    rw[e2,zMo] at h
    cases h
 unfold cut
 rw[if_pos (by rw[hi];omega),hi,Int.toNat_natCast]
 simp only[List.take_left,List.length_cons,List.length_nil]
 rw[List.drop_append,List.drop_eq_nil_of_le (by omega),Nat.add_sub_cancel_left]
 rfl
theorem cut_one {c:UInt8}{a:List UInt8}(b:List UInt8)(h:c∉a):cut (a++c::b) [c]=(a,b,true):=by
 unfold cut
 rw[zVf h,if_pos (by omega),Int.toNat_natCast]
 simp only[List.take_left,List.length_cons,List.length_nil]
 rw[zT0]
theorem contains_no {c:UInt8}{s:List UInt8}(h:c∉s):contains s [c]=false:=by
 unfold contains;rw[index_no h];rfl
theorem contains_yes {c:UInt8}{s:List UInt8}(h:c∈s):contains s [c]=true:=by
 obtain⟨a,b,rfl⟩:=List.append_of_mem h
 unfold contains
 rcases index_spec (a++c::b) [c] with⟨_,h2⟩|⟨i,h1,_⟩
 ·have:=h2 a.length (by simp)
  rw[(zPx c _ _).2 (by simp)] at this
  cases this
 ·rw[h1];exact decide_eq_true (by omega)
theorem not_mem_join {c d:UInt8}(hd:d≠c):∀ (ps:List (List UInt8)),(∀ p∈ps,d∉p)→d∉join ps [c]
 |[],_=>by simp[join_nil]
 |[p],h=>by rw[join_one];exact h p List.mem_cons_self
 |p::q::r,h=>by
  rw[join_more]
  simp only[List.mem_append,List.mem_cons,not_or]
  exact⟨h p List.mem_cons_self,hd,not_mem_join hd (q::r) fun x hx=>h x (List.mem_cons_of_mem _ hx)⟩
def dg (n:Nat):UInt8:=if n < 10 then UInt8.ofNat (48+n) else UInt8.ofNat (87+n)
def decT (n:Nat):List UInt8:=if n < 10 then[dg n] else if n < 100 then[dg (n / 10),dg (n % 10)] else[dg (n / 100),dg (n / 10 % 10),dg (n % 10)]
def hexT (n:Nat):List UInt8:=if n < 16 then[dg n] else if n < 256 then[dg (n / 16),dg (n % 16)] else if n < 4096 then[dg (n / 256),dg (n / 16 % 16),dg (n % 16)] else[dg (n / 4096),dg (n / 256 % 16),dg (n / 16 % 16),dg (n % 16)]
def yEr:List UInt8:=[48,49,50,51,52,53,54,55,56,57,97,98,99,100,101,102]
theorem yNy:∀ k:Fin 16,indexByte yEr (dg k.val ||| 32)=(k.val:Int)∧48≤(dg k.val).toNat∧(dg k.val).toNat≤102∧dg k.val≠58∧dg k.val≠47∧dg k.val≠46∧dg k.val≠45:=by decide +kernel
def sgn (c:UInt8):Bool:=c==58||c==47||c==46||c==45
theorem yGr {k:Nat}(h:k < 16){c:UInt8}(hc:sgn c=true):c≠dg k:=by
 obtain⟨_,_,_,a,b,d,e⟩:=yNy ⟨k,h⟩
 rintro rfl
 simp[sgn] at hc
 rcases hc with((hc|hc)|hc)|hc
 ·exact a hc
 ·exact b hc
 ·exact d hc
 ·exact e hc
theorem hexT_sgn {n:Nat}(h:n < 65536){c:UInt8}(hc:sgn c=true):c∉hexT n:=by
 unfold hexT
 have q:=fun(k:Nat) (h:k < 16)=>yGr h hc
 split
 ·simp[q n (by omega)]
 ·split
  ·simp[q (n / 16) (by omega),q (n % 16) (by omega)]
  ·split
   ·simp[q (n / 256) (by omega),q (n / 16 % 16) (by omega),q (n % 16) (by omega)]
   ·simp[q (n / 4096) (by omega),q (n / 256 % 16) (by omega),q (n / 16 % 16) (by omega),q (n % 16) (by omega)]
theorem decT_sgn {n:Nat}(h:n < 256){c:UInt8}(hc:sgn c=true):c∉decT n:=by
 unfold decT
 have q:=fun(k:Nat) (h:k < 16)=>yGr h hc
 split
 ·simp[q n (by omega)]
 ·split
  ·simp[q (n / 10) (by omega),q (n % 10) (by omega)]
  ·simp[q (n / 100) (by omega),q (n / 10 % 10) (by omega),q (n % 10) (by omega)]
theorem hexT_ne (n:Nat):hexT n≠[]:=by
 unfold hexT
 split
 ·simp
 ·split
  ·simp
  ·split<;>simp
theorem decT_ne (n:Nat):decT n≠[]:=by
 unfold decT
 split
 ·simp
 ·split<;>simp
theorem hexT_len (n:Nat):1≤(hexT n).length∧(hexT n).length≤4:=by
 unfold hexT
 split
 ·simp
 ·split
  ·simp
  ·split<;>simp
end Go.Det.Txt
namespace Go.Proofs.YtfnacgojmdbjmaaGreatDoor
open Go.Det Go.RowKit YtfnacgojmdbjmaaGreatDoorW.PrintWords
def dig16:ByteArray:={ data:=#[48,49,50,51,52,53,54,55,56,57,97,98,99,100,101,102] }
def yNz:List Value→Option (ByteArray×Int)
 |[.string s,.int .u8 c]=>some (s,c)
 |_=>none
def yAu:List Value→Option (ByteArray×ByteArray)
 |[.string s,.string t]=>some (s,t)
 |_=>none
def yM3 (s:ByteArray)(c:Int):Option Int:=some (Lib.indexByte s.data.toList c.toNat.toUInt8)
def zC2 (s t:ByteArray):Option (ByteArray×ByteArray×Bool):=if s.size < 4294967281 then some (zSw s t) else none
def ySv (s t:ByteArray):Option Bool:=if s.size < 4294967281 then some (Lib.contains s.data.toList t.data.toList) else none
def zXp (l:List ByteArray)(t:ByteArray):Option ByteArray:=if(zMj l t).size≤140737488355328∧l.length≤140737488355328 then some (zMj l t) else none
def conD92:Con:=Con.opt yNz (fun x=>yM3 x.1 x.2) fun r=>.int .i64 r
def conD60:Con:=Con.opt yAu (fun x=>zC2 x.1 x.2) fun y=>.tuple #[.string y.1,.string y.2.1,.bool y.2.2]
def conD51:Con:=Con.opt yAu (fun x=>ySv x.1 x.2) fun b=>.bool b
theorem yQt {W:World}(hW:GoodW W):zAr Tryz.prog W 6 125 conD92.own:=by
 refine zA5 (fn:=Tryz.f125) (c:=zAd Tryz.f125) hW Tryz.func125 (by kernel_rfl) (by kernel_rfl) fun args v h=>?_
 split at h
 case h_2=>cases h
 rename_i a ha
 split at h
 case h_2=>cases h
 rename_i b hb
 cases h
 unfold yNz at ha
 split at ha
 case h_2=>cases ha
 cases ha
 exact⟨rfl,rfl,fun w hG=>(zR5 hb).mono fun e w' h=>⟨h.1,h.2.below⟩⟩
theorem yN0 {W:World}(hW:GoodW W):zAr Tryz.prog W 6 59 conD60.own:=by
 refine zA5 (fn:=Tryz.f59) (c:=zAd Tryz.f59) hW Tryz.func59 (by kernel_rfl) (by kernel_rfl) fun args v h=>?_
 split at h
 case h_2=>cases h
 rename_i a ha
 split at h
 case h_2=>cases h
 rename_i b hb
 cases h
 unfold yAu at ha
 split at ha
 case h_2=>cases ha
 cases ha
 exact⟨rfl,rfl,fun w hG=>(yNv hG hb).mono fun e w' h=>⟨h.1,h.2.below⟩⟩
theorem yQu {W:World}(hW:GoodW W):zAr Tryz.prog W 6 84 conD51.own:=by
 refine zA5 (fn:=Tryz.f84) (c:=zAd Tryz.f84) hW Tryz.func84 (by kernel_rfl) (by kernel_rfl) fun args v h=>?_
 split at h
 case h_2=>cases h
 rename_i a ha
 split at h
 case h_2=>cases h
 rename_i b hb
 cases h
 unfold yAu at ha
 split at ha
 case h_2=>cases ha
 cases ha
 exact⟨rfl,rfl,fun w hG=>(zMi hG hb).mono fun e w' h=>⟨h.1,h.2.below⟩⟩
def ySw:Value→Option ByteArray
 |.string s=>some s
 |_=>none
def dS1:List Value→Option ByteArray
 |[.string s]=>some s
 |_=>none
def conD55:Con:=Con.reads ySw dS1 zXp fun r=>.string r
theorem yQv {W:World}(hW:GoodW W):zAr Tryz.prog W 6 90 conD55.own:=by
 refine own_reads (fn:=Tryz.f90) (c:=zAd Tryz.f90) (e:=Value.string) (er:=fun s=>[.string s]) (Gd:=GoodW) (fun w k=>hW.later k.size k.old) Tryz.func90 (by kernel_rfl) (by kernel_rfl) (fun v b h=>?_) (fun b=>⟨rfl,by intro h;cases h⟩) (fun r g h=>?_) (fun _=>rfl) fun l g r hF=>⟨rfl,(by intro h;cases h),fun w A c hG hc hR=>?_⟩
 ·unfold ySw at h
  split at h
  ·cases h;rfl
  ·cases h
 ·unfold dS1 at h
  split at h
  ·cases h;rfl
  ·cases h
 ·unfold zXp at hF
  split at hF
  case isFalse=>cases hF
  rename_i hs
  cases hF
  cases l with
  |nil=>
   refine(Tryz.strings_Join_none A c g w).mono ?_
   rintro e w' ⟨rfl,rfl⟩
   exact⟨rfl,rfl,rfl,rfl,Nat.le_refl _,fun _ _=>rfl⟩
  |cons x t=>
   rcases hR with hR|⟨b,o,rfl,hcell⟩
   ·cases hR
   have h0:=hcell 0 x rfl
   refine(Tryz.strings_Join b o c (x::t) g w hcell ?_ hs.2 hc ?_).mono ?_
   ·exact World.block_lt_of_cell? w _ h0
   ·have:=hs.1
    unfold zMj at this
    simpa [ByteArray.size] using this
   ·rintro e w' ⟨rfl,hB⟩
    exact⟨rfl,hB.os,hB.tape,hB.output,hB.size,hB.block⟩
end Go.Proofs.YtfnacgojmdbjmaaGreatDoor
namespace Go.Proofs.YtfnacgojmdbjmaaGreatDoor
open Go.Det Go.RowKit  YtfnacgojmdbjmaaGreatDoorW.PrintWords
abbrev zl (l:List UInt8):Int:=(↑(ByteArray.size { data:={ toList:=l } }):Int)
abbrev zF:Value:=Value.tuple #[Value.int .u64 0,Value.bool false]
abbrev zu (a:UInt8):Int:=(↑(UInt8.toNat a):Int)
abbrev zd (a:UInt8):Int:=IntKind.wrap .u64 (IntKind.wrap .u8 (zu a - 48))
abbrev zn (n:Int)(a:UInt8):Int:=IntKind.wrap .u64 (IntKind.wrap .u64 (10 * n)+zd a)
abbrev zs (Q:Value→Prop)(m n:Int)(a:UInt8)(r:Prop):Prop:=zAm (zAl (zu a < 48)) (Q zF) (zAm (zAl (57 < zu a)) (Q zF) (((10:Int)≠0)∧zAm (zAl (IntKind.wrap .u64 (Int.tdiv m 10) < n)) (Q zF) (zAm (zAl (IntKind.wrap .u64 (m - if m < zd a then m else zd a) < IntKind.wrap .u64 (10 * n))) (Q zF) r)))
abbrev zh (Q:Value→Prop)(a:UInt8)(r:Int→Prop):Prop:=∃ x:Int,(yM3 dig16 (orI .u8 (zu a) 32)=some x)∧zAm (zAl (x < 0)) (Q zF) (zAm (zAl (zu a < 48)) (Q zF) (((0:Int)≤4)∧r x))
abbrev zN (n:Nat)(l:List UInt8)(m:Int)(Q:Value→Prop):Prop:=zBi Tryz.prog (cwC []) ox0 n (zAd Tryz.f61) (zAn [.string ⟨⟨l⟩⟩,.int .u64 m] 8) (zAo [] 64) (zA7 Tryz.prog Tryz.f61 fun v _=>Q v)
abbrev zH (n:Nat)(l:List UInt8)(Q:Value→Prop):Prop:=zBi Tryz.prog (cwC [(125,conD92)]) ox0 n (zAd Tryz.f115) (zAn [.string ⟨⟨l⟩⟩] 8) (zAo [] 64) (zA7 Tryz.prog Tryz.f115 fun v _=>Q v)
theorem vh0 (Q:Value→Prop):zH 5 [] Q=(zAm (zAl ((zl []) < 1)) (Q zF) (zAm (zAl (4 < (zl []))) (Q zF) (zAm (zAl (0 < (zl []))) (((((0:Int)≤0)∧(0 < (zl [])))∧False)) (Q (Value.tuple #[Value.int .u64 0,Value.bool true]))))):=by kernel_rfl
theorem vh1 (a:UInt8)(Q:Value→Prop):zH 5 [a] Q=(zAm (zAl ((zl [a]) < 1)) (Q zF) (zAm (zAl (4 < (zl [a]))) (Q zF) (zAm (zAl (0 < (zl [a]))) (((((0:Int)≤0)∧(0 < (zl [a])))∧(zh Q a fun x0=>zAm (zAl (1 < (zl [a]))) (((((0:Int)≤1)∧(1 < (zl [a])))∧False)) (Q (Value.tuple #[Value.int .u64 (orI .u64 (zD3 .u64 0 4) (IntKind.wrap .u64 x0)),Value.bool true]))))) (Q (Value.tuple #[Value.int .u64 0,Value.bool true]))))):=by kernel_rfl
theorem vh2 (a b:UInt8)(Q:Value→Prop):zH 5 [a,b] Q=(zAm (zAl ((zl [a,b]) < 1)) (Q zF) (zAm (zAl (4 < (zl [a,b]))) (Q zF) (zAm (zAl (0 < (zl [a,b]))) (((((0:Int)≤0)∧(0 < (zl [a,b])))∧(zh Q a fun x0=>zAm (zAl (1 < (zl [a,b]))) (((((0:Int)≤1)∧(1 < (zl [a,b])))∧(zh Q b fun x1=>zAm (zAl (2 < (zl [a,b]))) (((((0:Int)≤2)∧(2 < (zl [a,b])))∧False)) (Q (Value.tuple #[Value.int .u64 (orI .u64 (zD3 .u64 (orI .u64 (zD3 .u64 0 4) (IntKind.wrap .u64 x0)) 4) (IntKind.wrap .u64 x1)),Value.bool true]))))) (Q (Value.tuple #[Value.int .u64 (orI .u64 (zD3 .u64 0 4) (IntKind.wrap .u64 x0)),Value.bool true]))))) (Q (Value.tuple #[Value.int .u64 0,Value.bool true]))))):=by kernel_rfl
theorem vh3 (a b c:UInt8)(Q:Value→Prop):zH 5 [a,b,c] Q=(zAm (zAl ((zl [a,b,c]) < 1)) (Q zF) (zAm (zAl (4 < (zl [a,b,c]))) (Q zF) (zAm (zAl (0 < (zl [a,b,c]))) (((((0:Int)≤0)∧(0 < (zl [a,b,c])))∧(zh Q a fun x0=>zAm (zAl (1 < (zl [a,b,c]))) (((((0:Int)≤1)∧(1 < (zl [a,b,c])))∧(zh Q b fun x1=>zAm (zAl (2 < (zl [a,b,c]))) (((((0:Int)≤2)∧(2 < (zl [a,b,c])))∧(zh Q c fun x2=>zAm (zAl (3 < (zl [a,b,c]))) (((((0:Int)≤3)∧(3 < (zl [a,b,c])))∧False)) (Q (Value.tuple #[Value.int .u64 (orI .u64 (zD3 .u64 (orI .u64 (zD3 .u64 (orI .u64 (zD3 .u64 0 4) (IntKind.wrap .u64 x0)) 4) (IntKind.wrap .u64 x1)) 4) (IntKind.wrap .u64 x2)),Value.bool true]))))) (Q (Value.tuple #[Value.int .u64 (orI .u64 (zD3 .u64 (orI .u64 (zD3 .u64 0 4) (IntKind.wrap .u64 x0)) 4) (IntKind.wrap .u64 x1)),Value.bool true]))))) (Q (Value.tuple #[Value.int .u64 (orI .u64 (zD3 .u64 0 4) (IntKind.wrap .u64 x0)),Value.bool true]))))) (Q (Value.tuple #[Value.int .u64 0,Value.bool true]))))):=by kernel_rfl
theorem vh4 (a b c d:UInt8)(Q:Value→Prop):zH 5 [a,b,c,d] Q=(zAm (zAl ((zl [a,b,c,d]) < 1)) (Q zF) (zAm (zAl (4 < (zl [a,b,c,d]))) (Q zF) (zAm (zAl (0 < (zl [a,b,c,d]))) (((((0:Int)≤0)∧(0 < (zl [a,b,c,d])))∧(zh Q a fun x0=>zAm (zAl (1 < (zl [a,b,c,d]))) (((((0:Int)≤1)∧(1 < (zl [a,b,c,d])))∧(zh Q b fun x1=>zAm (zAl (2 < (zl [a,b,c,d]))) (((((0:Int)≤2)∧(2 < (zl [a,b,c,d])))∧(zh Q c fun x2=>zAm (zAl (3 < (zl [a,b,c,d]))) (((((0:Int)≤3)∧(3 < (zl [a,b,c,d])))∧(zh Q d fun x3=>zAm (zAl (4 < (zl [a,b,c,d]))) (((((0:Int)≤4)∧(4 < (zl [a,b,c,d])))∧False)) (Q (Value.tuple #[Value.int .u64 (orI .u64 (zD3 .u64 (orI .u64 (zD3 .u64 (orI .u64 (zD3 .u64 (orI .u64 (zD3 .u64 0 4) (IntKind.wrap .u64 x0)) 4) (IntKind.wrap .u64 x1)) 4) (IntKind.wrap .u64 x2)) 4) (IntKind.wrap .u64 x3)),Value.bool true]))))) (Q (Value.tuple #[Value.int .u64 (orI .u64 (zD3 .u64 (orI .u64 (zD3 .u64 (orI .u64 (zD3 .u64 0 4) (IntKind.wrap .u64 x0)) 4) (IntKind.wrap .u64 x1)) 4) (IntKind.wrap .u64 x2)),Value.bool true]))))) (Q (Value.tuple #[Value.int .u64 (orI .u64 (zD3 .u64 (orI .u64 (zD3 .u64 0 4) (IntKind.wrap .u64 x0)) 4) (IntKind.wrap .u64 x1)),Value.bool true]))))) (Q (Value.tuple #[Value.int .u64 (orI .u64 (zD3 .u64 0 4) (IntKind.wrap .u64 x0)),Value.bool true]))))) (Q (Value.tuple #[Value.int .u64 0,Value.bool true]))))):=by kernel_rfl
theorem vh5 (a b c d e:UInt8)(t:List UInt8)(Q:Value→Prop):zH 0 (a::b::c::d::e::t) Q=(zAm (zAl ((zl (a::b::c::d::e::t)) < 1)) (Q zF) (zAm (zAl (4 < (zl (a::b::c::d::e::t)))) (Q zF) (False))):=by kernel_rfl
theorem vn0 (m:Int)(Q:Value→Prop):zN 1 [] m Q=(zAm (zAl (Array.toList (ByteArray.data { data:={ toList:=[] } })=Array.toList (ByteArray.data { data:=#[] }))) (Q zF) (((((0:Int)≤0)∧(0 < (↑(List.length (Array.toList (ByteArray.data { data:={ toList:=[] } }))):Int)))∧zAm (zAl ((↑(UInt8.toNat (List.getD (Array.toList (ByteArray.data { data:={ toList:=[] } })) (Int.toNat 0) 0)):Int)=48)) (zAm (zAl (1 < (zl []))) (Q zF) (zAm (zAl (0 < (zl []))) (((((0:Int)≤0)∧(0 < (zl [])))∧False)) (zAm (zAl (m < 0)) (Q zF) (Q (Value.tuple #[Value.int .u64 0,Value.bool true]))))) (zAm (zAl (0 < (zl []))) (((((0:Int)≤0)∧(0 < (zl [])))∧False)) (zAm (zAl (m < 0)) (Q zF) (Q (Value.tuple #[Value.int .u64 0,Value.bool true]))))))):=by kernel_rfl
theorem vn1 (a:UInt8)(m:Int)(Q:Value→Prop):zN 2 [a] m Q=(zAm (zAl (Array.toList (ByteArray.data { data:={ toList:=[a] } })=Array.toList (ByteArray.data { data:=#[] }))) (Q zF) (((((0:Int)≤0)∧(0 < (↑(List.length (Array.toList (ByteArray.data { data:={ toList:=[a] } }))):Int)))∧zAm (zAl ((↑(UInt8.toNat (List.getD (Array.toList (ByteArray.data { data:={ toList:=[a] } })) (Int.toNat 0) 0)):Int)=48)) (zAm (zAl (1 < (zl [a]))) (Q zF) (zAm (zAl (0 < (zl [a]))) (((((0:Int)≤0)∧(0 < (zl [a])))∧zs Q m 0 a (zAm (zAl (1 < (zl [a]))) (((((0:Int)≤1)∧(1 < (zl [a])))∧False)) (zAm (zAl (m < zn 0 a)) (Q zF) (Q (Value.tuple #[Value.int .u64 (zn 0 a),Value.bool true])))))) (zAm (zAl (m < 0)) (Q zF) (Q (Value.tuple #[Value.int .u64 0,Value.bool true]))))) (zAm (zAl (0 < (zl [a]))) (((((0:Int)≤0)∧(0 < (zl [a])))∧zs Q m 0 a (zAm (zAl (1 < (zl [a]))) (((((0:Int)≤1)∧(1 < (zl [a])))∧False)) (zAm (zAl (m < zn 0 a)) (Q zF) (Q (Value.tuple #[Value.int .u64 (zn 0 a),Value.bool true])))))) (zAm (zAl (m < 0)) (Q zF) (Q (Value.tuple #[Value.int .u64 0,Value.bool true]))))))):=by kernel_rfl
theorem vn2 (a b:UInt8)(m:Int)(Q:Value→Prop):zN 3 [a,b] m Q=(zAm (zAl (Array.toList (ByteArray.data { data:={ toList:=[a,b] } })=Array.toList (ByteArray.data { data:=#[] }))) (Q zF) (((((0:Int)≤0)∧(0 < (↑(List.length (Array.toList (ByteArray.data { data:={ toList:=[a,b] } }))):Int)))∧zAm (zAl ((↑(UInt8.toNat (List.getD (Array.toList (ByteArray.data { data:={ toList:=[a,b] } })) (Int.toNat 0) 0)):Int)=48)) (zAm (zAl (1 < (zl [a,b]))) (Q zF) (zAm (zAl (0 < (zl [a,b]))) (((((0:Int)≤0)∧(0 < (zl [a,b])))∧zs Q m 0 a (zAm (zAl (1 < (zl [a,b]))) (((((0:Int)≤1)∧(1 < (zl [a,b])))∧zs Q m (zn 0 a) b (zAm (zAl (2 < (zl [a,b]))) (((((0:Int)≤2)∧(2 < (zl [a,b])))∧False)) (zAm (zAl (m < zn (zn 0 a) b)) (Q zF) (Q (Value.tuple #[Value.int .u64 (zn (zn 0 a) b),Value.bool true])))))) (zAm (zAl (m < zn 0 a)) (Q zF) (Q (Value.tuple #[Value.int .u64 (zn 0 a),Value.bool true])))))) (zAm (zAl (m < 0)) (Q zF) (Q (Value.tuple #[Value.int .u64 0,Value.bool true]))))) (zAm (zAl (0 < (zl [a,b]))) (((((0:Int)≤0)∧(0 < (zl [a,b])))∧zs Q m 0 a (zAm (zAl (1 < (zl [a,b]))) (((((0:Int)≤1)∧(1 < (zl [a,b])))∧zs Q m (zn 0 a) b (zAm (zAl (2 < (zl [a,b]))) (((((0:Int)≤2)∧(2 < (zl [a,b])))∧False)) (zAm (zAl (m < zn (zn 0 a) b)) (Q zF) (Q (Value.tuple #[Value.int .u64 (zn (zn 0 a) b),Value.bool true])))))) (zAm (zAl (m < zn 0 a)) (Q zF) (Q (Value.tuple #[Value.int .u64 (zn 0 a),Value.bool true])))))) (zAm (zAl (m < 0)) (Q zF) (Q (Value.tuple #[Value.int .u64 0,Value.bool true]))))))):=by kernel_rfl
theorem vn3 (a b c:UInt8)(m:Int)(Q:Value→Prop):zN 4 [a,b,c] m Q=(zAm (zAl (Array.toList (ByteArray.data { data:={ toList:=[a,b,c] } })=Array.toList (ByteArray.data { data:=#[] }))) (Q zF) (((((0:Int)≤0)∧(0 < (↑(List.length (Array.toList (ByteArray.data { data:={ toList:=[a,b,c] } }))):Int)))∧zAm (zAl ((↑(UInt8.toNat (List.getD (Array.toList (ByteArray.data { data:={ toList:=[a,b,c] } })) (Int.toNat 0) 0)):Int)=48)) (zAm (zAl (1 < (zl [a,b,c]))) (Q zF) (zAm (zAl (0 < (zl [a,b,c]))) (((((0:Int)≤0)∧(0 < (zl [a,b,c])))∧zs Q m 0 a (zAm (zAl (1 < (zl [a,b,c]))) (((((0:Int)≤1)∧(1 < (zl [a,b,c])))∧zs Q m (zn 0 a) b (zAm (zAl (2 < (zl [a,b,c]))) (((((0:Int)≤2)∧(2 < (zl [a,b,c])))∧zs Q m (zn (zn 0 a) b) c (zAm (zAl (3 < (zl [a,b,c]))) (((((0:Int)≤3)∧(3 < (zl [a,b,c])))∧False)) (zAm (zAl (m < zn (zn (zn 0 a) b) c)) (Q zF) (Q (Value.tuple #[Value.int .u64 (zn (zn (zn 0 a) b) c),Value.bool true])))))) (zAm (zAl (m < zn (zn 0 a) b)) (Q zF) (Q (Value.tuple #[Value.int .u64 (zn (zn 0 a) b),Value.bool true])))))) (zAm (zAl (m < zn 0 a)) (Q zF) (Q (Value.tuple #[Value.int .u64 (zn 0 a),Value.bool true])))))) (zAm (zAl (m < 0)) (Q zF) (Q (Value.tuple #[Value.int .u64 0,Value.bool true]))))) (zAm (zAl (0 < (zl [a,b,c]))) (((((0:Int)≤0)∧(0 < (zl [a,b,c])))∧zs Q m 0 a (zAm (zAl (1 < (zl [a,b,c]))) (((((0:Int)≤1)∧(1 < (zl [a,b,c])))∧zs Q m (zn 0 a) b (zAm (zAl (2 < (zl [a,b,c]))) (((((0:Int)≤2)∧(2 < (zl [a,b,c])))∧zs Q m (zn (zn 0 a) b) c (zAm (zAl (3 < (zl [a,b,c]))) (((((0:Int)≤3)∧(3 < (zl [a,b,c])))∧False)) (zAm (zAl (m < zn (zn (zn 0 a) b) c)) (Q zF) (Q (Value.tuple #[Value.int .u64 (zn (zn (zn 0 a) b) c),Value.bool true])))))) (zAm (zAl (m < zn (zn 0 a) b)) (Q zF) (Q (Value.tuple #[Value.int .u64 (zn (zn 0 a) b),Value.bool true])))))) (zAm (zAl (m < zn 0 a)) (Q zF) (Q (Value.tuple #[Value.int .u64 (zn 0 a),Value.bool true])))))) (zAm (zAl (m < 0)) (Q zF) (Q (Value.tuple #[Value.int .u64 0,Value.bool true]))))))):=by kernel_rfl
theorem vn4 (a b c d:UInt8)(t:List UInt8)(m:Int)(Q:Value→Prop):zN 4 (a::b::c::d::t) m Q=(zAm (zAl (Array.toList (ByteArray.data { data:={ toList:=a::b::c::d::t } })=Array.toList (ByteArray.data { data:=#[] }))) (Q zF) (((((0:Int)≤0)∧(0 < (↑(List.length (Array.toList (ByteArray.data { data:={ toList:=a::b::c::d::t } }))):Int)))∧zAm (zAl ((↑(UInt8.toNat (List.getD (Array.toList (ByteArray.data { data:={ toList:=a::b::c::d::t } })) (Int.toNat 0) 0)):Int)=48)) (zAm (zAl (1 < (zl (a::b::c::d::t)))) (Q zF) (zAm (zAl (0 < (zl (a::b::c::d::t)))) (((((0:Int)≤0)∧(0 < (zl (a::b::c::d::t))))∧zs Q m 0 a (zAm (zAl (1 < (zl (a::b::c::d::t)))) (((((0:Int)≤1)∧(1 < (zl (a::b::c::d::t))))∧zs Q m (zn 0 a) b (zAm (zAl (2 < (zl (a::b::c::d::t)))) (((((0:Int)≤2)∧(2 < (zl (a::b::c::d::t))))∧zs Q m (zn (zn 0 a) b) c (zAm (zAl (3 < (zl (a::b::c::d::t)))) (((((0:Int)≤3)∧(3 < (zl (a::b::c::d::t))))∧zs Q m (zn (zn (zn 0 a) b) c) d (False))) (zAm (zAl (m < zn (zn (zn 0 a) b) c)) (Q zF) (Q (Value.tuple #[Value.int .u64 (zn (zn (zn 0 a) b) c),Value.bool true])))))) (zAm (zAl (m < zn (zn 0 a) b)) (Q zF) (Q (Value.tuple #[Value.int .u64 (zn (zn 0 a) b),Value.bool true])))))) (zAm (zAl (m < zn 0 a)) (Q zF) (Q (Value.tuple #[Value.int .u64 (zn 0 a),Value.bool true])))))) (zAm (zAl (m < 0)) (Q zF) (Q (Value.tuple #[Value.int .u64 0,Value.bool true]))))) (zAm (zAl (0 < (zl (a::b::c::d::t)))) (((((0:Int)≤0)∧(0 < (zl (a::b::c::d::t))))∧zs Q m 0 a (zAm (zAl (1 < (zl (a::b::c::d::t)))) (((((0:Int)≤1)∧(1 < (zl (a::b::c::d::t))))∧zs Q m (zn 0 a) b (zAm (zAl (2 < (zl (a::b::c::d::t)))) (((((0:Int)≤2)∧(2 < (zl (a::b::c::d::t))))∧zs Q m (zn (zn 0 a) b) c (zAm (zAl (3 < (zl (a::b::c::d::t)))) (((((0:Int)≤3)∧(3 < (zl (a::b::c::d::t))))∧zs Q m (zn (zn (zn 0 a) b) c) d (False))) (zAm (zAl (m < zn (zn (zn 0 a) b) c)) (Q zF) (Q (Value.tuple #[Value.int .u64 (zn (zn (zn 0 a) b) c),Value.bool true])))))) (zAm (zAl (m < zn (zn 0 a) b)) (Q zF) (Q (Value.tuple #[Value.int .u64 (zn (zn 0 a) b),Value.bool true])))))) (zAm (zAl (m < zn 0 a)) (Q zF) (Q (Value.tuple #[Value.int .u64 (zn 0 a),Value.bool true])))))) (zAm (zAl (m < 0)) (Q zF) (Q (Value.tuple #[Value.int .u64 0,Value.bool true]))))))):=by kernel_rfl
theorem yN1 (a b c0 c1 c2 c3 c4 c5 c6 c7:Int):zBi Tryz.prog (cwC []) ox0 5 (zAd Tryz.f91) (zAn [.agg #[.int .u64 a,.int .u64 b]] 8) (zAo [] 64) (zA7 Tryz.prog Tryz.f91 fun v s=>v=.slice (some ⟨65,0,none⟩) 8 8∧yGp s 65 [.int .u64 c0,.int .u64 c1,.int .u64 c2,.int .u64 c3,.int .u64 c4,.int .u64 c5,.int .u64 c6,.int .u64 c7] 47 false)=(zAm (zAl ((0:Int) < 4)) ((((0:Int)≤0)∧(((0:Int)≤0)∧((((0:Int)≤3)∧(3 < (↑(Int.toNat 8):Int)))∧((((0:Int)≤7)∧(7 < (↑(Int.toNat 8):Int)))∧zAm (zAl ((1:Int) < 4)) ((((0:Int)≤16)∧(((0:Int)≤16)∧((((0:Int)≤2)∧(2 < (↑(Int.toNat 8):Int)))∧((((0:Int)≤6)∧(6 < (↑(Int.toNat 8):Int)))∧zAm (zAl ((2:Int) < 4)) ((((0:Int)≤32)∧(((0:Int)≤32)∧((((0:Int)≤1)∧(1 < (↑(Int.toNat 8):Int)))∧((((0:Int)≤5)∧(5 < (↑(Int.toNat 8):Int)))∧zAm (zAl ((3:Int) < 4)) ((((0:Int)≤48)∧(((0:Int)≤48)∧((((0:Int)≤0)∧(0 < (↑(Int.toNat 8):Int)))∧((((0:Int)≤4)∧(4 < (↑(Int.toNat 8):Int)))∧zAm (zAl ((4:Int) < 4)) ((((0:Int)≤64)∧(((0:Int)≤64)∧(((0≤(-1))∧((-1) < (↑(Int.toNat 8):Int)))∧((((0:Int)≤3)∧(3 < (↑(Int.toNat 8):Int)))∧False))))) (((Value.slice (some { block:=65,off:=0 }) (Int.toNat 8) (Int.toNat 8)=Value.slice (some { block:=65,off:=0 }) 8 8)∧(((Value.int .u64 (zB2 .u64 (zBm .u64 a (48)) 65535)=Value.int .u64 c0)∧((Value.int .u64 (zB2 .u64 (zBm .u64 a (32)) 65535)=Value.int .u64 c1)∧((Value.int .u64 (zB2 .u64 (zBm .u64 a (16)) 65535)=Value.int .u64 c2)∧((Value.int .u64 (zB2 .u64 (zBm .u64 a (0)) 65535)=Value.int .u64 c3)∧((Value.int .u64 (zB2 .u64 (zBm .u64 b (48)) 65535)=Value.int .u64 c4)∧((Value.int .u64 (zB2 .u64 (zBm .u64 b (32)) 65535)=Value.int .u64 c5)∧((Value.int .u64 (zB2 .u64 (zBm .u64 b (16)) 65535)=Value.int .u64 c6)∧((Value.int .u64 (zB2 .u64 (zBm .u64 b (0)) 65535)=Value.int .u64 c7)∧True))))))))∧((2 * 23+1=47)∧(false=false)))))))))) (((Value.slice (some { block:=65,off:=0 }) (Int.toNat 8) (Int.toNat 8)=Value.slice (some { block:=65,off:=0 }) 8 8)∧(((Value.int .u64 0=Value.int .u64 c0)∧((Value.int .u64 (zB2 .u64 (zBm .u64 a (32)) 65535)=Value.int .u64 c1)∧((Value.int .u64 (zB2 .u64 (zBm .u64 a (16)) 65535)=Value.int .u64 c2)∧((Value.int .u64 (zB2 .u64 (zBm .u64 a (0)) 65535)=Value.int .u64 c3)∧((Value.int .u64 0=Value.int .u64 c4)∧((Value.int .u64 (zB2 .u64 (zBm .u64 b (32)) 65535)=Value.int .u64 c5)∧((Value.int .u64 (zB2 .u64 (zBm .u64 b (16)) 65535)=Value.int .u64 c6)∧((Value.int .u64 (zB2 .u64 (zBm .u64 b (0)) 65535)=Value.int .u64 c7)∧True))))))))∧((2 * 23+1=47)∧(false=false)))))))))) (((Value.slice (some { block:=65,off:=0 }) (Int.toNat 8) (Int.toNat 8)=Value.slice (some { block:=65,off:=0 }) 8 8)∧(((Value.int .u64 0=Value.int .u64 c0)∧((Value.int .u64 0=Value.int .u64 c1)∧((Value.int .u64 (zB2 .u64 (zBm .u64 a (16)) 65535)=Value.int .u64 c2)∧((Value.int .u64 (zB2 .u64 (zBm .u64 a (0)) 65535)=Value.int .u64 c3)∧((Value.int .u64 0=Value.int .u64 c4)∧((Value.int .u64 0=Value.int .u64 c5)∧((Value.int .u64 (zB2 .u64 (zBm .u64 b (16)) 65535)=Value.int .u64 c6)∧((Value.int .u64 (zB2 .u64 (zBm .u64 b (0)) 65535)=Value.int .u64 c7)∧True))))))))∧((2 * 23+1=47)∧(false=false)))))))))) (((Value.slice (some { block:=65,off:=0 }) (Int.toNat 8) (Int.toNat 8)=Value.slice (some { block:=65,off:=0 }) 8 8)∧(((Value.int .u64 0=Value.int .u64 c0)∧((Value.int .u64 0=Value.int .u64 c1)∧((Value.int .u64 0=Value.int .u64 c2)∧((Value.int .u64 (zB2 .u64 (zBm .u64 a (0)) 65535)=Value.int .u64 c3)∧((Value.int .u64 0=Value.int .u64 c4)∧((Value.int .u64 0=Value.int .u64 c5)∧((Value.int .u64 0=Value.int .u64 c6)∧((Value.int .u64 (zB2 .u64 (zBm .u64 b (0)) 65535)=Value.int .u64 c7)∧True))))))))∧((2 * 23+1=47)∧(false=false)))))))))) (((Value.slice (some { block:=65,off:=0 }) (Int.toNat 8) (Int.toNat 8)=Value.slice (some { block:=65,off:=0 }) 8 8)∧(((Value.int .u64 0=Value.int .u64 c0)∧((Value.int .u64 0=Value.int .u64 c1)∧((Value.int .u64 0=Value.int .u64 c2)∧((Value.int .u64 0=Value.int .u64 c3)∧((Value.int .u64 0=Value.int .u64 c4)∧((Value.int .u64 0=Value.int .u64 c5)∧((Value.int .u64 0=Value.int .u64 c6)∧((Value.int .u64 0=Value.int .u64 c7)∧True))))))))∧((2 * 23+1=47)∧(false=false)))))):=by kernel_rfl
end Go.Proofs.YtfnacgojmdbjmaaGreatDoor
section
end
namespace Go.Proofs.YtfnacgojmdbjmaaGreatDoor
open Go.Det Go.RowKit YtfnacgojmdbjmaaGreatDoorW.PrintWords
theorem zVg {r:Option (Value×St)}{v:Value}(h:zXj r v=true):∃ s,r=some (v,s):=by
 unfold zXj at h
 split at h
 case h_2=>cases h
 rename_i x
 exact⟨x.2,by rw[← yGg h]⟩
theorem zMp {f:FuncId}{fn:Func}{c:Code}{args:List Value}{v:Value}{w:World}(hG:GoodW w)(hf:Tryz.prog.funcs[f]?=some fn)(hb:fn.body=some c)(hn:(fn.name== "runtime.NumGoroutine")=false)
  (h1:zCp args=true) (h2:flat v=true) (h3:v≠und) (e:∀ t0 t2 t5,∃ s,zJf Tryz.prog (zEw zTv (zTl zPs)) 1000 60 f args (zAo (zPr t0 t2 t5) 64)=some (v,s)):
  Calls Tryz.prog f ⟨args⟩ w fun e w'=>e=.returned v∧Below w.heap.size w w':=by
 obtain⟨t0,t2,t5,L⟩:=hG.lay
 obtain⟨s,hx2⟩:=e t0 t2 t5
 refine(zU4 (args:=args) zAs okA zVc (zVd (hG.len.later (Nat.le_refl _) fun _ _=>rfl) 6) hf hb hn L.hr (zEj 6 w) (zDl h1 _) (fun id q=>zDu 6 w (by decide) id q) (fun id q=>L.top id (Nat.le_trans (by decide) q)) hx2).mono ?_
 rintro e W' ⟨v',φ',rfl,_,hv,H'⟩
 rw[zIs h2 hv h3]
 exact⟨rfl,H'.os,H'.tape,H'.output,H'.size,fun j hj=>H'.old j hj⟩
def yUl:Tbl:=(List.range 256).map fun(n:Nat)=>([.int .u64 (n:Int)],.string ⟨⟨Txt.decT n⟩⟩)
theorem yEs (t0 t2 t5:TypeId):yD6 (fun args=>zJf Tryz.prog (zEw zTv (zTl zPs)) 1000 60 71 args (zAo (zPr t0 t2 t5) 64)) yUl=true:=by kernel_rfl
def zKc (n:Int):Option ByteArray:=if 0≤n∧n < 256 then some ⟨⟨Txt.decT n.toNat⟩⟩ else none
theorem yN2 {n:Int}{r:ByteArray}{w:World}(hG:GoodW w)(h:zKc n=some r):Calls Tryz.prog 71 #[.int .u64 n] w fun e w'=>e=.returned (.string r)∧Below w.heap.size w w':=by
 unfold zKc at h
 split at h
 case isFalse=>cases h
 rename_i hn
 cases h
 obtain⟨k,rfl⟩:=Int.eq_ofNat_of_zero_le hn.1
 have hk:k < 256:=by omega
 refine zMp (fn:=Tryz.f71) (c:=zAd Tryz.f71) (args:=[.int .u64 (k:Int)]) hG Tryz.func71 (by kernel_rfl) (by kernel_rfl) rfl rfl (by intro h;cases h) fun t0 t2 t5=>?_
 obtain⟨_,_,s,hs⟩:=zR1 (yEs t0 t2 t5) ([.int .u64 (k:Int)],.string ⟨⟨Txt.decT k⟩⟩) (List.mem_map.2 ⟨k,List.mem_range.2 hk,rfl⟩)
 exact⟨s,hs⟩
def zE9:ByteArray:={ data:=#[48,49,50,51,52,53,54,55,56,57,97,98,99,100,101,102,103,104,105,106,107,108,109,110,111,112,113,114,115,116,117,118,119,120,121,122] }
theorem yJ0:(List.length (Array.toList (ByteArray.data zE9)))=36:=rfl
def d16:List Value→Option Unit
 |[.int .i64 n]=>match Int.decEq n 16 with|Decidable.isTrue _=>some ()|Decidable.isFalse _=>none
 |_=>none
def yQw:List Value→Option Unit
 |[.int .u64 n]=>match Int.decEq n 16 with|Decidable.isTrue _=>some ()|Decidable.isFalse _=>none
 |_=>none
theorem yJ1 {args:List Value}{a:Unit}(h:d16 args=some a):args=[.int .i64 16]:=by
 unfold d16 at h
 split at h
 case h_2=>cases h
 split at h
 ·rename_i hn _;rw[hn]
 ·cases h
theorem yEt {args:List Value}{a:Unit}(h:yQw args=some a):args=[.int .u64 16]:=by
 unfold yQw at h
 split at h
 case h_2=>cases h
 split at h
 ·rename_i hn _;rw[hn]
 ·cases h
def conD109:Con:=Con.flat d16 (fun _=>true) fun _=>.bool true
def conD110:Con:=Con.flat yQw (fun _=>true) fun _=>.int .i64 4
theorem yN3 (t0 t2 t5:TypeId):zXj (zJf Tryz.prog (zEw zTv (zTl zPs)) 1000 60 133 [.int .i64 16] (zAo (zPr t0 t2 t5) 64)) (.bool true)=true:=by kernel_rfl
theorem yN4 (t0 t2 t5:TypeId):zXj (zJf Tryz.prog (zEw zTv (zTl zPs)) 1000 60 134 [.int .u64 16] (zAo (zPr t0 t2 t5) 64)) (.int .i64 4)=true:=by kernel_rfl
theorem yN5 {W:World}(hW:GoodW W):zAr Tryz.prog W 6 133 conD109.own:=by
 refine zA5 (fn:=Tryz.f133) (c:=zAd Tryz.f133) hW Tryz.func133 (by kernel_rfl) (by kernel_rfl) fun args v h=>?_
 split at h
 case h_2=>cases h
 rename_i a ha
 cases h
 obtain rfl:=yJ1 ha
 exact⟨rfl,rfl,fun w hG=>zMp (fn:=Tryz.f133) (c:=zAd Tryz.f133) hG Tryz.func133 (by kernel_rfl) (by kernel_rfl) rfl rfl (by intro h;cases h) fun t0 t2 t5=>zVg (yN3 t0 t2 t5)⟩
theorem yN6 {W:World}(hW:GoodW W):zAr Tryz.prog W 6 134 conD110.own:=by
 refine zA5 (fn:=Tryz.f134) (c:=zAd Tryz.f134) hW Tryz.func134 (by kernel_rfl) (by kernel_rfl) fun args v h=>?_
 split at h
 case h_2=>cases h
 rename_i a ha
 cases h
 obtain rfl:=yEt ha
 exact⟨rfl,rfl,fun w hG=>zMp (fn:=Tryz.f134) (c:=zAd Tryz.f134) hG Tryz.func134 (by kernel_rfl) (by kernel_rfl) rfl rfl (by intro h;cases h) fun t0 t2 t5=>zVg (yN4 t0 t2 t5)⟩
end Go.Proofs.YtfnacgojmdbjmaaGreatDoor
namespace Go.Proofs.YtfnacgojmdbjmaaGreatDoor
open Go.Det Go.RowKit  YtfnacgojmdbjmaaGreatDoorW.PrintWords
theorem yUm (u:Int)(Q:Value→Prop):zBi Tryz.prog (cwC [(133,conD109),(134,conD110)]) (oxE []) 4 (zAd Tryz.f122) (zAn [.slice none 0 0,.int .u64 u,.int .i64 16,.bool false,.bool false] 8) (zAo [] 64) (zA7 Tryz.prog Tryz.f122 fun v _=>Q v)=(zAm (zAl ((16:Int) < 2)) (False) (zAm (zAl ((16:Int)=10)) (False) (zAm (zAl ((36:Int) < 16)) (False) (((true=true)∧((true=true)∧zAm (zAl (IntKind.wrap .u64 16≤u)) ((((0≤zB2 .u64 u (IntKind.wrap .u64 (IntKind.wrap .u64 16 - 1)))∧(zB2 .u64 u (IntKind.wrap .u64 (IntKind.wrap .u64 16 - 1)) < (↑(List.length (Array.toList (ByteArray.data zE9))):Int)))∧((((0:Int)≤64)∧(64 < (↑65:Int)))∧((0≤IntKind.wrap .u64 4)∧zAm (zAl (IntKind.wrap .u64 16≤zBm .u64 u (IntKind.wrap .u64 4))) ((((0≤zB2 .u64 (zBm .u64 u (IntKind.wrap .u64 4)) (IntKind.wrap .u64 (IntKind.wrap .u64 16 - 1)))∧(zB2 .u64 (zBm .u64 u (IntKind.wrap .u64 4)) (IntKind.wrap .u64 (IntKind.wrap .u64 16 - 1)) < (↑(List.length (Array.toList (ByteArray.data zE9))):Int)))∧((((0:Int)≤63)∧(63 < (↑65:Int)))∧((0≤IntKind.wrap .u64 4)∧zAm (zAl (IntKind.wrap .u64 16≤zBm .u64 (zBm .u64 u (IntKind.wrap .u64 4)) (IntKind.wrap .u64 4))) ((((0≤zB2 .u64 (zBm .u64 (zBm .u64 u (IntKind.wrap .u64 4)) (IntKind.wrap .u64 4)) (IntKind.wrap .u64 (IntKind.wrap .u64 16 - 1)))∧(zB2 .u64 (zBm .u64 (zBm .u64 u (IntKind.wrap .u64 4)) (IntKind.wrap .u64 4)) (IntKind.wrap .u64 (IntKind.wrap .u64 16 - 1)) < (↑(List.length (Array.toList (ByteArray.data zE9))):Int)))∧((((0:Int)≤62)∧(62 < (↑65:Int)))∧((0≤IntKind.wrap .u64 4)∧zAm (zAl (IntKind.wrap .u64 16≤zBm .u64 (zBm .u64 (zBm .u64 u (IntKind.wrap .u64 4)) (IntKind.wrap .u64 4)) (IntKind.wrap .u64 4))) ((((0≤zB2 .u64 (zBm .u64 (zBm .u64 (zBm .u64 u (IntKind.wrap .u64 4)) (IntKind.wrap .u64 4)) (IntKind.wrap .u64 4)) (IntKind.wrap .u64 (IntKind.wrap .u64 16 - 1)))∧(zB2 .u64 (zBm .u64 (zBm .u64 (zBm .u64 u (IntKind.wrap .u64 4)) (IntKind.wrap .u64 4)) (IntKind.wrap .u64 4)) (IntKind.wrap .u64 (IntKind.wrap .u64 16 - 1)) < (↑(List.length (Array.toList (ByteArray.data zE9))):Int)))∧((((0:Int)≤61)∧(61 < (↑65:Int)))∧((0≤IntKind.wrap .u64 4)∧False)))) ((((0≤zBm .u64 (zBm .u64 (zBm .u64 u (IntKind.wrap .u64 4)) (IntKind.wrap .u64 4)) (IntKind.wrap .u64 4))∧(zBm .u64 (zBm .u64 (zBm .u64 u (IntKind.wrap .u64 4)) (IntKind.wrap .u64 4)) (IntKind.wrap .u64 4) < (↑(List.length (Array.toList (ByteArray.data zE9))):Int)))∧((((0:Int)≤61)∧(61 < (↑65:Int)))∧Q (Value.tuple #[Value.slice none 0 0,Value.string { data:=#[UInt8.ofNat (Int.toNat (↑(UInt8.toNat (List.getD (Array.toList (ByteArray.data zE9)) (Int.toNat (zBm .u64 (zBm .u64 (zBm .u64 u (IntKind.wrap .u64 4)) (IntKind.wrap .u64 4)) (IntKind.wrap .u64 4))) 0)):Int)),UInt8.ofNat (Int.toNat (↑(UInt8.toNat (List.getD (Array.toList (ByteArray.data zE9)) (Int.toNat (zB2 .u64 (zBm .u64 (zBm .u64 u (IntKind.wrap .u64 4)) (IntKind.wrap .u64 4)) (IntKind.wrap .u64 (IntKind.wrap .u64 16 - 1)))) 0)):Int)),UInt8.ofNat (Int.toNat (↑(UInt8.toNat (List.getD (Array.toList (ByteArray.data zE9)) (Int.toNat (zB2 .u64 (zBm .u64 u (IntKind.wrap .u64 4)) (IntKind.wrap .u64 (IntKind.wrap .u64 16 - 1)))) 0)):Int)),UInt8.ofNat (Int.toNat (↑(UInt8.toNat (List.getD (Array.toList (ByteArray.data zE9)) (Int.toNat (zB2 .u64 u (IntKind.wrap .u64 (IntKind.wrap .u64 16 - 1)))) 0)):Int))] }])))))))) ((((0≤zBm .u64 (zBm .u64 u (IntKind.wrap .u64 4)) (IntKind.wrap .u64 4))∧(zBm .u64 (zBm .u64 u (IntKind.wrap .u64 4)) (IntKind.wrap .u64 4) < (↑(List.length (Array.toList (ByteArray.data zE9))):Int)))∧((((0:Int)≤62)∧(62 < (↑65:Int)))∧Q (Value.tuple #[Value.slice none 0 0,Value.string { data:=#[UInt8.ofNat (Int.toNat (↑(UInt8.toNat (List.getD (Array.toList (ByteArray.data zE9)) (Int.toNat (zBm .u64 (zBm .u64 u (IntKind.wrap .u64 4)) (IntKind.wrap .u64 4))) 0)):Int)),UInt8.ofNat (Int.toNat (↑(UInt8.toNat (List.getD (Array.toList (ByteArray.data zE9)) (Int.toNat (zB2 .u64 (zBm .u64 u (IntKind.wrap .u64 4)) (IntKind.wrap .u64 (IntKind.wrap .u64 16 - 1)))) 0)):Int)),UInt8.ofNat (Int.toNat (↑(UInt8.toNat (List.getD (Array.toList (ByteArray.data zE9)) (Int.toNat (zB2 .u64 u (IntKind.wrap .u64 (IntKind.wrap .u64 16 - 1)))) 0)):Int))] }])))))))) ((((0≤zBm .u64 u (IntKind.wrap .u64 4))∧(zBm .u64 u (IntKind.wrap .u64 4) < (↑(List.length (Array.toList (ByteArray.data zE9))):Int)))∧((((0:Int)≤63)∧(63 < (↑65:Int)))∧Q (Value.tuple #[Value.slice none 0 0,Value.string { data:=#[UInt8.ofNat (Int.toNat (↑(UInt8.toNat (List.getD (Array.toList (ByteArray.data zE9)) (Int.toNat (zBm .u64 u (IntKind.wrap .u64 4))) 0)):Int)),UInt8.ofNat (Int.toNat (↑(UInt8.toNat (List.getD (Array.toList (ByteArray.data zE9)) (Int.toNat (zB2 .u64 u (IntKind.wrap .u64 (IntKind.wrap .u64 16 - 1)))) 0)):Int))] }])))))))) ((((0≤u)∧(u < (↑(List.length (Array.toList (ByteArray.data zE9))):Int)))∧((((0:Int)≤64)∧(64 < (↑65:Int)))∧Q (Value.tuple #[Value.slice none 0 0,Value.string { data:=#[UInt8.ofNat (Int.toNat (↑(UInt8.toNat (List.getD (Array.toList (ByteArray.data zE9)) (Int.toNat u) 0)):Int))] }])))))))))):=by kernel_rfl
end Go.Proofs.YtfnacgojmdbjmaaGreatDoor
section
end
namespace Go.Det
theorem zT1 {k:Nat}(s:Nat)(hs:s≤64):zBm .u64 (k:Int) (s:Int)=((k / 2 ^ s:Nat):Int):=by
 unfold zBm
 show Int.fdiv (k:Int) (2 ^ (min (Int.toNat (s:Int)) 64))=_
 rw[Int.toNat_natCast,Nat.min_eq_left hs,Int.fdiv_eq_ediv_of_nonneg _ (Int.le_of_lt (Int.pow_pos (by decide)))]
 push_cast
 rfl
theorem wrapU {x:Int}(h:0≤x∧x < 18446744073709551616):IntKind.u64.wrap x=x:=by
 obtain⟨n,rfl⟩:=Int.eq_ofNat_of_zero_le h.1
 exact wrap_u64 (by unfold M64;omega)
theorem zH9 {k:Nat}(hk:k < 18446744073709551616)(j:Nat)(hj:j≤32):zB2 .u64 (k:Int) ((2 ^ j - 1:Nat):Int)=((k % 2 ^ j:Nat):Int):=by
 have hp:2 ^ j≤2 ^ 32:=Nat.pow_le_pow_right (by decide) hj
 have hp':2 ^ j≤4294967296:=hp
 rw[yEc (inU_iff.2 ⟨by omega,by omega⟩) (inU_iff.2 ⟨by omega,by omega⟩),Int.toNat_natCast,Int.toNat_natCast,Nat.and_two_pow_sub_one_eq_mod]
theorem zPy {a b:Nat}(s:Nat)(hb:b < 2 ^ s)(h:a * 2 ^ s+b < 18446744073709551616):orI .u64 ((a * 2 ^ s:Nat):Int) (b:Int)=((a * 2 ^ s+b:Nat):Int):=by
 have e:a * 2 ^ s ||| b=a * 2 ^ s+b:=by rw[← Nat.shiftLeft_eq,← Nat.shiftLeft_add_eq_or_of_lt hb]
 obtain⟨c,hc⟩:∃ c,c=a * 2 ^ s:=⟨_,rfl⟩
 rw[← hc] at h e ⊢
 rw[yHz (inU_iff.2 ⟨by omega,by omega⟩) (inU_iff.2 ⟨by omega,by omega⟩),Int.toNat_natCast,Int.toNat_natCast,e]
theorem yAv {k:Nat}(s:Nat)(hs:s≤64)(h:k * 2 ^ s < 18446744073709551616):zD3 .u64 (k:Int) (s:Int)=((k * 2 ^ s:Nat):Int):=by
 unfold zD3
 show IntKind.u64.wrap ((k:Int) * 2 ^ (min (Int.toNat (s:Int)) 64))=_
 rw[Int.toNat_natCast,Nat.min_eq_left hs]
 have e:((k:Int) * 2 ^ s)=((k * 2 ^ s:Nat):Int):=by push_cast;rfl
 rw[e]
 exact wrap_u64 h
end Go.Det
namespace Go.Proofs.YtfnacgojmdbjmaaGreatDoor
open Go.Det Go.RowKit YtfnacgojmdbjmaaGreatDoorW.PrintWords
theorem yUn:IntKind.wrap .u64 16=16:=by decide
theorem hw4:IntKind.wrap .u64 4=4:=by decide
theorem yUo:IntKind.wrap .u64 (16 - 1)=15:=by decide
theorem yUp:IntKind.wrap .i64 (65 - 1)=64:=by decide
theorem yUq:IntKind.wrap .i64 (64 - 1)=63:=by decide
theorem yUr:IntKind.wrap .i64 (63 - 1)=62:=by decide
theorem yUs:IntKind.wrap .i64 (62 - 1)=61:=by decide
theorem yUt (k:Nat):zBm .u64 (k:Int) 4=((k / 16:Nat):Int):=zT1 4 (by decide)
theorem yEu {k:Nat}(h:k < 65536):zB2 .u64 (k:Int) 15=((k % 16:Nat):Int):=zH9 (by omega) 4 (by decide)
theorem yJ2:∀ m:Fin 16,UInt8.ofNat (Int.toNat (↑(UInt8.toNat (List.getD (Array.toList (ByteArray.data zE9)) m.val 0)):Int))=Txt.dg m.val:=by decide +kernel
theorem zHw {m:Nat}(h:m < 16):UInt8.ofNat (Int.toNat (↑(UInt8.toNat (List.getD (Array.toList (ByteArray.data zE9)) (Int.toNat ((m:Nat):Int)) 0)):Int))=Txt.dg m:=yJ2 ⟨m,h⟩
theorem yUu (k:Nat)(hk:k < 65536):zBi Tryz.prog (cwC [(133,conD109),(134,conD110)]) (oxE []) 4 (zAd Tryz.f122) (zAn [.slice none 0 0,.int .u64 (k:Int),.int .i64 16,.bool false,.bool false] 8) (zAo [] 64) (zA7 Tryz.prog Tryz.f122 fun v _=>v=.tuple #[.slice none 0 0,.string ⟨⟨Txt.hexT k⟩⟩]):=by
 refine(yUm (k:Int) _).mpr ?_
 have a0:=yEu hk
 have a1:=yEu (k:=k / 16) (by omega)
 have a2:=yEu (k:=k / 16 / 16) (by omega)
 have a3:=yEu (k:=k / 16 / 16 / 16) (by omega)
 simp only[yUn,hw4,yUo,yUp,yUq,yUr,yUs,yUt,a0,a1,a2,a3,yJ0]
 refine zBf (by decide) (zBf (by decide) (zBf (by decide) ⟨trivial,trivial,?_⟩))
 have e1:k / 16 / 16=k / 256:=by omega
 have e2:k / 16 / 16 / 16=k / 4096:=by omega
 refine bifW_c (fun h1=>⟨⟨by omega,by omega⟩,⟨by decide,by decide⟩,by decide,?_⟩) (fun h1=>⟨⟨by omega,by omega⟩,⟨by decide,by decide⟩,?_⟩)
 ·refine bifW_c (fun h2=>⟨⟨by omega,by omega⟩,⟨by decide,by decide⟩,by decide,?_⟩) (fun h2=>⟨⟨by omega,by omega⟩,⟨by decide,by decide⟩,?_⟩)
  ·refine bifW_c (fun h3=>⟨⟨by omega,by omega⟩,⟨by decide,by decide⟩,by decide,?_⟩) (fun h3=>⟨⟨by omega,by omega⟩,⟨by decide,by decide⟩,?_⟩)
   ·refine zBf (by omega) ⟨⟨by omega,by omega⟩,⟨by decide,by decide⟩,?_⟩
    rw[zHw (m:=k / 16 / 16 / 16) (by omega),zHw (m:=k / 16 / 16 % 16) (by omega),zHw (m:=k / 16 % 16) (by omega),zHw (m:=k % 16) (by omega),e2,e1]
    unfold Txt.hexT
    rw[if_neg (by omega),if_neg (by omega),if_neg (by omega)]
   ·rw[zHw (m:=k / 16 / 16) (by omega),zHw (m:=k / 16 % 16) (by omega),zHw (m:=k % 16) (by omega),e1]
    unfold Txt.hexT
    rw[if_neg (by omega),if_neg (by omega),if_pos (by omega)]
  ·rw[zHw (m:=k / 16) (by omega),zHw (m:=k % 16) (by omega)]
   unfold Txt.hexT
   rw[if_neg (by omega),if_pos (by omega)]
 ·rw[zHw (m:=k) (by omega)]
  unfold Txt.hexT
  rw[if_pos (by omega)]
def yAw (n b:Int):Option ByteArray:=if b=16∧(0≤n∧n < 65536) then some ⟨⟨Txt.hexT n.toNat⟩⟩ else none
def d98:List Value→Option Int
 |[.slice none 0 0,.int .u64 u,.int .i64 b,.bool false,.bool false]=>match Int.decEq b 16 with|Decidable.isTrue _=>some u|Decidable.isFalse _=>none
 |_=>none
def e98 (u:Int):List Value:=[.slice none 0 0,.int .u64 u,.int .i64 16,.bool false,.bool false]
theorem yJ3 {args:List Value}{a:Int}(h:d98 args=some a):args=e98 a:=by
 unfold d98 at h
 split at h
 case h_2=>cases h
 split at h
 ·rename_i hn _;cases h;unfold e98;rw[hn]
 ·cases h
def conD98:Con:=Con.opt d98 (fun u=>yAw u 16) fun y=>.tuple #[.slice none 0 0,.string y]
theorem yQx {W:World}(hW:GoodW W):zAr Tryz.prog W 6 122 conD98.own:=
 zA3 e98 (Laying.empty hW.size) hW.size (by decide) zAs (OwnsAll.con (yN5 hW) (OwnsAll.con (yN6 hW) (zAh W 6))) Tryz.func122 (fn:=Tryz.f122) (c:=zAd Tryz.f122) (by kernel_rfl) (by kernel_rfl) (fun _ _ h=>yJ3 h) (fun a=>⟨rfl,(by kernel_rfl)⟩) (fun b=>rfl) fun a b h=>by
  unfold yAw at h
  split at h
  case isFalse=>cases h
  rename_i hn
  cases h
  obtain⟨k,rfl⟩:=Int.eq_ofNat_of_zero_le hn.2.1
  exact zAv (zA0 _) (zFl _) (by kernel_rfl) (yUu k (by omega))
def d85:List Value→Option Int
 |[.int .u64 u,.int .i64 b]=>match Int.decEq b 16 with|Decidable.isTrue _=>some u|Decidable.isFalse _=>none
 |_=>none
def e85 (u:Int):List Value:=[.int .u64 u,.int .i64 16]
theorem yAx {args:List Value}{a:Int}(h:d85 args=some a):args=e85 a:=by
 unfold d85 at h
 split at h
 case h_2=>cases h
 split at h
 ·rename_i hn _;cases h;unfold e85;rw[hn]
 ·cases h
def conD85:Con:=Con.opt d85 (fun u=>yAw u 16) fun y=>.string y
theorem yUv (u:Int)(Q:Value→Prop):zBi Tryz.prog (cwC [(122,conD98)]) (oxE [10]) 1 (zAd Tryz.f108) (zAn [.int .u64 u,.int .i64 16] 8) (zAo [] 64) (zA7 Tryz.prog Tryz.f108 fun v _=>Q v)=(true=true∧∃ y:ByteArray,yAw u 16=some y∧Q (.string y)):=by kernel_rfl
theorem yQy {W:World}(hW:GoodW W):zAr Tryz.prog W 6 108 conD85.own:=
 zA3 e85 (Laying.empty hW.size) hW.size (by decide) zAs (OwnsAll.con (yQx hW) (zAh W 6)) Tryz.func108 (fn:=Tryz.f108) (c:=zAd Tryz.f108) (by kernel_rfl) (by kernel_rfl) (fun _ _ h=>yAx h) (fun a=>⟨rfl,(by kernel_rfl)⟩) (fun b=>rfl) fun a b h=>
  zAv (zA0 _) (zFl _) (n:=1) (by kernel_rfl) ((yUv a _).mpr ⟨rfl,b,h,rfl⟩)
def conD77:Con:=Con.opt d85 (fun u=>yAw u 16) fun y=>.string y
theorem yUw (u:Int)(Q:Value→Prop):zBi Tryz.prog (cwC [(108,conD85)]) (oxE []) 1 (zAd Tryz.f94) (zAn [.int .u64 u,.int .i64 16] 8) (zAo [] 64) (zA7 Tryz.prog Tryz.f94 fun v _=>Q v)=(∃ y:ByteArray,yAw u 16=some y∧Q (.string y)):=by kernel_rfl
theorem yQz {W:World}(hW:GoodW W):zAr Tryz.prog W 6 94 conD77.own:=
 zA3 e85 (Laying.empty hW.size) hW.size (by decide) zAs (OwnsAll.con (yQy hW) (zAh W 6)) Tryz.func94 (fn:=Tryz.f94) (c:=zAd Tryz.f94) (by kernel_rfl) (by kernel_rfl) (fun _ _ h=>yAx h) (fun a=>⟨rfl,(by kernel_rfl)⟩) (fun b=>rfl) fun a b h=>
  zAv (zA0 _) (zFl _) (n:=1) (by kernel_rfl) ((yUw a _).mpr ⟨b,h,rfl⟩)
theorem yN7 {n b:Int}{r:ByteArray}{w:World}(hG:GoodW w)(h:yAw n b=some r):Calls Tryz.prog 94 #[.int .u64 n,.int .i64 b] w fun e w'=>e=.returned (.string r)∧Below w.heap.size w w':=by
 have hb:b=16:=by
  unfold yAw at h
  split at h
  ·rename_i q;exact q.1
  ·cases h
 subst hb
 exact zE3 (fn:=Tryz.f94) (c:=zAd Tryz.f94) (yQz hG) hG Tryz.func94 (by kernel_rfl) (by kernel_rfl) (args:=e85 n) (v:=.string r) (zPp (dec:=d85) (f:=fun u=>yAw u 16) (enc:=fun y=>.string y) (a:=n) (b:=r) rfl h _) rfl rfl (by intro h;cases h)
def zMq:Int→List UInt8→Option (Int×Bool)
 |n,[]=>some (n,true)
 |n,c::t=>(yM3 dig16 (orI .u8 (c.toNat:Int) 32)).bind fun x=>if x < 0 then some (0,false) else if(c.toNat:Int) < 48 then some (0,false) else zMq (orI .u64 (zD3 .u64 n 4) (IntKind.wrap .u64 x)) t
def zPz (s:ByteArray):Option (Int×Bool):=if s.data.toList.length < 1∨4 < s.data.toList.length then some (0,false) else zMq 0 s.data.toList
theorem zFa (l:List UInt8):ByteArray.size { data:={ toList:=l } }=l.length:=rfl
theorem yC4 (l:List UInt8):Array.toList (ByteArray.data { data:={ toList:=l } })=l:=rfl
theorem bcT {A B:Prop}:zAm (zAl True) A B=A:=by rw[zCg.2 trivial];rfl
theorem bcF {A B:Prop}:zAm (zAl False) A B=B:=by rw[zDq.2 id];rfl
theorem wi0:IntKind.wrap .i64 0=0:=by decide
theorem wi5:IntKind.wrap .i64 5=5:=by decide
theorem wi6:IntKind.wrap .i64 6=6:=by decide
theorem wi7:IntKind.wrap .i64 7=7:=by decide
theorem yUx:IntKind.wrap .i64 16=16:=by decide
theorem yUy:IntKind.wrap .i64 32=32:=by decide
theorem yUz:IntKind.wrap .i64 48=48:=by decide
theorem wi1:IntKind.wrap .i64 1=1:=by decide
theorem wi2:IntKind.wrap .i64 2=2:=by decide
theorem wi3:IntKind.wrap .i64 3=3:=by decide
theorem wi4:IntKind.wrap .i64 4=4:=by decide
def zXq:List Value→Option ByteArray
 |[.string s]=>some s
 |_=>none
theorem zF6 {args:List Value}{a:ByteArray}(h:zXq args=some a):args=[.string a]:=by
 unfold zXq at h
 split at h
 case h_2=>cases h
 cases h;rfl
def zVh (y:Int×Bool):Value:=.tuple #[.int .u64 y.1,.bool y.2]
theorem yU0 (s:ByteArray)(y:Int×Bool)(hx:zPz s=some y):zAx Tryz.prog (cwC [(125,conD92)]) (zAd Tryz.f115) (zAn [.string s] 8) (zAo [] 64) (zA7 Tryz.prog Tryz.f115 fun v' _=>v'=zVh y):=by
 obtain⟨⟨l⟩⟩:=s
 unfold zPz at hx
 rw[yC4] at hx
 match l,hx with
 |[],hx=>
  refine zAv (zA0 _) zE4 (by kernel_rfl) ((vh0 _).mpr ?_)
  simp only[zl,zF,zu,zd,zn,zs,zh]
  rw[if_pos (by simp)] at hx
  cases hx
  simp only[zFa,List.length_nil,Int.cast_ofNat_Int]
  exact zVe (by decide) rfl
 |[a],hx=>
  refine zAv (zA0 _) zE4 (by kernel_rfl) ((vh1 a _).mpr ?_)
  simp only[zl,zF,zu,zd,zn,zs,zh]
  rw[if_neg (by simp)] at hx
  simp only[zMq] at hx
  simp only[zFa,List.length_cons,List.length_nil,Nat.reduceAdd,Int.reduceAdd,wi1,wi2,wi3,wi4,Int.cast_ofNat_Int,Int.reduceLT,Int.reduceLE,bcT,bcF,true_and,and_true,and_false,false_and]
  repeat' first
   |(obtain⟨y,hy,hx⟩:=Option.bind_eq_some_iff.1 hx;refine⟨y,hy,?_⟩)
   |((refine bifW_c (fun hc=>?_) (fun hc=>?_))<;>first|rw[if_pos hc] at hx|rw[if_neg hc] at hx)
   |(cases hx;rfl)
 |[a,b],hx=>
  refine zAv (zA0 _) zE4 (by kernel_rfl) ((vh2 a b _).mpr ?_)
  simp only[zl,zF,zu,zd,zn,zs,zh]
  rw[if_neg (by simp)] at hx
  simp only[zMq] at hx
  simp only[zFa,List.length_cons,List.length_nil,Nat.reduceAdd,Int.reduceAdd,wi1,wi2,wi3,wi4,Int.cast_ofNat_Int,Int.reduceLT,Int.reduceLE,bcT,bcF,true_and,and_true,and_false,false_and]
  repeat' first
   |(obtain⟨y,hy,hx⟩:=Option.bind_eq_some_iff.1 hx;refine⟨y,hy,?_⟩)
   |((refine bifW_c (fun hc=>?_) (fun hc=>?_))<;>first|rw[if_pos hc] at hx|rw[if_neg hc] at hx)
   |(cases hx;rfl)
 |[a,b,c],hx=>
  refine zAv (zA0 _) zE4 (by kernel_rfl) ((vh3 a b c _).mpr ?_)
  simp only[zl,zF,zu,zd,zn,zs,zh]
  rw[if_neg (by simp)] at hx
  simp only[zMq] at hx
  simp only[zFa,List.length_cons,List.length_nil,Nat.reduceAdd,Int.reduceAdd,wi1,wi2,wi3,wi4,Int.cast_ofNat_Int,Int.reduceLT,Int.reduceLE,bcT,bcF,true_and,and_true,and_false,false_and]
  repeat' first
   |(obtain⟨y,hy,hx⟩:=Option.bind_eq_some_iff.1 hx;refine⟨y,hy,?_⟩)
   |((refine bifW_c (fun hc=>?_) (fun hc=>?_))<;>first|rw[if_pos hc] at hx|rw[if_neg hc] at hx)
   |(cases hx;rfl)
 |[a,b,c,d],hx=>
  refine zAv (zA0 _) zE4 (by kernel_rfl) ((vh4 a b c d _).mpr ?_)
  simp only[zl,zF,zu,zd,zn,zs,zh]
  rw[if_neg (by simp)] at hx
  simp only[zMq] at hx
  simp only[zFa,List.length_cons,List.length_nil,Nat.reduceAdd,Int.reduceAdd,wi1,wi2,wi3,wi4,Int.cast_ofNat_Int,Int.reduceLT,Int.reduceLE,bcT,bcF,true_and,and_true,and_false,false_and]
  repeat' first
   |(obtain⟨y,hy,hx⟩:=Option.bind_eq_some_iff.1 hx;refine⟨y,hy,?_⟩)
   |((refine bifW_c (fun hc=>?_) (fun hc=>?_))<;>first|rw[if_pos hc] at hx|rw[if_neg hc] at hx)
   |(cases hx;rfl)
 |a::b::c::d::e::t,hx=>
  refine zAv (zA0 _) zE4 (by kernel_rfl) ((vh5 a b c d e t _).mpr ?_)
  simp only[zl,zF,zu,zd,zn,zs,zh]
  rw[if_pos (by simp)] at hx
  cases hx
  simp only[zFa,List.length_cons]
  exact zBf (by omega) (zVe (by omega) rfl)
def conD83:Con:=Con.opt zXq zPz zVh
theorem yQ0 {W:World}(hW:GoodW W):zAr Tryz.prog W 6 115 conD83.own:=
 zA3 (fun s=>[.string s]) (Laying.empty hW.size) hW.size (by decide) zAs (OwnsAll.con (yQt hW) (zAh W 6)) Tryz.func115 (fn:=Tryz.f115) (c:=zAd Tryz.f115) (by kernel_rfl) (by kernel_rfl) (fun _ _ h=>zF6 h) (fun a=>⟨rfl,(by kernel_rfl)⟩) (fun b=>rfl) yU0
theorem yN8 {s:ByteArray}{r1:Int}{r2:Bool}{w:World}(hG:GoodW w)(h:zPz s=some (r1,r2)):Calls Tryz.prog 115 #[.string s] w fun e w'=>e=.returned (.tuple #[.int .u64 r1,.bool r2])∧Below w.heap.size w w':=
 zE3 (fn:=Tryz.f115) (c:=zAd Tryz.f115) (yQ0 hG) hG Tryz.func115 (by kernel_rfl) (by kernel_rfl) (args:=[.string s]) (v:=zVh (r1,r2)) (zPp (dec:=zXq) (f:=zPz) (enc:=zVh) (a:=s) (b:=(r1,r2)) rfl h _) rfl rfl (by intro h;cases h)
def zSx (m:Int):Int→List UInt8→Option (Int×Bool)
 |n,[]=>if m < n then some (0,false) else some (n,true)
 |n,c::t=>if(c.toNat:Int) < 48 then some (0,false) else if 57 < (c.toNat:Int) then some (0,false) else if IntKind.wrap .u64 (m.tdiv 10) < n then some (0,false) else if IntKind.wrap .u64 (m - if m < IntKind.wrap .u64 (IntKind.wrap .u8 ((c.toNat:Int) - 48)) then m else IntKind.wrap .u64 (IntKind.wrap .u8 ((c.toNat:Int) - 48))) < IntKind.wrap .u64 (10 * n) then some (0,false) else zSx m (IntKind.wrap .u64 (IntKind.wrap .u64 (10 * n)+IntKind.wrap .u64 (IntKind.wrap .u8 ((c.toNat:Int) - 48)))) t
def zKd (s:ByteArray)(m:Int):Option (Int×Bool):=
 if 0≤m∧m≤255 then(match s.data.toList with
  |[]=>some (0,false)
  |c::t=>if(c.toNat:Int)=48 then(if t=[] then zSx m 0 [c] else some (0,false)) else zSx m 0 (c::t))
 else none
def yAy:List Value→Option (ByteArray×Int)
 |[.string s,.int .u64 m]=>some (s,m)
 |_=>none
theorem zSe {args:List Value}{a:ByteArray×Int}(h:yAy args=some a):args=[.string a.1,.int .u64 a.2]:=by
 unfold yAy at h
 split at h
 case h_2=>cases h
 cases h;rfl
theorem zSf:Array.toList (ByteArray.data { data:=#[] })=[]:=rfl
theorem yEv (a:UInt8)(t:List UInt8):List.getD (a::t) 0 0=a:=rfl
theorem zKt (a:UInt8)(t:List UInt8):((a::t)=[])=False:=by simp
theorem xd (c:UInt8)(h1:¬ (c.toNat:Int) < 48)(h2:¬ 57 < (c.toNat:Int)):IntKind.wrap .u64 (IntKind.wrap .u8 ((c.toNat:Int) - 48))=(c.toNat:Int) - 48:=by
 have e:IntKind.wrap .u8 ((c.toNat:Int) - 48)=(c.toNat:Int) - 48:=by
  unfold IntKind.wrap
  simp[IntKind.signed,IntKind.bits]
  omega
 rw[e,Go.Det.wrapU ⟨by omega,by omega⟩]
theorem yU1 {m:Int}(hm:0≤m∧m≤255){a b c:UInt8}(h0:¬ (a.toNat:Int)=48)(a1:¬ (a.toNat:Int) < 48)(a2:¬ 57 < (a.toNat:Int))(b1:¬ (b.toNat:Int) < 48)(b2:¬ 57 < (b.toNat:Int))(c1:¬ (c.toNat:Int) < 48)(c2:¬ 57 < (c.toNat:Int)):
  IntKind.wrap .u64 (m.tdiv 10) < IntKind.wrap .u64 (IntKind.wrap .u64 (10 * IntKind.wrap .u64 (IntKind.wrap .u64 (10 * IntKind.wrap .u64 (IntKind.wrap .u64 (10 * 0)+IntKind.wrap .u64 (IntKind.wrap .u8 ((a.toNat:Int) - 48))))+IntKind.wrap .u64 (IntKind.wrap .u8 ((b.toNat:Int) - 48))))+IntKind.wrap .u64 (IntKind.wrap .u8 ((c.toNat:Int) - 48))):=by
 obtain⟨k,rfl⟩:=Int.eq_ofNat_of_zero_le hm.1
 rw[xd a a1 a2,xd b b1 b2,xd c c1 c2,show Int.tdiv (k:Int) 10=((k / 10:Nat):Int) from rfl,Go.Det.wrapU (x:=((k / 10:Nat):Int)) ⟨by omega,by omega⟩,Go.Det.wrapU (x:=10 * 0) ⟨by omega,by omega⟩]
 rw[Go.Det.wrapU (x:=10 * 0+((a.toNat:Int) - 48)) ⟨by omega,by omega⟩,Go.Det.wrapU (x:=10 * (10 * 0+((a.toNat:Int) - 48))) ⟨by omega,by omega⟩,Go.Det.wrapU (x:=10 * (10 * 0+((a.toNat:Int) - 48))+((b.toNat:Int) - 48)) ⟨by omega,by omega⟩,Go.Det.wrapU (x:=10 * (10 * (10 * 0+((a.toNat:Int) - 48))+((b.toNat:Int) - 48))) ⟨by omega,by omega⟩,Go.Det.wrapU ⟨by omega,by omega⟩]
 omega
theorem yU2 (x:ByteArray×Int)(y:Int×Bool)(hx:zKd x.1 x.2=some y):zAx Tryz.prog (cwC []) (zAd Tryz.f61) (zAn [.string x.1,.int .u64 x.2] 8) (zAo [] 64) (zA7 Tryz.prog Tryz.f61 fun v' _=>v'=zVh y):=by
 obtain⟨⟨⟨l⟩⟩,m⟩:=x
 unfold zKd at hx
 simp only[yC4] at hx
 split at hx
 case isFalse=>cases hx
 rename_i hm
 match l,hx with
 |[],hx=>
  refine zAv (zA0 _) zE4 (by kernel_rfl) ((vn0 m _).mpr ?_)
  simp only[zl,zF,zu,zd,zn,zs,zh]
  cases hx
  simp only[yC4,zSf,bcT]
  rfl
 |[a],hx=>
  refine zAv (zA0 _) zE4 (by kernel_rfl) ((vn1 a m _).mpr ?_)
  simp only[zl,zF,zu,zd,zn,zs,zh]
  simp only[zSx,if_true,reduceCtorEq,if_false] at hx
  simp only[zFa,yC4,zSf,zKt,Int.toNat_zero,yEv,List.length_cons,List.length_nil,Nat.reduceAdd,Int.reduceAdd,wi1,wi2,wi3,wi4,Int.cast_ofNat_Int,Int.reduceLT,Int.reduceLE,bcT,bcF,true_and,and_true,and_false,false_and,ne_eq,Int.reduceEq,not_false_eq_true]
  repeat' first
   |((refine bifW_c (fun hc=>?_) (fun hc=>?_))<;>first|rw[if_pos hc] at hx|rw[if_neg hc] at hx)
   |(cases hx;rfl)
 |[a,b],hx=>
  refine zAv (zA0 _) zE4 (by kernel_rfl) ((vn2 a b m _).mpr ?_)
  simp only[zl,zF,zu,zd,zn,zs,zh]
  simp only[zSx,if_true,reduceCtorEq,if_false] at hx
  simp only[zFa,yC4,zSf,zKt,Int.toNat_zero,yEv,List.length_cons,List.length_nil,Nat.reduceAdd,Int.reduceAdd,wi1,wi2,wi3,wi4,Int.cast_ofNat_Int,Int.reduceLT,Int.reduceLE,bcT,bcF,true_and,and_true,and_false,false_and,ne_eq,Int.reduceEq,not_false_eq_true]
  repeat' first
   |((refine bifW_c (fun hc=>?_) (fun hc=>?_))<;>first|rw[if_pos hc] at hx|rw[if_neg hc] at hx)
   |(cases hx;rfl)
 |[a,b,c],hx=>
  refine zAv (zA0 _) zE4 (by kernel_rfl) ((vn3 a b c m _).mpr ?_)
  simp only[zl,zF,zu,zd,zn,zs,zh]
  simp only[zSx,if_true,reduceCtorEq,if_false] at hx
  simp only[zFa,yC4,zSf,zKt,Int.toNat_zero,yEv,List.length_cons,List.length_nil,Nat.reduceAdd,Int.reduceAdd,wi1,wi2,wi3,wi4,Int.cast_ofNat_Int,Int.reduceLT,Int.reduceLE,bcT,bcF,true_and,and_true,and_false,false_and,ne_eq,Int.reduceEq,not_false_eq_true]
  repeat' first
   |((refine bifW_c (fun hc=>?_) (fun hc=>?_))<;>first|rw[if_pos hc] at hx|rw[if_neg hc] at hx)
   |(cases hx;rfl)
 |a::b::c::d::t,hx=>
  refine zAv (zA0 _) zE4 (by kernel_rfl) ((vn4 a b c d t m _).mpr ?_)
  simp only[zl,zF,zu,zd,zn,zs,zh]
  simp only[zSx,if_true,reduceCtorEq,if_false] at hx
  simp only[zFa,yC4,zSf,zKt,Int.toNat_zero,yEv,List.length_cons,List.length_nil,Nat.reduceAdd,Int.reduceAdd,wi1,wi2,wi3,wi4,Int.cast_ofNat_Int,Int.reduceLT,Int.reduceLE,bcT,bcF,true_and,and_true,and_false,false_and,ne_eq,Int.reduceEq,not_false_eq_true]
  have hz:((0:Int) < ((t.length+1+1+1+1:Nat):Int)):=by omega
  have ho:((1:Int) < ((t.length+1+1+1+1:Nat):Int)):=by omega
  have h2:((2:Int) < ((t.length+1+1+1+1:Nat):Int)):=by omega
  have h3:((3:Int) < ((t.length+1+1+1+1:Nat):Int)):=by omega
  simp only[eq_true hz,eq_true ho,eq_true h2,eq_true h3,bcT,and_true,true_and]
  repeat' first
   |((refine bifW_c (fun hc=>?_) (fun hc=>?_))<;>first|rw[if_pos hc] at hx|rw[if_neg hc] at hx)
   |(cases hx;rfl)
  exact absurd (yU1 hm ‹¬ (a.toNat:Int)=48› ‹¬ (a.toNat:Int) < 48› ‹¬ 57 < (a.toNat:Int)› ‹¬ (b.toNat:Int) < 48› ‹¬ 57 < (b.toNat:Int)› ‹¬ (c.toNat:Int) < 48› ‹¬ 57 < (c.toNat:Int)›) (by assumption)
def conD61:Con:=Con.opt yAy (fun x=>zKd x.1 x.2) zVh
theorem yN9 {W:World}(hW:GoodW W):zAr Tryz.prog W 6 61 conD61.own:=
 zA3 (fun x:ByteArray×Int=>[.string x.1,.int .u64 x.2]) (Laying.empty hW.size) hW.size (by decide) zAs (zAh W 6) Tryz.func61 (fn:=Tryz.f61) (c:=zAd Tryz.f61) (by kernel_rfl) (by kernel_rfl) (fun _ _ h=>zSe h) (fun a=>⟨rfl,(by kernel_rfl)⟩) (fun b=>rfl) yU2
theorem yOa {s:ByteArray}{m r1:Int}{r2:Bool}{w:World}(hG:GoodW w)(h:zKd s m=some (r1,r2)):Calls Tryz.prog 61 #[.string s,.int .u64 m] w fun e w'=>e=.returned (.tuple #[.int .u64 r1,.bool r2])∧Below w.heap.size w w':=
 zE3 (fn:=Tryz.f61) (c:=zAd Tryz.f61) (yN9 hG) hG Tryz.func61 (by kernel_rfl) (by kernel_rfl) (args:=[.string s,.int .u64 m]) (v:=zVh (r1,r2)) (zPp (dec:=yAy) (f:=fun x=>zKd x.1 x.2) (enc:=zVh) (a:=(s,m)) (b:=(r1,r2)) rfl h _) rfl rfl (by intro h;cases h)
def zDc (a:Int):List Int:=[zB2 .u64 (zBm .u64 a 48) 65535,zB2 .u64 (zBm .u64 a 32) 65535,zB2 .u64 (zBm .u64 a 16) 65535,zB2 .u64 (zBm .u64 a 0) 65535]
def yAz (x:Int×Int):Option (List Value):=some ((zDc x.1++zDc x.2).map (Value.int .u64))
theorem yU3 (x:Int×Int)(cs:List Value)(hx:yAz x=some cs):zAx Tryz.prog (cwC []) (zAd Tryz.f91) (zAn [.agg #[.int .u64 x.1,.int .u64 x.2]] 8) (zAo [] 64) (zA7 Tryz.prog Tryz.f91 fun v' s'=>∃ k,v'=.slice (some ⟨k,0,none⟩) 8 8∧s'.h.get k=some (.cells cs 47 false)):=by
 obtain⟨a,b⟩:=x
 cases hx
 have h:=yN1 a b (zB2 .u64 (zBm .u64 a 48) 65535) (zB2 .u64 (zBm .u64 a 32) 65535) (zB2 .u64 (zBm .u64 a 16) 65535) (zB2 .u64 (zBm .u64 a 0) 65535) (zB2 .u64 (zBm .u64 b 48) 65535) (zB2 .u64 (zBm .u64 b 32) 65535) (zB2 .u64 (zBm .u64 b 16) 65535) (zB2 .u64 (zBm .u64 b 0) 65535)
 refine zBl (zA0 _) _ (fun e l s q=>yAr (fun v s q=>?_) q) (zAv (zA0 _) zE4 (by kernel_rfl) (h.mpr ?_))
 ·exact⟨65,q.1,zHq q.2⟩
 ·simp only[Int.reduceMul,Int.reduceAdd,Int.reduceSub,wi0,wi1,wi2,wi3,wi4,wi5,wi6,wi7,yUx,yUy,yUz,Int.reduceLT,Int.reduceLE,Int.reduceToNat,Int.cast_ofNat_Int,bcT,bcF,true_and,and_true]
def yEw:List Value→Option (Int×Int)
 |[.agg ⟨[.int .u64 a,.int .u64 b]⟩]=>some (a,b)
 |_=>none
theorem yA0 {args:List Value}{a:Int×Int}(h:yEw args=some a):args=[.agg #[.int .u64 a.1,.int .u64 a.2]]:=by
 unfold yEw at h
 split at h
 case h_2=>cases h
 cases h;rfl
def conD56:Con:=Con.made yEw yAz 8 47
theorem yQ1 {W:World}(hW:GoodW W):zAr Tryz.prog W 6 91 conD56.own:=
 yEp (cw:=cwC []) (l:=yC2 []) (fun x:Int×Int=>[.agg #[.int .u64 x.1,.int .u64 x.2]]) (Laying.empty hW.size) hW.size (by decide) zAs (zAh W 6) (zAt []) Tryz.func91 (fn:=Tryz.f91) (c:=zAd Tryz.f91) (by kernel_rfl) (by kernel_rfl) (by decide) (fun _ _ h=>yA0 h) (fun a=>⟨rfl,(by kernel_rfl)⟩) fun a cs h=>⟨fun v hv=>by
  cases h
  obtain⟨x,_,rfl⟩:=List.mem_map.1 hv
  rfl,yU3 a cs h⟩
end Go.Proofs.YtfnacgojmdbjmaaGreatDoor
end

/- Texts of a proof, joined: words of the print (those that are named here) and printed functions. -/
import Derived.Below
import Derived.Deep.Draws
import Derived.Deep.AppendLies
import Derived.Maps.AppendAt
import Derived.OwnWalk
import Derived.Laws.BytesArg
import Derived.Laws.MakeOwn
import Derived.Laws.OwnMore
import Derived.Deep.OwnRows
import Derived.Tactics
import Derived.Lib.ConvBytes
import Derived.Laws.Slices
import Derived.WalkKit
import Derived.KernelRfl
import Derived.RowKit3
import Derived.Deep.LoopGhost
import Derived.Deep.QuietTactic
import Derived.BigQuiet
import Derived.WideLaws
import Derived.Deep.DeepCutAuto
import Derived.Deep.CutBlock
import Derived.Deep.RegionHeld3
import Derived.Laws.Rows
import Derived.Lib.AppendStr
import Derived.ArgAppend
import Derived.Laws.IdiomCopy
import Derived.RowKit
import Derived.OrdersHeld
import Derived.Laws.BitsLemmas
import Derived.Test.YtfnacgojmdbjmaaGreatDoorQkm2
import Derived.Laws.StructEq
import Derived.Test.YtfnacgojmdbjmaaGreatDoorProg
set_option linter.unusedSimpArgs false
set_option linter.unusedVariables false
set_option maxRecDepth 100000
set_option maxHeartbeats 8000000
noncomputable section
section
section
namespace Go.Proofs.ZW
open Go.RowKit
structure Aside0 (p:Prop):Prop where mk::(out:p)
structure Drawn0 (w w':World):Prop where mk::(out:∃ n,w'=w.drewN n)
theorem Drawn0.refl (w:World):Drawn0 w w:=⟨⟨0,rfl⟩⟩
theorem Drawn0.step {w w':World}(h:Drawn0 w w')(n:Nat):Drawn0 w (w'.drewN n):=by
 obtain⟨m,rfl⟩:=h
 exact⟨⟨m+n,World.drewN_drewN ..⟩⟩
theorem Drawn0.below {w w':World}(h:Drawn0 w w'):Below w.heap.size w w':=by
 obtain⟨n,rfl⟩:=h
 induction n with
 |zero=>exact Below.refl _ _
 |succ n ih=>rw[← World.drew_drewN];exact ih.drew
def rd (xs:List Int)(i:Int):Int:=xs.getD i.toNat 0
theorem zBf {w W:World}(h:Below w.heap.size w W)(o:Obj):Below w.heap.size w (W.alloc o):=h.alloc h.size o
theorem zPl {B:Nat}{w W:World}(h:Below B w W):Below B w W.drew:=⟨h.os,h.tape,h.output,h.size,h.block⟩
theorem zA9 {B:Nat}{w W:World}(h:Below B w W)(n:Nat):Below B w (W.drewN n):=⟨h.os,h.tape,h.output,h.size,h.block⟩
theorem zZk {B:Nat}{w w1 w2:World}(h:Below B w w1)(hB:B≤w1.heap.size)(k:Below w1.heap.size w1 w2):Below B w w2:=
 h.trans ⟨k.os,k.tape,k.output,k.size,fun i hi=>k.block i (xHd hi hB)⟩
theorem zQ3 {w w1:World}(h:Below w.heap.size w w1){a:Addr}{v:Value}(hc:w.cell? a=some v):w1.cell? a=some v:=(h.cell (World.block_lt_of_cell? w a hc)).trans hc
def ReadsInt (w:World)(k:IntKind)(A:Option Addr)(n:Nat)(xs:List Int):Prop:=
 xs.length=n∧n≤9223372036854775807∧(0 < n→∃ ad,A=some ad∧∀ j,j < n→w.cell? (ad.add j)=some (.int k (xs.getD j 0)))
theorem ReadsInt.at_ {w:World}{k:IntKind}{A:Option Addr}{n:Nat}{xs:List Int}(h:ReadsInt w k A n xs)(i:Int)(h0:0≤i)(h1:i < n):∃ ad,A=some ad∧w.cell? (ad.add i.toNat)=some (.int k (rd xs i)):=by
 obtain⟨ad,e,hc⟩:=h.2.2 (by omega)
 exact⟨ad,e,hc _ (by omega)⟩
theorem yK4 (W:World)(base:Nat)(e:TypeId)(size:Nat):W.ownsRow base e size (.slice none 0 0) 0 []:=⟨by simp,.inl ⟨rfl,rfl⟩⟩
theorem zLi {w:World}{base:Nat}{e:TypeId}{size n:Nat}{v:Value}{xs:List Value}(h:w.ownsRow base e size v n xs)(k:Nat)(hk:v.ownBlock=some k):base≤k:=by
 rcases h.2 with⟨rfl,_⟩|⟨g,cap,cur,rfl,hb,_⟩
 ·simp[Value.ownBlock] at hk
 ·have:g=k:=by simpa [Value.ownBlock] using hk
  omega
theorem yJh {w:World}{base:Nat}{e:TypeId}{size n:Nat}{v:Value}{xs:List Value}(h:w.ownsRow base e size v n xs)(k:Nat)(hk:v.ownBlock=some k):k < w.heap.size:=by
 rcases h.2 with⟨rfl,_⟩|⟨g,cap,cur,rfl,hb,hh,_⟩
 ·simp[Value.ownBlock] at hk
 ·have:g=k:=by simpa [Value.ownBlock] using hk
  subst this
  exact(Array.getElem?_eq_some_iff.1 hh).1
section
variable {P:Program} {ops:Array Oper} {rest:List Oper} {o:Oper} {a:Act} {Q:Exit→Act→World→Prop}
end
section
variable {P:Program}
end
section
variable {P:Program} {ops:Array Oper} {rest:List Oper} {o:Oper} {a:Act} {Q:Exit→Act→World→Prop}
end
def LeO {α:Type}(a b:Option α):Prop:=∀ r,a=some r→b=some r
theorem LeO.refl {α:Type}(a:Option α):LeO a a:=fun _ h=>h
theorem LeO.ite {α:Type}{c:Prop}[Decidable c]{a a' b b':Option α}(h:LeO a a')(k:LeO b b'):LeO (if c then a else b) (if c then a' else b'):=by
 split
 ·exact h
 ·exact k
theorem LeO.bind {α β:Type}{a a':Option α}{f f':α→Option β}(h:LeO a a')(k:∀ x,LeO (f x) (f' x)):LeO (a.bind f) (a'.bind f'):=by
 intro r hr
 obtain⟨x,hx,hf⟩:=xGs.1 hr
 exact xGs.2 ⟨x,h x hx,k x r hf⟩
def Reps {α:Type}(R:α→List Value→Prop)(size:Nat)(ps:List α)(cs:List Value):Prop:=
 cs.length=ps.length * size∧∀ j p,ps[j]?=some p→R p ((cs.drop (j * size)).take size)
theorem Reps.none {α:Type}(R:α→List Value→Prop)(size:Nat):Reps R size [] []:=⟨by simp,fun j p h=>by simp at h⟩
theorem Reps.snoc {α:Type}{R:α→List Value→Prop}{size:Nat}{ps:List α}{cs c:List Value}{p:α}(h:Reps R size ps cs)(hp:R p c)(hc:c.length=size):Reps R size (ps++[p]) (cs++c):=by
 refine⟨by rw[xG8,h.1,hc,xG8,xHv,Nat.add_mul,Nat.one_mul],fun j q hq=>?_⟩
 rcases xHr j ps.length with hj|hj
 ·rw[xH9 hj] at hq
  have h1:j * size+size≤cs.length:=by rw[h.1,← Nat.succ_mul];exact xIn _ hj
  have h2:=h.2 j q hq
  rw[List.drop_append_of_le_length (by omega),xIw (by rw[xHt];omega)]
  exact h2
 ·have hj':j=ps.length:=by
   have:=(xHu.1 hq).1
   rw[xG8,xHv] at this
   omega
  subst hj'
  have hq':p=q:=by simpa using hq
  subst hq'
  rw[← h.1,List.drop_left,← hc,List.take_length]
  exact hp
theorem Reps.imp_ {α:Type}{R R':α→List Value→Prop}{size:Nat}{ps:List α}{cs:List Value}(h:Reps R size ps cs)(hR:∀ p c,R p c→R' p c):Reps R' size ps cs:=⟨h.1,fun j p hj=>hR _ _ (h.2 j p hj)⟩
def ReadsRow {α:Type}(R:α→List Value→Prop)(size:Nat)(w:World)(A:Option Addr)(n:Nat)(ps:List α):Prop:=
 ps.length=n∧n≤9223372036854775807∧(0 < n→∃ ad,A=some ad∧∀ j p,ps[j]?=some p→∃ c,c.length=size∧R p c∧∀ i u,c[i]?=some u→w.cell? (ad.add (j * size+i))=some u)
theorem ReadsRow.imp_ {α:Type}{R R':α→List Value→Prop}{size:Nat}{w w1:World}{A:Option Addr}{n:Nat}{ps:List α}(h:ReadsRow R size w A n ps)(hb:Below w.heap.size w w1)(hR:∀ p c,R p c→R' p c):ReadsRow R' size w1 A n ps:=
 ⟨h.1,h.2.1,fun hn=>by
  obtain⟨ad,e,hc⟩:=h.2.2 hn
  refine⟨ad,e,fun j p hj=>?_⟩
  obtain⟨c,hs,hr,hcell⟩:=hc j p hj
  exact⟨c,hs,hR _ _ hr,fun i u hu=>zQ3 hb (hcell i u hu)⟩⟩
theorem zQ4 {α:Type}{R:α→List Value→Prop}{w:World}{base n size:Nat}{e:TypeId}{v:Value}{ps:List α}{cs:List Value}(h:w.ownsRow base e size v n cs)(hR:Reps R size ps cs)(hn:ps.length=n):
  ∃ A c,v=.slice A n c∧ReadsRow R size w A n ps:=by
 rcases Nat.eq_zero_or_pos n with h0|h0
 ·rcases h.2 with⟨rfl,rfl⟩|⟨g,cap,cur,rfl,_⟩
  ·exact⟨none,0,rfl,hn,by omega,fun hp=>absurd hp (by omega)⟩
  ·exact⟨_,cap,rfl,hn,by omega,fun hp=>absurd hp (by omega)⟩
 ·obtain⟨g,cap,rfl,_,_⟩:=h.form h0
  have hm:n≤9223372036854775807:=by
   rcases h.2 with⟨_,h1⟩|⟨g',cap',cur,he,_,_,h1,h2,_⟩
   ·omega
   ·simp only[maxLen] at h2
    omega
  refine⟨_,cap,rfl,hn,hm,fun _=>⟨_,rfl,fun j p hj=>⟨(cs.drop (j * size)).take size,?_,hR.2 j p hj,fun i u hu=>?_⟩⟩⟩
  ·have hjl:=(xHu.1 hj).1
   have h1:j * size+size≤cs.length:=by rw[hR.1,← Nat.succ_mul];exact xIn _ hjl
   rw[xHn,xHt]
   omega
  ·refine h.cells (g:=g) rfl _ u ?_
   rw[xIh] at hu
   split at hu
   ·rw[xH6] at hu
    exact hu
   ·cases hu
section
variable {P:Program} {ops:Array Oper} {rest:List Oper} {o:Oper} {a:Act} {Q:Exit→Act→World→Prop}
theorem zJd {w0 W:World}(base:Nat)(hgd:o.guard=none)(s x:Operand)(t e:TypeId)(z:Value)(size bytes:Nat)
  (ho:o.op=.call { callee:=.builtin .append,args:=#[s,x],argTypes:=#[t,t] })
  (ht:P.underlying t=some (.slice e)) (hinfo:(P.info? e).map (fun i=>(i.zero,i.size,i.bytes))=some (some z,size,bytes)) (hz:z.cells.size=size) (hs0:0 < size) (hb0:0 < bytes)
  (v:Value) (n:Nat) (xs ys:List Value) (hs:a.eval s=v) (hx:a.eval x=.slice (some ⟨W.heap.size,0,none⟩) 1 1) (hys:ys.length=size) (h1:∀ u∈ys,u.oneCell'=true)
  (HO:W.ownsRow base e size v n xs) (HB:Below base w0 W) (hbase:base≤W.heap.size) (hl:(n+1) * bytes≤140737488355328)
  (h:∀ v1 w1,w1.ownsRow base e size v1 (n+1) (xs++ys)→Below base w0 w1→W.grownBy w1 v.ownBlock→(v1.ownBlock=v.ownBlock∨∃ b,v1.ownBlock=some b∧W.heap.size≤b)→wpList P ops Q rest (a.put o.dst v1) w1):
  wpList P ops Q (o::rest) a (W.alloc (.cells ys.toArray e)):=by
 obtain⟨i0,hi,hzz⟩:=Option.map_eq_some_iff.1 hinfo
 simp only[xG5] at hzz
 obtain⟨hz0,hz1,hz2⟩:=hzz
 have hlen:n+1≤140737488355328:=xHf (Nat.le_mul_of_pos_right _ hb0) hl
 refine wpList_append_own_at (W.alloc (.cells ys.toArray e)) hgd s x t ho base e i0 z size bytes ht hi hz0 hz1 hz2 hz hs0 v n xs hs (HO.alloc _) ⟨W.heap.size,0,none⟩ 1 1 ys hx (by rw[hys];simp)
  (by simpa using World.news_of_block (cs:=ys.toArray) (t:=e) (fr:=(0,0)) (heap_alloc_new W (.cells ys.toArray e))) h1 (by simp only[maxLen];omega) hl (by simp;omega) ?_
 intro v1 w1 hown hg _ hat
 refine h v1 w1 hown ((HB.alloc hbase _).grown hg (by simp;omega) (zLi HO)) (World.grownBy.trans (World.grownBy_alloc W _ _) hg) ?_
 rcases hat with hat|hat
 ·exact .inl hat
 ·exact .inr ⟨_,hat,by simp⟩
end
theorem yK5 {w:World}{g:Nat}{t:TypeId}{cs:Array Value}(h:w.heap[g]?=some (.cells cs t (0,0)))(i:Nat)(u:Value):(w.setCell ⟨g,i,none⟩ u).heap[g]?=some (.cells (cs.setIfInBounds i u) t (0,0)):=by
 simp[World.setCell,Array.getElem?_modify,h]
theorem zHe {w:World}{g:Nat}{t:TypeId}{cs:Array Value}(h:w.heap[g]?=some (.cells cs t (0,0))){p:Addr}(hp:g≠p.block)(u:Value):(w.setCell p u).heap[g]?=some (.cells cs t (0,0)):=(Below.heap_setCell w p u g hp).trans h
theorem zPm {w:World}{g:Nat}{o:Obj}(h:w.heap[g]?=some o):g < w.heap.size:=(Array.getElem?_eq_some_iff.1 h).1
theorem zAj {w:World}{g:Nat}{t:TypeId}{cs:Array Value}(h:w.heap[g]?=some (.cells cs t (0,0)))(i:Nat):w.cell? ⟨g,i,none⟩=cs[i]?:=cell_of_row w g i cs t (0,0) h
theorem zAc {w:World}{g:Nat}{t:TypeId}{cs:Array Value}(h:w.heap[g]?=some (.cells cs t (0,0)))(i:Nat):w.frozen? ⟨g,i,none⟩=false:=by simp[World.frozen?,h]
def KeepBut (w w':World)(g:Nat)(row:Option Nat):Prop:=w.heap.size≤w'.heap.size∧∀ i,i < w.heap.size→i≠g→some i≠row→w'.heap[i]?=w.heap[i]?
theorem KeepBut.trans {w w1 w2:World}{g:Nat}{row row1:Option Nat}(h:KeepBut w w1 g row)(k:KeepBut w1 w2 g row1)(hr:row1=row∨∃ b,row1=some b∧w.heap.size≤b):KeepBut w w2 g row:=
 ⟨xHf h.1 k.1,fun i hi hg hn=>by
  refine(k.2 i (xHd hi h.1) hg ?_).trans (h.2 i hi hg hn)
  rcases hr with rfl|⟨b,rfl,hb⟩
  ·exact hn
  ·intro e
   injection e with e
   omega⟩
section
variable {P:Program} {ops:Array Oper} {o:Oper} {a:Act} {Q:Exit→Act→World→Prop} {K:Act→World→Prop}
end
theorem zZl {w:World}{base base':Nat}{e:TypeId}{size n:Nat}{v:Value}{xs:List Value}(h:w.ownsRow base e size v n xs)(hb:base'≤base):w.ownsRow base' e size v n xs:=by
 obtain⟨h1,h2⟩:=h
 refine⟨h1,?_⟩
 rcases h2 with h2|⟨g,cap,cur,rfl,hg,r⟩
 ·exact .inl h2
 ·exact .inr ⟨g,cap,cur,rfl,xHf hb hg,r⟩
section
variable {α:Type} {enc:α→Value} {d:α}
def zCl (d:α)(xs:List α)(i:Int):α:=xs.getD i.toNat d
def ReadsOf (enc:α→Value)(d:α)(w:World)(A:Option Addr)(n:Nat)(xs:List α):Prop:=
 xs.length=n∧n≤9223372036854775807∧(0 < n→∃ ad,A=some ad∧∀ j,j < n→w.cell? (ad.add j)=some (enc (xs.getD j d)))
theorem ReadsOf.at_ {w:World}{A:Option Addr}{n:Nat}{xs:List α}(h:ReadsOf enc d w A n xs)(i:Int)(h0:0≤i)(h1:i < n):∃ ad,A=some ad∧w.cell? (ad.add i.toNat)=some (enc (zCl d xs i)):=by
 obtain⟨ad,e,hc⟩:=h.2.2 (by omega)
 exact⟨ad,e,hc _ (by omega)⟩
end
section
variable {α:Type} {P:Program} {ops:Array Oper} {rest:List Oper} {o:Oper} {a:Act} {Q:Exit→Act→World→Prop}
end
theorem zAm {w:World}{g:Nat}{o:Obj}(h:w.heap[g]?=some o)(o':Obj):(w.alloc o').heap[g]?=some o:=(Below.heap_alloc w o' g (zPm h)).trans h
theorem zAt {w:World}{g:Nat}{o:Obj}(h:w.heap[g]?=some o):w.drew.heap[g]?=some o:=h
theorem zAn {w:World}{g:Nat}{o:Obj}(h:w.heap[g]?=some o)(n:Nat):(w.drewN n).heap[g]?=some o:=h
theorem zBz {w w1:World}{g:Nat}{o:Obj}(h:w.heap[g]?=some o)(hb:Below w.heap.size w w1):w1.heap[g]?=some o:=(hb.block g (zPm h)).trans h
theorem yK6 (w:World)(o:Obj):(w.alloc o).heap[w.heap.size]?=some o:=heap_alloc_new w o
section
variable {P:Program}
end
theorem yRw {w:World}{base n m c size:Nat}{e:TypeId}{A:Option Addr}{xs:List Value}(h:w.ownsRow base e size (.slice A m c) n xs):m≤c:=by
 rcases h.2 with⟨he,_⟩|⟨g,cap,cur,he,_,_,hnc,_⟩
 ·injection he with _ h2 h3
  omega
 ·injection he with _ h2 h3
  omega
def OwnRow {α:Type}(R:α→List Value→Prop)(e:TypeId)(size:Nat)(w:World)(base:Nat)(v:Value)(ps:List α):Prop:=
 ∃ inner,w.ownsRow base e size v ps.length inner∧Reps R size ps inner
section
variable {α:Type} {R R':α→List Value→Prop} {e:TypeId} {size:Nat} {w w1:World} {base:Nat} {v:Value} {ps:List α}
theorem OwnRow.none_ (R:α→List Value→Prop)(e:TypeId)(size:Nat)(w:World)(base:Nat):OwnRow R e size w base (.slice none 0 0) []:=⟨[],yK4 _ _ _ _,Reps.none _ _⟩
theorem OwnRow.imp_ (h:OwnRow R e size w base v ps)(hR:∀ p c,R p c→R' p c):OwnRow R' e size w base v ps:=by
 obtain⟨inner,ho,hr⟩:=h
 exact⟨inner,ho,hr.imp_ hR⟩
theorem OwnRow.reads (h:OwnRow R e size w base v ps):∃ A c,v=.slice A ps.length c∧ps.length≤c∧ReadsRow R size w A ps.length ps:=by
 obtain⟨inner,ho,hr⟩:=h
 obtain⟨A,c,rfl,hrow⟩:=zQ4 ho hr rfl
 exact⟨A,c,rfl,yRw ho,hrow⟩
theorem OwnRow.lit (W:World)(base:Nat){inner:List Value}(hr:Reps R size ps inner)(hb:base≤W.heap.size)(hm:ps.length≤9223372036854775807):
  OwnRow R e size (W.alloc (.cells inner.toArray e)) base (.slice (some ⟨W.heap.size,0,none⟩) ps.length ps.length) ps:=by
 have h:=World.ownsRow_lit (base:=base) (e:=e) (size:=size) W inner.toArray ps.length hb (by simpa [maxLen] using hm) (by simpa using hr.1)
 exact⟨inner,by simpa using h,hr⟩
end
section
variable {P:Program} {ops:Array Oper} {rest:List Oper} {o:Oper} {a:Act} {Q:Exit→Act→World→Prop} {α:Type} {R:α→List Value→Prop}
end
section
variable {P:Program} {ops:Array Oper} {o:Oper} {a:Act} {Q:Exit→Act→World→Prop} {K:Act→World→Prop} {α:Type} {R:α→List Value→Prop}
end
section
variable {α:Type} {P:Program}
end
section
variable {P:Program} {ops:Array Oper} {rest:List Oper} {o:Oper} {a:Act} {Q:Exit→Act→World→Prop}
end
structure Kd (α:Type) where
 sz:Nat
 E:List Nat
 K:World→α→List Value→Prop
 M:World→Nat→(Nat→Prop)→α→List Value→Prop
 K_len:∀ {w x cs},K w x cs→cs.length=sz
 K_one:∀ {w x cs},K w x cs→∀ u∈cs,u.oneCell'=true
 K_below:∀ {w w1:World} {x cs},Below w.heap.size w w1→K w x cs→K w1 x cs
 K_of_M:∀ {w base ok x cs},M w base ok x cs→K w x cs
 M_mono:∀ {w base ok ok' x cs},(∀ k,ok k→ok' k)→M w base ok x cs→M w base ok' x cs
 M_bound:∀ {w:World} {base ok x cs},M w base ok x cs→M w base (fun k=>ok k∧base≤k∧k < w.heap.size∧∃ q,q∈E∧∃ cells,w.heap[k]?=some (.cells cells q (0,0))) x cs
 M_move:∀ {w w1:World} {base ok x cs},(∀ k,ok k→w1.heap[k]?=w.heap[k]?)→M w base ok x cs→M w1 base ok x cs
 M_lower:∀ {w base base' ok x cs},base'≤base→M w base ok x cs→M w base' ok x cs
theorem yHc {w w1:World}{base:Nat}{e:TypeId}{size n:Nat}{v:Value}{xs:List Value}(h:w.ownsRow base e size v n xs)(hm:∀ k,v.ownBlock=some k→w1.heap[k]?=w.heap[k]?):w1.ownsRow base e size v n xs:=by
 obtain⟨h1,h2⟩:=h
 refine⟨h1,?_⟩
 rcases h2 with h2|⟨g,cap,cur,rfl,hg,hh,r⟩
 ·exact .inl h2
 ·exact .inr ⟨g,cap,cur,rfl,hg,(hm g (by simp[Value.ownBlock])).trans hh,r⟩
theorem zTk {w:World}{base:Nat}{e:TypeId}{size n:Nat}{v:Value}{xs:List Value}(h:w.ownsRow base e size v n xs)(k:Nat)(hk:v.ownBlock=some k):∃ cells,w.heap[k]?=some (.cells cells e (0,0)):=by
 rcases h.2 with⟨rfl,_⟩|⟨g,cap,cur,rfl,hg,hh,r⟩
 ·simp[Value.ownBlock] at hk
 ·have:g=k:=by simpa [Value.ownBlock] using hk
  subst this
  exact⟨cur,hh⟩
namespace Kd
def C {α:Type}(d:Kd α)(w:World)(A:Option Addr)(n:Nat)(xs:List α):Prop:=ReadsRow (d.K w) d.sz w A n xs
def R {α:Type}(d:Kd α)(e:Nat)(w:World)(base:Nat)(ok:Nat→Prop)(v:Value)(xs:List α):Prop:=
 (∀ k,v.ownBlock=some k→ok k)∧OwnRow (d.M w base (fun k=>ok k∧some k≠v.ownBlock)) e d.sz w base v xs
section
variable {α:Type} {d:Kd α} {e:Nat} {w w1:World} {base:Nat} {ok ok':Nat→Prop} {v:Value} {xs:List α}
theorem zQ5 {A:Option Addr}{n:Nat}(h:d.C w A n xs)(hb:Below w.heap.size w w1):d.C w1 A n xs:=ReadsRow.imp_ h hb (fun _ _ hp=>d.K_below hb hp)
theorem R_nil (d:Kd α)(e:Nat)(w:World)(base:Nat)(ok:Nat→Prop):d.R e w base ok (.slice none 0 0) []:=⟨fun k hk=>by simp[Value.ownBlock] at hk,OwnRow.none_ _ _ _ _ _⟩
theorem R_mono (h:d.R e w base ok v xs)(hok:∀ k,ok k→ok' k):d.R e w base ok' v xs:=⟨fun k hk=>hok k (h.1 k hk),h.2.imp_ (fun _ _ hp=>d.M_mono (fun k hk=>⟨hok k hk.1,hk.2⟩) hp)⟩
theorem zJ9 (h:d.R e w base ok v xs):d.R e w base (fun k=>ok k∧base≤k∧k < w.heap.size∧∃ q,q∈e::d.E∧∃ cells,w.heap[k]?=some (.cells cells q (0,0))) v xs:=by
 obtain⟨h0,inner,ho,hr⟩:=h
 refine⟨fun k hk=>?_,inner,ho,hr.imp_ (fun _ _ hp=>d.M_mono (fun k hk=>?_) (d.M_bound hp))⟩
 ·obtain⟨cells,hc⟩:=zTk ho k hk
  exact⟨h0 k hk,zLi ho k hk,yJh ho k hk,e,xH1,cells,hc⟩
 ·obtain⟨⟨h1,h2⟩,h3,h4,q,hq,hc⟩:=hk
  exact⟨⟨h1,h3,h4,q,xIg _ hq,hc⟩,h2⟩
theorem zTl (h:d.R e w base ok v xs)(hm:∀ k,ok k→w1.heap[k]?=w.heap[k]?):d.R e w1 base ok v xs:=by
 obtain⟨h0,inner,ho,hr⟩:=h
 exact⟨h0,inner,yHc ho (fun k hk=>hm k (h0 k hk)),hr.imp_ (fun _ _ hp=>d.M_move (fun k hk=>hm k hk.1) hp)⟩
theorem R_lower {base':Nat}(h:d.R e w base ok v xs)(hb:base'≤base):d.R e w base' ok v xs:=by
 obtain⟨h0,inner,ho,hr⟩:=h
 exact⟨h0,inner,zZl ho hb,hr.imp_ (fun _ _ hp=>d.M_lower hb hp)⟩
theorem yRx (h:d.R e w base ok v xs)(hm:∀ k,ok k→k < w.heap.size→w1.heap[k]?=w.heap[k]?):d.R e w1 base ok v xs:=
 R_mono (zTl (zJ9 h) (fun k hk=>hm k hk.1 hk.2.2.1)) (fun _ hk=>hk.1)
theorem yJi {x:α}{cs:List Value}(h:d.M w base ok x cs)(hm:∀ k,ok k→k < w.heap.size→w1.heap[k]?=w.heap[k]?):d.M w1 base ok x cs:=
 d.M_mono (fun _ hk=>hk.1) (d.M_move (fun k hk=>hm k hk.1 hk.2.2.1) (d.M_bound h))
theorem R_below (h:d.R e w base ok v xs)(hb:Below w.heap.size w w1):d.R e w1 base ok v xs:=yRx h (fun k _ hk=>hb.block k hk)
theorem zVj (h:d.R e w base ok v xs):∃ A c,v=.slice A xs.length c∧xs.length≤c∧d.C w A xs.length xs:=by
 obtain⟨A,c,he,hl,hr⟩:=OwnRow.reads h.2
 exact⟨A,c,he,hl,hr.imp_ (Below.refl _ _) (fun _ _ hp=>d.K_of_M hp)⟩
theorem R_slice (h:d.R e w base ok v xs):∃ A c,v=.slice A xs.length c:=by
 obtain⟨A,c,he,_⟩:=zVj h
 exact⟨A,c,he⟩
theorem yK7 (h:d.R e w base ok v xs):∃ inner,w.ownsRow base e d.sz v xs.length inner:=by
 obtain⟨_,inner,ho,_⟩:=h
 exact⟨inner,ho⟩
end
def scalar {α:Type}(enc:α→Value)(h1:∀ x,(enc x).oneCell'=true):Kd α where
 sz:=1
 E:=[]
 K:=fun _ x cs=>cs=[enc x]
 M:=fun _ _ _ x cs=>cs=[enc x]
 K_len:=fun h=>by rw[h];rfl
 K_one:=fun h u hu=>by
  rw[h] at hu
  rw[xHs.1 hu]
  exact h1 _
 K_below:=fun _ h=>h
 K_of_M:=fun h=>h
 M_mono:=fun _ h=>h
 M_bound:=fun h=>h
 M_move:=fun _ h=>h
 M_lower:=fun _ h=>h
def int (k:IntKind):Kd Int:=scalar (Value.int k) (fun _=>rfl)
def bool:Kd Bool:=scalar Value.bool (fun _=>rfl)
def string:Kd ByteArray:=scalar Value.string (fun _=>rfl)
def slice {α:Type}(e:Nat)(d:Kd α):Kd (List α) where
 sz:=1
 E:=e::d.E
 K:=fun w xs cs=>∃ A c,cs=[.slice A xs.length c]∧xs.length≤c∧d.C w A xs.length xs
 M:=fun w base ok xs cs=>∃ v,cs=[v]∧d.R e w base ok v xs
 K_len:=by
  rintro w x cs ⟨A,c,rfl,_⟩
  rfl
 K_one:=by
  rintro w x cs ⟨A,c,rfl,_⟩ u hu
  rw[xHs.1 hu]
  rfl
 K_below:=by
  rintro w w1 x cs hb ⟨A,c,rfl,hl,hr⟩
  exact⟨A,c,rfl,hl,zQ5 hr hb⟩
 K_of_M:=by
  rintro w base ok x cs ⟨v,rfl,h⟩
  obtain⟨A,c,rfl,hl,hr⟩:=zVj h
  exact⟨A,c,rfl,hl,hr⟩
 M_mono:=by
  rintro w base ok ok' x cs hok ⟨v,rfl,h⟩
  exact⟨v,rfl,R_mono h hok⟩
 M_bound:=by
  rintro w base ok x cs ⟨v,rfl,h⟩
  exact⟨v,rfl,zJ9 h⟩
 M_move:=by
  rintro w w1 base ok x cs hm ⟨v,rfl,h⟩
  exact⟨v,rfl,zTl h hm⟩
 M_lower:=by
  rintro w base base' ok x cs hb ⟨v,rfl,h⟩
  exact⟨v,rfl,R_lower h hb⟩
def bot {α:Type}(sz:Nat)(E:List Nat):Kd α where
 sz:=sz
 E:=E
 K:=fun _ _ _=>False
 M:=fun _ _ _ _ _=>False
 K_len:=fun h=>h.elim
 K_one:=fun h=>h.elim
 K_below:=fun _ h=>h
 K_of_M:=fun h=>h
 M_mono:=fun _ h=>h
 M_bound:=fun h=>h
 M_move:=fun _ h=>h
 M_lower:=fun _ h=>h
def yHd {α:Type}(F:Kd α→Kd α)(sz:Nat)(E:List Nat):Nat→Kd α
 |0=>bot sz E
 |n+1=>F (yHd F sz E n)
theorem zZm {α:Type}{d:Kd α}{e base:Nat}{ok okp:Nat→Prop}{W w1:World}{v v1:Value}{xs:List α}{p:α}{inner cs:List Value}(h0:∀ k,v.ownBlock=some k→ok k)(hr:Reps (d.M W base (fun k=>ok k∧some k≠v.ownBlock)) d.sz xs inner)(hp:d.M W base okp p cs)(hokp:∀ k,okp k→ok k∧some k≠v.ownBlock)(hfresh:∀ k,W.heap.size≤k→ok k)
  (hown:w1.ownsRow base e d.sz v1 (xs.length+1) (inner++cs)) (hg:W.grownBy w1 v.ownBlock) (hat:v1.ownBlock=v.ownBlock∨∃ b,v1.ownBlock=some b∧W.heap.size≤b):d.R e w1 base ok v1 (xs++[p]):=by
 have hne:∀ k,some k≠v.ownBlock→k < W.heap.size→some k≠v1.ownBlock:=by
  intro k hk hlt
  rcases hat with hat|⟨b,hb,hle⟩
  ·rw[hat];exact hk
  ·rw[hb]
   intro he
   injection he with he
   omega
 have step:∀ {q:α} {c:List Value} {o:Nat→Prop},d.M W base o q c→(∀ k,o k→ok k∧some k≠v.ownBlock)→d.M w1 base (fun k=>ok k∧some k≠v1.ownBlock) q c:=by
  intro q c o hq ho
  have h1:=d.M_move (w1:=w1) (fun k hk=>hg.block k hk.2.2.1 (ho k hk.1).2) (d.M_bound hq)
  exact d.M_mono (fun k hk=>⟨(ho k hk.1).1,hne k (ho k hk.1).2 hk.2.2.1⟩) h1
 refine⟨fun k hk=>?_,inner++cs,by rw[xG8,xHv];exact hown,?_⟩
 ·rcases hat with hat|⟨b,hb,hle⟩
  ·exact h0 k (hat ▸ hk)
  ·rw[hb] at hk
   injection hk with hk
   exact hfresh k (by omega)
 ·exact(hr.imp_ (fun _ _ hq=>step hq (fun _ hk=>hk))).snoc (step hp hokp) (d.K_len (d.K_of_M hp))
section
variable {P:Program} {ops:Array Oper} {rest:List Oper} {o:Oper} {a:Act} {Q:Exit→Act→World→Prop} {α:Type}
theorem R_append (d:Kd α){w0 W:World}(base:Nat)(hgd:o.guard=none)(s x:Operand)(t e:TypeId)(z:Value)(bytes:Nat)
  (ho:o.op=.call { callee:=.builtin .append,args:=#[s,x],argTypes:=#[t,t] })
  (ht:P.underlying t=some (.slice e)) (hinfo:(P.info? e).map (fun i=>(i.zero,i.size,i.bytes))=some (some z,d.sz,bytes)) (hz:z.cells.size=d.sz) (hs0:0 < d.sz) (hb0:0 < bytes)
  (v:Value) (xs:List α) (p:α) (cs:List Value) (ok okp:Nat→Prop) (hs:a.eval s=v) (hx:a.eval x=.slice (some ⟨W.heap.size,0,none⟩) 1 1) (hp:d.M W base okp p cs) (hokp:∀ k,okp k→ok k∧some k≠v.ownBlock) (hfresh:∀ k,W.heap.size≤k→ok k)
  (HO:d.R e W base ok v xs) (HB:Below base w0 W) (hbase:base≤W.heap.size) (hl:(xs.length+1) * bytes≤140737488355328)
  (h:∀ v1 w1,d.R e w1 base ok v1 (xs++[p])→Below base w0 w1→W.grownBy w1 v.ownBlock→(v1.ownBlock=v.ownBlock∨∃ b,v1.ownBlock=some b∧W.heap.size≤b)→wpList P ops Q rest (a.put o.dst v1) w1):
  wpList P ops Q (o::rest) a (W.alloc (.cells cs.toArray e)):=by
 obtain⟨h0,inner,hown,hr⟩:=HO
 refine zJd base hgd s x t e z d.sz bytes ho ht hinfo hz hs0 hb0 v xs.length inner cs hs hx (d.K_len (d.K_of_M hp)) (d.K_one (d.K_of_M hp)) hown HB hbase hl ?_
 intro v1 w1 hown1 hb1 hg1 hat1
 exact h v1 w1 (zZm h0 hr hp hokp hfresh hown1 hg1 hat1) hb1 hg1 hat1
end
section
variable {P:Program} {ops:Array Oper} {o:Oper} {a:Act} {Q:Exit→Act→World→Prop} {Kc:Act→World→Prop} {α:Type}
end
end Kd
namespace Kd
section
variable {α:Type} {F:Kd α→Kd α} {sz:Nat} {E:List Nat} {hs:∀ n,(yHd F sz E n).sz=sz} {hE:∀ n q,q∈(yHd F sz E n).E→q∈E}
end
end Kd
namespace Kd
section
variable {α β:Type} {d:Kd α} {d':Kd β} {e e':Nat} {w w1 W:World} {base b b':Nat} {ok ok' okv oku:Nat→Prop} {v u:Value} {xs:List α} {ys:List β}
theorem R_alloc (h:d.R e w base ok v xs)(o:Obj):d.R e (w.alloc o) base ok v xs:=R_below h (zBf (Below.refl _ _) o)
theorem R_drew (h:d.R e w base ok v xs):d.R e w.drew base ok v xs:=R_below h (zPl (Below.refl _ _))
theorem R_drewN (h:d.R e w base ok v xs)(m:Nat):d.R e (w.drewN m) base ok v xs:=R_below h (zA9 (Below.refl _ _) m)
theorem yU5 (d:Kd α)(w:World):d.C w none ([]:List α).length []:=⟨rfl,by simp,fun h=>absurd h (Nat.lt_irrefl 0)⟩
theorem R_reads' {A:Option Addr}{n c:Nat}(h:d.R e w base ok (.slice A n c) xs):n=xs.length∧n≤c∧d.C w A xs.length xs:=by
 obtain⟨A',c',he,hl,hr⟩:=zVj h
 injection he with h1 h2 h3
 subst h1
 exact⟨h2,by omega,hr⟩
theorem R_lt (h:d.R e w base ok v xs):∀ k,v.ownBlock=some k→k < w.heap.size:=by
 obtain⟨inner,ho⟩:=yK7 h
 exact yJh ho
theorem R_base (h:d.R e w base ok v xs):∀ k,v.ownBlock=some k→base≤k:=by
 obtain⟨inner,ho⟩:=yK7 h
 exact zLi ho
end
section
variable {w W:World} {A:Option Addr} {n:Nat}
variable {α:Type} {enc:α→Value} {h1:∀ x,(enc x).oneCell'=true} {e base g cap:Nat} {ok:Nat→Prop} {xs:List α}
end
section
variable {P:Program} {ops:Array Oper} {rest:List Oper} {o:Oper} {a:Act} {Q:Exit→Act→World→Prop}
theorem event_run {W w1:World}{v:Value}(hgd:o.guard=none)(hrun:(execOp a.eval o).run P W=.ok (.value v) w1)(h:wpList P ops Q rest (a.put o.dst v) w1):wpList P ops Q (o::rest) a W:=by
 refine wpList_plain hgd fun K hK=>?_
 unfold Oper.wp
 rw[hrun]
 exact hK _ _ h
variable {α:Type}
end
end Kd
section
variable {P:Program}
end
def yX4 (w:World) (base:Nat) (e:TypeId) (size:Nat) (v:Value) (n:Nat) (xs:List Value):Prop:=
  xs.length=n * size∧
  ((n=0∧∃ A,v=.slice A 0 0∧∀ a,A=some a→base≤a.block∧∃ cur,w.heap[a.block]?=some (.cells cur e (0,0)))∨
   ∃ g off cap cur,v=.slice (some ⟨g,off * size,none⟩) n cap∧base≤g∧w.heap[g]?=some (.cells cur e (0,0))∧n≤cap∧off+cap≤maxLen∧cur.size=(off+cap) * size∧(cur.toList.drop (off * size)).take (n * size)=xs)
section
variable {w w1:World} {base n size:Nat} {e:TypeId} {v:Value} {xs:List Value}
theorem yHe (h:w.ownsRow base e size v n xs):yX4 w base e size v n xs:=by
 obtain⟨h1,h2⟩:=h
 refine⟨h1,?_⟩
 rcases h2 with⟨rfl,h0⟩|⟨g,cap,cur,rfl,hb,hh,hnc,hcm,hcs,ht⟩
 ·exact .inl ⟨h0,none,rfl,fun a ha=>by cases ha⟩
 ·exact .inr ⟨g,0,cap,cur,by rw[Nat.zero_mul],hb,hh,hnc,by rw[xIz];exact hcm,by rw[xIz];exact hcs,by rw[Nat.zero_mul,xIm];exact ht⟩
end
section
variable {P:Program}
end
namespace Kd
def Q {α:Type}(d:Kd α)(e:Nat)(w:World)(base:Nat)(ok:Nat→Prop)(v:Value)(xs:List α):Prop:=
 (∀ k,v.ownBlock=some k→ok k)∧∃ inner,yX4 w base e d.sz v xs.length inner∧Reps (d.M w base (fun k=>ok k∧some k≠v.ownBlock)) d.sz xs inner
section
variable {α:Type} {d:Kd α} {e:Nat} {w w1 W:World} {base:Nat} {ok ok':Nat→Prop} {v:Value} {xs:List α}
theorem yX5 (h:d.R e w base ok v xs):d.Q e w base ok v xs:=by
 obtain⟨h0,inner,ho,hr⟩:=h
 exact⟨h0,inner,yHe ho,hr⟩
end
section
variable {P:Program} {ops:Array Oper} {rest:List Oper} {o:Oper} {a:Act} {Q':Exit→Act→World→Prop} {Kc:Act→World→Prop} {α:Type}
end
end Kd
namespace Kd
section
variable {α:Type} {d:Kd α} {e e':Nat} {w w1 W:World} {base:Nat} {ok:Nat→Prop} {u v:Value} {xs:List α}
theorem R_elder' (hu:d.R e W base ok u xs)(hbase:∀ k,v.ownBlock=some k→W.heap.size≤k)(hb:Below W.heap.size W w1):d.R e w1 base (fun k=>ok k∧some k≠v.ownBlock) u xs:=
 R_mono (zTl (zJ9 hu) (fun k hk=>hb.block k hk.2.2.1)) (fun k hk=>⟨hk.1,fun he=>by have:=hbase k he.symm;have:=hk.2.2.1;omega⟩)
theorem R_new' (h:d.R e w1 W.heap.size ok v xs)(hlt:∀ k,u.ownBlock=some k→k < W.heap.size):d.R e w1 W.heap.size (fun k=>ok k∧some k≠u.ownBlock) v xs:=
 R_mono (zJ9 h) (fun k hk=>⟨hk.1,fun he=>by have:=hlt k he.symm;have:=hk.2.1;omega⟩)
end
end Kd
namespace Kd
section
variable {α:Type} {d:Kd α} {e base g n cap:Nat} {ok okp:Nat→Prop} {W:World} {xs:List α}
end
end Kd
namespace Kd
def yU6 {α:Type}(d:Kd α)(w0:World):Kd α where
 sz:=d.sz
 E:=[]
 K:=fun _ x cs=>d.K w0 x cs
 M:=fun _ _ _ x cs=>d.K w0 x cs
 K_len:=d.K_len
 K_one:=d.K_one
 K_below:=fun _ h=>h
 K_of_M:=fun h=>h
 M_mono:=fun _ h=>h
 M_bound:=fun h=>h
 M_move:=fun _ h=>h
 M_lower:=fun _ h=>h
def or_ {α:Type}(a b:Kd α)(h:b.sz=a.sz):Kd α where
 sz:=a.sz
 E:=a.E++b.E
 K:=fun w x cs=>a.K w x cs∨b.K w x cs
 M:=fun w base ok x cs=>a.M w base ok x cs∨b.M w base ok x cs
 K_len:=fun hk=>hk.elim a.K_len (fun hk=>(b.K_len hk).trans h)
 K_one:=fun hk=>hk.elim a.K_one b.K_one
 K_below:=fun hb hk=>hk.imp (a.K_below hb) (b.K_below hb)
 K_of_M:=fun hk=>hk.imp a.K_of_M b.K_of_M
 M_mono:=fun hok hk=>hk.imp (a.M_mono hok) (b.M_mono hok)
 M_bound:=fun hk=>hk.imp
  (fun hk=>a.M_mono (fun _ ⟨h1,h2,h3,q,hq,hc⟩=>⟨h1,h2,h3,q,List.mem_append_left _ hq,hc⟩) (a.M_bound hk))
  (fun hk=>b.M_mono (fun _ ⟨h1,h2,h3,q,hq,hc⟩=>⟨h1,h2,h3,q,List.mem_append_right _ hq,hc⟩) (b.M_bound hk))
 M_move:=fun hm hk=>hk.imp (a.M_move hm) (b.M_move hm)
 M_lower:=fun hb hk=>hk.imp (a.M_lower hb) (b.M_lower hb)
def mix {α:Type}(e:Nat)(d dm:Kd α)(w0:World):Kd (List α):=or_ (yU6 (slice e d) w0) (slice e dm) rfl
section
variable {α:Type} {F:Kd α→Kd α} {sz:Nat} {E:List Nat} {hs:∀ n,(yHd F sz E n).sz=sz} {hE:∀ n q,q∈(yHd F sz E n).E→q∈E}
end
end Kd
namespace Kd
section
variable {P:Program} {ops:Array Oper} {rest:List Oper} {o:Oper} {a:Act} {Q:Exit→Act→World→Prop} {α:Type}
end
end Kd
namespace Kd
section
variable {P:Program} {ops:Array Oper} {rest:List Oper} {o:Oper} {a:Act} {Q:Exit→Act→World→Prop} {α:Type}
end
end Kd
namespace Kd
section
variable {α:Type} {k:Kd α} {w:World} {A:Option Addr} {xs:List α} {m c:Nat}
end
end Kd
section
variable {P:Program}
end
theorem zAi {w W:World}(h:Below w.heap.size w W):w.heap.size≤W.heap.size:=h.size
theorem zAe {w W w2:World}(h:Below w.heap.size w W)(k:Below W.heap.size W w2):Below w.heap.size w w2:=zZk h h.size k
theorem zBm {w W:World}{g j:Nat}{v:Value}(h:Below w.heap.size w W)(hg:w.heap.size≤g):Below w.heap.size w (W.setCell ⟨g,j,none⟩ v):=h.setCell hg _
theorem zCc {w:World}{g:Nat}{t:TypeId}{cs cs':Array Value}(h:w.heap[g]?=some (.cells cs t (0,0)))(i:Nat)(u:Value)(e:cs.setIfInBounds i u=cs'):(w.setCell ⟨g,i,none⟩ u).heap[g]?=some (.cells cs' t (0,0)):=e ▸ yK5 h i u
theorem zB9 {base:Nat}{w W:World}(h:Below base w W):Below base w W.drew:=h.drew
namespace Kd
section
variable {α β:Type} {d:Kd α} {d':Kd β} {e e' base base' n:Nat} {ok ok':Nat→Prop} {w W w1 W1:World} {v u:Value} {xs:List α} {ys:List β} {A:Option Addr} {c:Nat}
end
section
variable {α:Type} {enc:α→Value} {h1:∀ x,(enc x).oneCell'=true} {w W:World} {A:Option Addr} {n g:Nat} {xs:List α}
end
end Kd
namespace Kd
section
variable {α:Type} {d:Kd α} {e base g:Nat} {ok:Nat→Prop} {w w1:World} {v:Value} {xs:List α} {o:Obj}
end
end Kd
section
variable {P:Program} {ops:Array Oper} {rest:List Oper} {o:Oper} {a:Act} {Q:Exit→Act→World→Prop}
theorem zCr {W:World}(hgd:o.guard=none){N:Tmp}(_hd:o.dst=some N){cs:Array Value}{t:TypeId}
  (hrun:(execOp a.eval o).run P W=.ok (.value (.pointer (some ⟨W.heap.size,0,none⟩))) (W.alloc (.cells cs t (0,0))))
  (h:∀ g,g=W.heap.size→∀ w1,w1.heap[g]?=some (.cells cs t (0,0))→Below W.heap.size W w1→wpList P ops Q rest (a.put o.dst (.pointer (some ⟨g,0,none⟩))) w1):wpList P ops Q (o::rest) a W:=
 Kd.event_run hgd hrun (h _ rfl _ (yK6 W _) (zBf (Below.refl _ _) _))
end
namespace Kd
section
variable {α:Type} {enc:α→Value} {h1:∀ x,(enc x).oneCell'=true} {e base g n cap:Nat} {ok:Nat→Prop} {W:World} {xs:List α}
end
end Kd
section
variable {P:Program} {ops:Array Oper} {rest:List Oper} {o:Oper} {a:Act} {Q:Exit→Act→World→Prop}
end
namespace Kd
section
variable {α:Type} {enc:α→Value} {h1:∀ x,(enc x).oneCell'=true} {e base g n cap:Nat} {ok:Nat→Prop} {W:World} {xs:List α}
end
end Kd
section
variable {P:Program} {ops:Array Oper} {rest:List Oper} {o:Oper} {a:Act} {Q:Exit→Act→World→Prop} {W:World}
theorem zBv {N:Tmp}(_hN:o.dst=some N)(h:wpList P ops Q (o::rest) a W):wpList P ops Q (o::rest) a W:=h
end
section
variable {P:Program} {ops:Array Oper} {o:Oper} {a:Act} {Q:Exit→Act→World→Prop} {Kc:Act→World→Prop}
namespace Kd
variable {α:Type}
end Kd
end
section
variable {P:Program} {tmps:Array Value} {w:World}
end
namespace Kd
section
variable {P:Program} {α:Type}
end
section
variable {P:Program} {ops:Array Oper} {rest:List Oper} {o:Oper} {a:Act} {Q:Exit→Act→World→Prop} {Kc:Act→World→Prop} {α:Type}
end
end Kd
end Go.Proofs.ZW
end
section
namespace Go.Proofs.ZL
section
variable {P:Program} {ops:Array Oper} {Q:Exit→Act→World→Prop} {md:Region.Mode} {S:World→Prop} {ds:List Nat}
end
section
variable {P:Program} {ops:Array Oper} {Q:Exit→Act→World→Prop} {md:Region.Mode} {S:World→Prop} {ds:List Nat}
theorem yK8 {f:FuncId}{fn:Func}(hf:P.funcs[f]?=some fn)(hname:(fn.name== "runtime.NumGoroutine")=false)(hb:fn.body.isSome=true)(args:Array Value)(w:World):(callFunc f args).run P w=.ok (.enter f args) w:=by
 have h1:fn.name≠ "runtime.NumGoroutine":=by simpa using hname
 obtain⟨c,hc⟩:=xI9.1 hb
 simp[callFunc,hf,h1,hc]
theorem zCj {rest:List Oper}{oi:Oper}{a:Act}{w:World}(N:Option Tmp)(hd:oi.dst=N)(hg:oi.guard=none){f:FuncId}{fn:Func}{aso:Array Operand}{ts:Array TypeId}(hf:P.funcs[f]?=some fn)(hname:(fn.name== "runtime.NumGoroutine")=false)(hb:fn.body.isSome=true)(args:Array Value)
  (hop:oi.op=.call { callee:=.value (.func f),args:=aso,argTypes:=ts }) (hargs:aso.map a.eval=args)
  (h:Calls P f args w fun e w'=>∃ v,e=.returned v∧wpList P ops Q rest (a.put N v) w'):wpList P ops Q (oi::rest) a w:=by
 refine wpList_plain hg fun K hK=>?_
 have he:=yK8 hf hname hb args w
 have hrun:(execOp a.eval oi).run P w=.ok (.enter f args) w:=by
  unfold execOp
  simp[hop,resolve,Deferred.ofValue,invoke,Act.eval,hargs,he]
 unfold Oper.wp
 rw[hrun,Oper.upon_enter]
 refine h.mono fun e w'' hh=>?_
 obtain⟨v,rfl,hk⟩:=hh
 subst hd
 exact hK _ _ hk
theorem zFy (n:Int):IntKind.i64.wrap n=Go.RowKit.wrap64 n:=by unfold Go.RowKit.wrap64;exact IntKind.wrap_i64 n
theorem zH0 (n:Int):IntKind.i32.wrap n=Go.RowKit.wrap32 n:=by unfold Go.RowKit.wrap32;exact IntKind.wrap_i32 n
end
end Go.Proofs.ZL
end
section
namespace Go.Proofs.ZW
open Go.RowKit
namespace Kd
section
variable {α:Type} {d:Kd α} {e base g o n cap:Nat} {ok okp:Nat→Prop} {w W:World} {v:Value} {xs:List α}
end
section
variable {α:Type} {enc:α→Value} {h1:∀ x,(enc x).oneCell'=true} {e base g o n cap:Nat} {ok:Nat→Prop} {W:World} {xs:List α}
end
end Kd
end Go.Proofs.ZW
end
section
namespace Go.Proofs.ZW
open Go.RowKit
namespace Kd
def raw (sz:Nat):Kd (List Value) where
 sz:=sz
 E:=[]
 K:=fun _ x cs=>cs=x∧cs.length=sz∧∀ u∈cs,u.oneCell'=true
 M:=fun _ _ _ x cs=>cs=x∧cs.length=sz∧∀ u∈cs,u.oneCell'=true
 K_len:=fun h=>h.2.1
 K_one:=fun h=>h.2.2
 K_below:=fun _ h=>h
 K_of_M:=fun h=>h
 M_mono:=fun _ h=>h
 M_bound:=fun h=>h
 M_move:=fun _ h=>h
 M_lower:=fun _ h=>h
section
variable {α β:Type} {d:Kd α} {d':Kd β} {e e':Nat} {w w1 W:World} {base b:Nat} {ok ok' okv oku:Nat→Prop} {u v:Value} {xs:List α} {ys:List β}
end
section
variable {α β:Type} {d:Kd α} {d':Kd β} {e e' g:Nat} {w w1 W:World} {base b:Nat} {ok ok' okv oku:Nat→Prop} {u v:Value} {xs:List α} {ys:List β}
end
section
open Classical in
variable {P:Program} {ops:Array Oper} {rest:List Oper} {o:Oper} {a:Act} {Q:Exit→Act→World→Prop} {Kc:Act→World→Prop} {α:Type}
end
def gap {α:Type}(f:Nat→Nat)(d:Kd α)(i:Nat)(c:List Value):Kd (α×Nat) where
 sz:=d.sz
 E:=d.E
 K:=fun w x cs=>(x.2=i→cs=c∧cs.length=d.sz∧∀ u∈cs,u.oneCell'=true)∧(x.2≠i→d.K w x.1 cs)
 M:=fun w base ok x cs=>(x.2=i→cs=c∧cs.length=d.sz∧∀ u∈cs,u.oneCell'=true)∧(x.2≠i→d.M w base (fun k=>ok k∧f k=x.2) x.1 cs)
 K_len:=fun {w x cs} h=>by
  by_cases hx:x.2=i
  ·exact(h.1 hx).2.1
  ·exact d.K_len (h.2 hx)
 K_one:=fun {w x cs} h=>by
  by_cases hx:x.2=i
  ·exact(h.1 hx).2.2
  ·exact d.K_one (h.2 hx)
 K_below:=fun hb h=>⟨h.1,fun hx=>d.K_below hb (h.2 hx)⟩
 K_of_M:=fun h=>⟨h.1,fun hx=>d.K_of_M (h.2 hx)⟩
 M_mono:=fun hok h=>⟨h.1,fun hx=>d.M_mono (fun k hk=>⟨hok k hk.1,hk.2⟩) (h.2 hx)⟩
 M_bound:=fun h=>⟨h.1,fun hx=>d.M_mono (fun _ hk=>⟨⟨hk.1.1,hk.2⟩,hk.1.2⟩) (d.M_bound (h.2 hx))⟩
 M_move:=fun hm h=>⟨h.1,fun hx=>d.M_move (fun k hk=>hm k hk.1) (h.2 hx)⟩
 M_lower:=fun hb h=>⟨h.1,fun hx=>d.M_lower hb (h.2 hx)⟩
def H {α:Type}(d:Kd α)(e:Nat)(w:World)(base:Nat)(ok:Nat→Prop)(v:Value)(xs:List α)(i:Int)(oki:Nat→Prop)(c:List Value):Prop:=
 (∀ k,oki k→ok k)∧∃ f,(gap f d i.toNat c).R e w base (fun k=>ok k∧¬ oki k) v xs.zipIdx
section
variable {α β:Type} {d:Kd α} {e e' g n cap:Nat} {w w1 W:World} {base:Nat} {ok ok' oki okp:Nat→Prop} {u v:Value} {xs:List α} {i:Int} {c:List Value}
open Classical in
end
section
variable {P:Program} {ops:Array Oper} {rest:List Oper} {o:Oper} {a:Act} {Q:Exit→Act→World→Prop} {α:Type}
end
end Kd
end Go.Proofs.ZW
end
section
namespace Go.Proofs.ZW
open Go.RowKit
namespace Kd
theorem yUa {α:Type}{R:α→List Value→Prop}{size:Nat}{ps:List α}{cs:List Value}(h:Reps R size ps cs)(hs0:0 < size)(hR:∀ p c,R p c→∀ u∈c,u.oneCell'=true):∀ u∈cs,u.oneCell'=true:=by
 intro u hu
 obtain⟨q,hq,rfl⟩:=List.mem_iff_getElem.1 hu
 have hql:q / size < ps.length:=by
  rw[Nat.div_lt_iff_lt_mul hs0,← h.1]
  exact hq
 refine hR _ _ (h.2 (q / size) _ (xGz hql)) _ ?_
 rw[List.mem_iff_getElem?]
 refine⟨q % size,?_⟩
 rw[xIh,xGq (Nat.mod_lt _ hs0),xH6,Nat.mul_comm,xId,xGz hq]
section
variable {α:Type} {n:Nat} {d:Kd α} {hs:0 < d.sz} {w:World} {base:Nat} {ok:Nat→Prop} {xs:List α} {cs:List Value}
end
section
variable {α:Type} {n:Nat} {enc:α→Value} {h1:∀ x,(enc x).oneCell'=true} {hs:0 < (scalar enc h1).sz} {w:World} {base:Nat} {ok:Nat→Prop} {xs:List α} {cs:List Value}
end
end Kd
end Go.Proofs.ZW
end
section
namespace Go.Proofs.ZW
open Go.RowKit
section
variable {P:Program}
end
namespace Kd
section
variable {P:Program} {ops:Array Oper} {rest:List Oper} {o:Oper} {a:Act} {Q:Exit→Act→World→Prop} {Kc:Act→World→Prop} {α:Type}
end
section
variable {α:Type} {d:Kd α} {e:Nat} {w:World} {base:Nat} {ok:Nat→Prop} {v:Value} {xs:List α}
end
section
variable {P:Program} {ops:Array Oper} {rest:List Oper} {o:Oper} {a:Act} {Q:Exit→Act→World→Prop} {Kc:Act→World→Prop} {α:Type}
end
end Kd
end Go.Proofs.ZW
end
section
namespace Go.Proofs.ZW
open Go.RowKit
namespace Kd
structure Heap {α:Type} (d:Kd α):Prop where
 K:∀ {w w1:World} {x:α} {cs:List Value},(∀ k,k < w.heap.size→w1.heap[k]?=w.heap[k]?)→d.K w x cs→d.K w1 x cs
section
variable {α:Type} {d:Kd α} {e base g n c:Nat} {ok:Nat→Prop} {w w0 W:World} {A:Option Addr} {xs:List α}
end
end Kd
end Go.Proofs.ZW
end
section
namespace Go.Proofs.ZW
open Go.RowKit
def yU7 (w W:World)(S:Nat→Prop):Prop:=w.heap.size≤W.heap.size∧∀ i,i < w.heap.size→¬ S i→W.heap[i]?=w.heap[i]?
section
variable {w W W2:World} {S S2 S':Nat→Prop}
end
namespace Kd
section
variable {α:Type} {d:Kd α} {e base n c:Nat} {ok oki S S2:Nat→Prop} {w w0 W W1 W2:World} {v:Value} {A:Option Addr} {xs:List α} {i:Int} {cs:List Value}
end
end Kd
end Go.Proofs.ZW
end
section
namespace Go.Proofs.ZW
open Go.RowKit
def zDz (P:World→Prop)(W:World)(ok:Nat→Prop):Prop:=∀ W':World,(∀ k,ok k→k < W.heap.size→W'.heap[k]?=W.heap[k]?)→P W'
theorem yK9 {W W1:World}{k:Nat}(h:W1.heap[k]?=W.heap[k]?)(hlt:k < W.heap.size):k < W1.heap.size:=by
 rw[xIf hlt] at h
 exact(Array.getElem?_eq_some_iff.1 h).1
namespace zDz
variable {P Q:World→Prop} {W W1:World} {ok ok':Nat→Prop}
theorem mono (h:zDz P W ok)(hok:∀ k,ok k→ok' k):zDz P W ok':=fun W' hW=>h W' (fun k hk hlt=>hW k (hok k hk) hlt)
theorem bound (h:zDz P W ok):zDz P W (fun k=>ok k∧k < W.heap.size):=fun W' hW=>h W' (fun k hk hlt=>hW k ⟨hk,hlt⟩ hlt)
theorem step (h:zDz P W ok)(hm:∀ k,ok k→k < W.heap.size→W1.heap[k]?=W.heap[k]?):zDz P W1 ok:=fun W' hW=>h W' (fun k hk hlt=>(hW k hk (yK9 (hm k hk hlt) hlt)).trans (hm k hk hlt))
theorem old (h:zDz P W ok)(hb:Below W.heap.size W W1):zDz P W1 (fun k=>ok k∧k < W.heap.size):=(h.bound).step (fun k _ hlt=>hb.block k hlt)
end zDz
namespace Kd
def F {α:Type}(d:Kd α)(W:World)(ok:Nat→Prop)(A:Option Addr)(n:Nat)(xs:List α):Prop:=zDz (fun W=>d.C W A n xs) W ok
def FK {α:Type}(d:Kd α)(W:World)(ok:Nat→Prop)(x:α)(c:List Value):Prop:=zDz (fun W=>d.K W x c) W ok
section
variable {α β:Type} {d:Kd α} {e base n n' cc g N:Nat} {ok ok' okp S:Nat→Prop} {w w0 w1 W W1:World} {A A':Option Addr} {u v v1:Value} {xs:List α} {xs':List β} {d':Kd β} {x:α} {c:List Value}
theorem yZb (d:Kd α)(W:World)(ok:Nat→Prop):F d W ok none ([]:List α).length []:=fun W' _=>yU5 d W'
theorem yLa (h:d.M W base ok x c):FK d W ok x c:=fun _ hW=>d.K_of_M (yJi h hW)
end
end Kd
end Go.Proofs.ZW
end
section
namespace Go.Proofs.ZW
open Go.RowKit
namespace Kd
def zNb (sz:Nat)(n:Nat)(inner:List Value):List (List Value):=(List.range n).map fun j=>(inner.drop (j * sz)).take sz
theorem zDm (sz n:Nat)(inner:List Value):(zNb sz n inner).length=n:=by simp[zNb]
theorem yCa {sz n:Nat}{inner:List Value}{j:Nat}(hj:j < n):(zNb sz n inner)[j]?=some ((inner.drop (j * sz)).take sz):=by simp[zNb,hj]
theorem zPn {sz n:Nat}{inner:List Value}{j:Nat}{c:List Value}(h:(zNb sz n inner)[j]?=some c):c=(inner.drop (j * sz)).take sz:=by
 have hj:j < n:=by have:=(xHu.1 h).1;rwa [zDm] at this
 rw[yCa hj] at h
 injection h with h
 exact h.symm
theorem yHf {α:Type}{Rr:α→List Value→Prop}{sz:Nat}{xs:List α}{inner:List Value}(h:Reps Rr sz xs inner)(hR:∀ x c,Rr x c→c.length=sz∧∀ u∈c,u.oneCell'=true):Reps (fun x cs=>cs=x∧cs.length=sz∧∀ u∈cs,u.oneCell'=true) sz (zNb sz xs.length inner) inner:=by
 refine⟨by rw[zDm];exact h.1,fun j p hj=>?_⟩
 have hjl:j < xs.length:=by have:=(xHu.1 hj).1;rwa [zDm] at this
 have hp:=zPn hj
 exact⟨hp.symm,hR _ _ (h.2 j _ (xGz hjl))⟩
section
variable {α:Type} {d:Kd α} {e base n cc g:Nat} {ok ok' okp S:Nat→Prop} {w w1 W W1:World} {A:Option Addr} {u v v1:Value} {xs:List α} {x:α} {c:List Value}
def N {α:Type}(d:Kd α)(e:Nat)(w:World)(base:Nat)(ok:Nat→Prop)(v:Value)(xs:List α):Prop:=
 (∀ k,v.ownBlock=some k→ok k)∧∃ rows:List (List Value),rows.length=xs.length∧(raw d.sz).R e w base (fun k=>some k=v.ownBlock) v rows∧∀ (j:Nat) (x:α) (c:List Value),xs[j]?=some x→rows[j]?=some c→FK d w (fun k=>ok k∧some k≠v.ownBlock) x c
theorem R_N (h:d.R e w base ok v xs):N d e w base ok v xs:=by
 obtain⟨h0,inner,ho,hr⟩:=h
 refine⟨h0,zNb d.sz xs.length inner,zDm _ _ _,⟨fun k hk=>hk.symm,inner,by rw[zDm];exact ho,yHf hr (fun x c hp=>⟨d.K_len (d.K_of_M hp),d.K_one (d.K_of_M hp)⟩)⟩,fun j x c hx hc=>?_⟩
 rw[zPn hc]
 exact yLa (hr.2 j x hx)
theorem N_nil (d:Kd α)(e:Nat)(w:World)(base:Nat)(ok:Nat→Prop):N d e w base ok (.slice none 0 0) []:=R_N (R_nil _ _ _ _ _)
end
end Kd
end Go.Proofs.ZW
end
section
namespace Go.Proofs.ZW
open Go.RowKit
namespace Kd
section
variable {α:Type} {d:Kd α} {e base n cap g:Nat} {ok ok' okp:Nat→Prop} {w w1 W:World} {v v1:Value} {xs ys:List α}
end
section
variable {P:Program} {ops:Array Oper} {rest:List Oper} {o:Oper} {a:Act} {Q:Exit→Act→World→Prop} {Kc:Act→World→Prop} {α:Type}
end
end Kd
end Go.Proofs.ZW
end
section
namespace Go.Proofs.ZM
open Go.RowKit Go.Proofs.ZW
namespace Kd
open Go.Proofs.ZW.Kd
section
variable {α:Type} {d:Kd α} {e base g N:Nat} {ok:Nat→Prop} {W w1:World} {u v:Value} {xs:List α}
end
end Kd
theorem zGj (k k':IntKind)(x y:Int):Builtin.max2 (.int k x) (.int k' y)=pure (.int k (if x < y then y else x)):=by simp only[Builtin.max2,gt_iff_lt]
theorem zGk (k k':IntKind)(x y:Int):Builtin.min2 (.int k x) (.int k' y)=pure (.int k (if y < x then y else x)):=by simp only[Builtin.min2]
theorem zIh (ats:Array TypeId)(ty:TypeId)(a b:Value):Builtin.max_ ats ty #[a,b]=(Builtin.max2 a b >>= fun s=>pure s):=by simp only[Builtin.max_,List.foldlM_cons,List.foldlM_nil]
theorem zIi (ats:Array TypeId)(ty:TypeId)(a b:Value):Builtin.min_ ats ty #[a,b]=(Builtin.min2 a b >>= fun s=>pure s):=by simp only[Builtin.min_,List.foldlM_cons,List.foldlM_nil]
theorem zEx (ats:Array TypeId)(ty:TypeId)(a b c:Value):Builtin.max_ ats ty #[a,b,c]=(Builtin.max2 a b >>= fun s=>Builtin.max2 s c >>= fun s=>pure s):=by simp only[Builtin.max_,List.foldlM_cons,List.foldlM_nil]
theorem zEy (ats:Array TypeId)(ty:TypeId)(a b c:Value):Builtin.min_ ats ty #[a,b,c]=(Builtin.min2 a b >>= fun s=>Builtin.min2 s c >>= fun s=>pure s):=by simp only[Builtin.min_,List.foldlM_cons,List.foldlM_nil]
theorem zGl (ats:Array TypeId)(ty:TypeId)(a b c d:Value):Builtin.max_ ats ty #[a,b,c,d]=(Builtin.max2 a b >>= fun s=>Builtin.max2 s c >>= fun s=>Builtin.max2 s d >>= fun s=>pure s):=by simp only[Builtin.max_,List.foldlM_cons,List.foldlM_nil]
theorem zGm (ats:Array TypeId)(ty:TypeId)(a b c d:Value):Builtin.min_ ats ty #[a,b,c,d]=(Builtin.min2 a b >>= fun s=>Builtin.min2 s c >>= fun s=>Builtin.min2 s d >>= fun s=>pure s):=by simp only[Builtin.min_,List.foldlM_cons,List.foldlM_nil]
end Go.Proofs.ZM
namespace Go.Proofs.ZW
open Go.RowKit
section
variable {P:Program} {ops:Array Oper} {rest:List Oper} {o:Oper} {a:Act} {Q:Exit→Act→World→Prop} {W:World}
theorem zAu {f:FuncId}{aso:Array Operand}{ts:Array TypeId}(_ho:o.op=.call { callee:=.value (.func f),args:=aso,argTypes:=ts })(h:wpList P ops Q (o::rest) a W):wpList P ops Q (o::rest) a W:=h
theorem zC0 {b:Builtin}{xs:Array Operand}{ts:Array TypeId}(_ho:o.op=.call { callee:=.builtin b,args:=xs,argTypes:=ts })(h:wpList P ops Q (o::rest) a W):wpList P ops Q (o::rest) a W:=h
end
def mx (a b:Int):Int:=if a < b then b else a
def mn (a b:Int):Int:=if b < a then b else a
def shl (k:IntKind)(x y:Int):Int:=k.wrap (x * 2 ^ min y.toNat k.bits)
def shr (k:IntKind)(x y:Int):Int:=x / 2 ^ min y.toNat k.bits
theorem zFz {k:IntKind}{x y j:Int}(h:shl k x y=j)(hy:y≤k.bits):k.wrap (x * 2 ^ y.toNat)=j:=by rw[← h];unfold shl;rw[Nat.min_eq_left (by omega)]
theorem zJe {k:IntKind}{x y j:Int}(h:shr k x y=j)(hy:y≤k.bits):x / 2 ^ y.toNat=j:=by rw[← h];unfold shr;rw[Nat.min_eq_left (by omega)]
namespace Kd
section
variable {α:Type} {d:Kd α} {e base:Nat} {ok:Nat→Prop} {W w1:World} {v:Value} {xs:List α}
end
section
variable {α:Type} {d:Kd α} {e base g n cap:Nat} {ok oki okp:Nat→Prop} {W:World} {xs:List α} {i:Int} {c:List Value}
end
section
variable {α:Type} {d:Kd α} {e base b b' g N:Nat} {ok ok1:Nat→Prop} {W W2 w1:World} {u v:Value} {xs ys:List α} {S:Nat→Prop}
end
end Kd
end Go.Proofs.ZW
namespace Go.Proofs.ZW
open Go.RowKit
namespace Kd
def V {α:Type}(d:Kd α)(_e:Nat)(W:World)(_base:Nat)(ok:Nat→Prop)(v:Value)(xs:List α):Prop:=∃ A c,v=.slice A xs.length c∧xs.length≤c∧F d W ok A xs.length xs
section
variable {α β:Type} {d:Kd α} {e base base' n m c g N' lo hi:Nat} {ok ok' S:Nat→Prop} {w W w1:World} {A:Option Addr} {ad:Addr} {u v v1:Value} {xs:List α}
end
end Kd
end Go.Proofs.ZW
end
end
namespace Go.Proofs.YtfnacgojmdbjmaaGreatDoor
open Go.Det Go.RowKit Go.Proofs.ZW
def zAa (f:Func):Code:=match f.body with|some c=>c|none=>.skip
theorem zA5 (k:IntKind)(a b:Int):andI k a b=Go.bits .and k a b:=rfl
theorem zBk (k:IntKind)(a b:Int):orI k a b=Go.bits .or k a b:=rfl
theorem zBn (x:Int):IntKind.wrap IntKind.i64 x=wrap64 x:=by rw[IntKind.wrap_i64,wrap64]
theorem zA6 {f:FuncId}{fn:Func}{c:Code}{F:List Value→Option Value}{W:World}(hW:GoodW W)(hf:Tryz.prog.funcs[f]?=some fn)(hb:fn.body=some c)(hn:(fn.name== "runtime.NumGoroutine")=false)
  (h:∀ args v,F args=some v→zCo args=true∧flat v=true∧∀ w,GoodW w→Calls Tryz.prog f ⟨args⟩ w fun e w'=>e=.returned v∧Below w.heap.size w w'):zAk Tryz.prog W 6 f (zCz F):=by
 refine⟨zFb F,fun W1 k1 args s v s' e φ w args' H _ hA _ _=>?_⟩
 unfold zCz at e
 split at e
 case h_2=>cases e
 rename_i r hr
 cases e
 obtain⟨h1,h2,h3⟩:=h args v hr
 rw[zB5 h1 hA,zBg hf hb hn]
 have kw:Later W w:=k1.trans H.later
 refine(h3 w (hW.later kw.size kw.old)).mono ?_
 rintro e W' ⟨rfl,hB⟩
 exact⟨v,φ,rfl,Ext.refl _ _ _,zCp h2 _,H.keep ⟨hB.os,hB.output,hB.size,hB.block⟩ hB.tape⟩
theorem zD6 {f:FuncId}{fn:Func}{c:Code}{g:Own}{w:World}{args:List Value}{v:Value}(h:zAk Tryz.prog w 6 f g)(hG:GoodW w)(hf:Tryz.prog.funcs[f]?=some fn)(hb:fn.body=some c)(hn:(fn.name== "runtime.NumGoroutine")=false)
  (e:g args (zAh [] 64)=some (v,zAh [] 64)) (h1:zCo args=true) (h2:flat v=true) (h3:v≠und):
  Calls Tryz.prog f ⟨args⟩ w fun e w'=>e=.returned v∧Below w.heap.size w w':=
 zTj (h.2 w (Later.refl w)) (by decide) hG.size hf hb hn e h1 h2 h3
theorem yRy {x r:Int}{w:World}(hG:GoodW w)(h:(if 0≤x∧x < 18446744073709551616 then some ((Lib.ctz 64 x.toNat:Nat):Int) else none)=some r):
  Calls Tryz.prog 109 #[.int .u64 x] w fun e w'=>e=.returned (.int .i64 r)∧Drawn0 w w':=by
 refine(yU4 hG h).mono ?_
 rintro e w' ⟨rfl,rfl⟩
 exact⟨rfl,Drawn0.refl _⟩
theorem yU8:Entry Tryz.prog 110 add64Entry:=Entry.mk (fn:=Tryz.f110) Tryz.func110 (by kernel_rfl) (by kernel_rfl) (by kernel_rfl) (by kernel_rfl)
def LZ0:List (Nat×Con):=[(110,con48)]
theorem yLb (W:World):zAk Tryz.prog W 6 110 con48.own:=⟨zFb _,fun _ _=>zWv yU8⟩
theorem yRz {p:Prop}(h:p):Value.bool true=.bool (zAf p):=congrArg _ (zBy.2 h).symm
theorem yLc {p:Prop}(h:¬ p):Value.bool false=.bool (zAf p):=congrArg _ (zCm.2 h).symm
theorem yCb {a b c d:Int}:yB9 (a,b,c,d)=true↔((0≤a∧a < 18446744073709551616)∧(0≤b∧b < 18446744073709551616))∧((0≤c∧c < 18446744073709551616)∧(0≤d∧d < 18446744073709551616)):=by
 unfold yB9
 rw[xG0,zVh,zVh]
theorem YJ0 {h l:Int}{n:Nat}(h1:h=((n / M64:Nat):Int))(h2:l=((n % M64:Nat):Int)):Value.agg #[.int .u64 h,.int .u64 l]=zZj n:=by
 rw[h1,h2];rfl
theorem yZc (ah al bh bl:Int)(Q:Value→Prop):zAo Tryz.prog (cwC LZ0) (zAa Tryz.f98) (zAg (zZd (ah,al,bh,bl)) 8) (zAh [] 64) (zA2 Tryz.prog Tryz.f98 fun v _=>Q v)=(((Bool.true=Bool.true)∧((Nat.ble (Int.toNat (↑((Int.toNat al+Int.toNat bl+Int.toNat 0) / 18446744073709551616):Int)) 1=Bool.true)∧zAd (zAf ((↑((Int.toNat ah+Int.toNat bh+Int.toNat (↑((Int.toNat al+Int.toNat bl+Int.toNat 0) / 18446744073709551616):Int)) / 18446744073709551616):Int)≠0)) (Q (Value.tuple #[Value.agg #[Value.int IntKind.u64 0,Value.int IntKind.u64 0],Value.bool Bool.false])) (Q (Value.tuple #[Value.agg #[Value.int IntKind.u64 (↑((Int.toNat ah+Int.toNat bh+Int.toNat (↑((Int.toNat al+Int.toNat bl+Int.toNat 0) / 18446744073709551616):Int)) % 18446744073709551616):Int),Value.int IntKind.u64 (↑((Int.toNat al+Int.toNat bl+Int.toNat 0) % 18446744073709551616):Int)],Value.bool Bool.true]))))):=by kernel_rfl
theorem w98 (a:Int×Int×Int×Int)(h:yB9 a=true):zAo Tryz.prog (cwC LZ0) (zAa Tryz.f98) (zAg (zZd a) 8) (zAh [] 64) (zA2 Tryz.prog Tryz.f98 fun v _=>v=.tuple #[zZj (zJc (qn a.1 a.2.1) (qn a.2.2.1 a.2.2.2)),.bool (zAf (qn a.1 a.2.1+qn a.2.2.1 a.2.2.2 < zB1))]):=by
 obtain⟨ah,al,bh,bl⟩:=a
 refine(yZc ah al bh bl _).mpr ?_
 have h:=yCb.1 h
 refine⟨rfl,xH0 (by omega),zFs (fun h1=>?_) (fun h1=>?_)⟩
 ·rw[zBy] at h1
  have hge:¬ qn ah al+qn bh bl < zB1:=by simp only[qn,M64,zB1];omega
  have:zJc (qn ah al) (qn bh bl)=0:=by unfold zJc;rw[xGr hge]
  show _=Value.tuple #[zZj (zJc (qn ah al) (qn bh bl)),.bool (zAf (qn ah al+qn bh bl < zB1))]
  rw[this,← yLc hge];rfl
 ·rw[zCm] at h1
  have hlt:qn ah al+qn bh bl < zB1:=by simp only[qn,M64,zB1];omega
  have:zJc (qn ah al) (qn bh bl)=qn ah al+qn bh bl:=by unfold zJc;rw[xGq hlt]
  show _=Value.tuple #[zZj (zJc (qn ah al) (qn bh bl)),.bool (zAf (qn ah al+qn bh bl < zB1))]
  rw[this,← yRz hlt]
  congr 3
  refine YJ0 ?_ ?_<;>(simp only[qn,M64];omega)
theorem yLd {W:World}(hW:GoodW W):zAk Tryz.prog W 6 98 conAdd.own:=
 zQx zZd (Laying.empty hW.size) hW.size (by decide) zAl (OwnsAll.con (yLb W) (zAb W 6)) Tryz.func98 (fn:=Tryz.f98) (c:=zAa Tryz.f98) (by kernel_rfl) (by kernel_rfl) (fun _ _ h=>yBo h) (fun a=>⟨rfl,rfl,(by kernel_rfl)⟩) w98
theorem yHg {a b c d r1 r2:Int}{r3:Bool}{w:World}(hG:GoodW w)
  (h:(if(inQ a b&&inQ c d)=true then some ((((zJc (qn a b) (qn c d)) / M64:Nat):Int),(((zJc (qn a b) (qn c d)) % M64:Nat):Int),decide (qn a b+qn c d < zB1)) else none)=some (r1,r2,r3)):
  Calls Tryz.prog 98 #[.agg #[.int .u64 a,.int .u64 b],.agg #[.int .u64 c,.int .u64 d]] w fun e w'=>e=.returned (.tuple #[.agg #[.int .u64 r1,.int .u64 r2],.bool r3])∧Below w.heap.size w w':=by
 split at h
 case isFalse=>cases h
 rename_i hq
 cases h
 rw[zAz]
 refine zD6 (fn:=Tryz.f98) (c:=zAa Tryz.f98) (yLd hG) hG Tryz.func98 (by kernel_rfl) (by kernel_rfl) (args:=zZd (a,b,c,d)) (v:=.tuple #[zZj (zJc (qn a b) (qn c d)),.bool (zAf (qn a b+qn c d < zB1))]) ?_ rfl rfl (by intro h;cases h)
 unfold conAdd Con.flat zCz
 have:yB9 (a,b,c,d)=true:=hq
 simp only[yG0,zZd,this]
end Go.Proofs.YtfnacgojmdbjmaaGreatDoor
section
section
namespace Go.Proofs.ZL
open Go.Proofs.ZW (Aside0)
def yLe (md:Region.Mode)(o:Oper):List Nat:=(o.after.toList.filter (fun e=>Region.binds md e)).map (fun e=>e.on)
def yLf (md:Region.Mode)(ops:Array Oper)(i:Nat)(oi:Oper):List Nat:=(List.range ops.size).filter fun j=>!(j==i)&&match ops[j]? with
 |some oj=>!(oj.after.any (fun e=>Region.binds md e&&e.on==i)||oi.apart ops oj)
 |none=>false
def yX6 (md:Region.Mode)(ops:Array Oper):Bool×List (List Nat×List Nat):=(Region.noSelect ops,(List.range ops.size).map fun i=>match ops[i]? with
 |some o=>(yLe md o,yLf md ops i o)
 |none=>([],[]))
def yJj (T:List (List Nat×List Nat))(i:Nat):Nat→Nat→Bool
 |0,_=>false
 |fuel+1,d=>match T[d]? with
  |some r=>r.1.any fun j=>j==i||yJj T i fuel j
  |none=>false
def lastT (T:List (List Nat×List Nat))(l:List Bool)(ds:List Nat)(i:Nat):Bool:=ds.all fun d=>l.getD d true||yJj T i T.length d
section
variable {md:Region.Mode} {ops:Array Oper} {T:Bool×List (List Nat×List Nat)} {l l' li lj lk:Array Bool} {ds:List Nat} {i j k:Nat}
theorem gd (l:Array Bool)(j:Nat)(b:Bool):l.getD j b=l.toList.getD j b:=by simp[xHb,xGw]
theorem yLg:(yX6 md ops).2.length=ops.size:=by simp[yX6]
end
end Go.Proofs.ZL
end
section
namespace Go.Proofs.ZL
section
variable {P:Program} {ops:Array Oper} {Q:Exit→Act→World→Prop} {md:Region.Mode} {S:World→Prop} {ds:List Nat} {T:Bool×List (List Nat×List Nat)}
end
end Go.Proofs.ZL
end
section
namespace Go.Proofs.ZW
open Go.RowKit
namespace Kd
section
variable {α:Type} {d:Kd α} {W:World} {g n:Nat} {S ok:Nat→Prop} {A:Option Addr} {ad:Addr} {xs:List α}
end
end Kd
end Go.Proofs.ZW
end
section
namespace Go.Proofs.ZW
open Go.RowKit
section
variable {w w' u:World} {m B g:Nat} {o:Obj} {row:Option Nat} {S:Nat→Prop} {a:Addr} {v:Value}
theorem cell_at (hq:w.drewN m=w')(h:w.cell? a=some v):w'.cell? a=some v:=by subst hq;exact h
end
namespace Kd
section
variable {α:Type} {d:Kd α} {e base n m:Nat} {ok:Nat→Prop} {w w':World} {v:Value} {A:Option Addr} {xs:List α}
end
end Kd
end Go.Proofs.ZW
end
section
namespace Go.Proofs.ZW
open Go.RowKit
section
variable {P:Program} {d:Nat} {xs ys:Array Value} {f:Field} {fs:List Field} {a b:Value} {r s:Bool} {w:World}
end
end Go.Proofs.ZW
end
namespace Go.Proofs.ZW
theorem Reps.one {α:Type}{R:α→List Value→Prop}{ps:List α}{cs:List Value}{p:α}{v:Value}(hp:R p [v])(h:Reps R 1 ps cs):Reps R 1 (p::ps) (v::cs):=by
 refine⟨by simp[h.1],fun j q hq=>?_⟩
 cases j with
 |zero=>
  simp only[xHl,xGu] at hq
  subst hq
  simpa using hp
 |succ j=>
  simp only[xIk] at hq
  have h1:=h.2 j q hq
  simpa [Nat.mul_one] using h1
end Go.Proofs.ZW
section
namespace Go.Proofs.ZL
section
variable {P:Program} {ops:Array Oper} {Q:Exit→Act→World→Prop} {md:Region.Mode} {T:Bool×List (List Nat×List Nat)} {B:List Nat} {O:List Nat} {b:Nat→Bool} {i j n:Nat}
def Closed (T:List (List Nat×List Nat))(O:List Nat)(b:Nat→Bool):Prop:=∀ d r,T[d]?=some r→O.contains d=true→b d=true→∀ n∈r.1,O.contains n=true→b n=true
end
end Go.Proofs.ZL
end
section
namespace Go.Proofs.ZL
section
variable {ops:Array Oper} {a:Act} {o og:Oper} {g:Nat} {t:Tmp} {u:Bool}
end
end Go.Proofs.ZL
end
section
namespace Go.Proofs.ZW
open Go.RowKit
section
variable {P:Program} {ops:Array Oper} {rest:List Oper} {o:Oper} {a:Act} {Q:Exit→Act→World→Prop} {W:World}
theorem zC3 (hw:Region.wanted o (yielded ops a.tmps)=true)(h:wpList P ops Q ({ o with guard:=none }::rest) a W):wpList P ops Q (o::rest) a W:=by
 have h1:Region.wanted { o with guard:=none } (yielded ops a.tmps)=true:=rfl
 unfold wpList at h ⊢
 rw[xGq h1] at h
 rw[xGq hw]
 exact h
end
end Go.Proofs.ZW
end
end
section
namespace Go.Proofs.YtfnacgojmdbjmaaGreatDoor.PRD
open Go.RowKit Go.Proofs.ZW Go.Proofs.ZL Go.Proofs.ZM
attribute [local go_sem] zGj zGk zIh zIi zEx zEy zGl zGm
open Go.Det (inQ M64 zB1 qn zJc zJb zFf)
def errW:Option Int→Value
 |none=>.nilIface
 |some c=>.iface 0 (.int .i64 c)
theorem errW_none:errW none=.nilIface:=rfl
theorem errW_some (c:Int):errW (some c)=.iface 0 (.int .i64 c):=rfl
structure S26 where
 f0:Int
 f1:Int
structure S28 where
 f0:Int
 f1:S26
structure S30 where
 f0:S28
 f1:Int
end Go.Proofs.YtfnacgojmdbjmaaGreatDoor.PRD
end
namespace Go.Proofs.ZW
open Go Go.RowKit
theorem zzB {p:Prop}(h:p:=by repeat (first|(with_reducible first|exact HB.out|apply zBf|apply zA9|apply zB9)|exact HB.out)):p:=h
theorem zEz {p q:Prop}(g:q)(h:q→p:=by intro g_;repeat (first|(with_reducible first|exact HB.out|apply zBf|apply zA9|apply zB9|refine zBm ?_ g_.out)|exact HB.out)):p:=h g
theorem zzR {p q:Prop}(g:Aside0 q)(h:q→p:=by intro g_;(with_reducible repeat (first|apply Kd.R_alloc|apply Kd.R_drewN|apply Kd.R_drew));exact g_):p:=h g.out
theorem zzK {p q:Prop}(g:Aside0 q)(h:q→p:=by intro g_;(with_reducible repeat (first|refine zAn ?_ _|refine zAt ?_|refine zAm ?_ _));exact g_):p:=h g.out
theorem zzG {p:Prop}(h:p:=by first|exact hG|exact GoodW.below hG zzB|(repeat (first|exact hG|apply GoodW.drewN|apply GoodW.drew))):p:=h
theorem zVk {p q:Prop}(g:q)(h:q→p:=by intro g_;first|exact hG|exact GoodW.below hG (zEz g_)|(repeat (first|exact hG|apply GoodW.drewN|apply GoodW.drew))):p:=h g
theorem zzS {p:Prop}(h:p:=by first|rfl|(simp;done)|(simp[*];done)):p:=h
theorem zzE {p:Prop}(h:p:=by first|rfl|(simp[errW_none,errW_some]<;>rfl)|(simp[*,errW_none,errW_some]<;>rfl)):p:=h
theorem zzN {p:Prop}(h:p:=by first|exact Kd.R_nil _ _ _ _ _|exact Kd.N_nil _ _ _ _ _|exact Kd.V_nil _ _ _ _ _|exact Kd.Q_nil _ _ _ _ _|exact Kd.S_nil _ _ _ _ _):p:=h
theorem zzA {p:Prop}(h:p:=by first|(with_reducible assumption)|assumption):p:=h
theorem zzM {p:Prop}(h:p:=by(try simp only[List.map_toArray,xHx,xJa]);first|done|rfl|(simp only[xHt,xHn];rfl)):p:=h
theorem zzD {p:Prop}(h:p:=by repeat (first|exact Drawn0.refl _|apply Drawn0.step)):p:=h
theorem zzO {p:Prop}(h:p:=by have:=HK1.out;first|omega|exact xGv _):p:=h
theorem zzP {p:Prop}(h:p:=by have:=HK1.out;have:=HK2.out;omega):p:=h
theorem zzI {p:Prop}[Decidable p]{α:Type}{a:Option α}{r:α}(H:(if p then a else none)=some r):p:=by
 by_cases h:p;exact h;rw[xGr h] at H;cases H
theorem zzJ {p:Prop}[Decidable p]{α:Type}{a:Option α}{r:α}(H:(if p then a else none)=some r):decide p=true∧a=some r:=by
 by_cases h:p;rw[xGq h] at H;exact⟨xGx h,H⟩;rw[xGr h] at H;cases H
theorem zzC {p:Prop}[Decidable p]{α:Type}{a b:Option α}{r:α}(H:(if p then a else b)=some r):(p∧a=some r)∨(¬p∧b=some r):=by
 by_cases h:p;rw[xGq h] at H;exact .inl ⟨h,H⟩;rw[xGr h] at H;exact .inr ⟨h,H⟩
theorem zzW {α β:Type}{x:Option α}{f:α→Option β}{r:β}(H:x.bind f=some r):∃ t,Aside0 (x=some t)∧f t=some r:=by
 obtain⟨t,h,H⟩:=xGs.mp H;exact⟨t,⟨h⟩,H⟩
end Go.Proofs.ZW
namespace Go.Proofs.YtfnacgojmdbjmaaGreatDoor.PRD
open Go.RowKit Go.Proofs.ZW Go.Proofs.ZL Go.Proofs.ZM
attribute [local go_sem] zGj zGk zIh zIi zEx zEy zGl zGm
open Go.Det (inQ M64 zB1 qn zJc zJb zFf)
def Yc.l0:Nat→Int→Int→Int→Int→Option (Int×Int)
 |0,_,_,_,_=>none
 |k+1,x0,x4,x103000,x103001=>if x4 < x0 then(if x4 < 64 then(if 0≤(IntKind.u64.wrap (wrap64 (63 - x4))) then(Yc.l0 k x0 (wrap64 (x4+1)) (Go.bits .or .u64 x103000 (shl .u64 1 (IntKind.u64.wrap (wrap64 (63 - x4))))) x103001) else(none)) else(if 0≤(IntKind.u64.wrap (wrap64 (127 - x4))) then(Yc.l0 k x0 (wrap64 (x4+1)) x103000 (Go.bits .or .u64 x103001 (shl .u64 1 (IntKind.u64.wrap (wrap64 (127 - x4)))))) else(none))) else(some (x103000,x103001))
def Yc.f (k:Nat)(a0:Int):Option (Int×Int):=Yc.l0 k (mn (mx a0 0) 128) 0 0 0
theorem Yc.mono_l:∀ k,(∀ y0 y1 y2 y3,LeO (Yc.l0 k y0 y1 y2 y3) (Yc.l0 (k+1) y0 y1 y2 y3))
 |0=>fun _ _ _ _ r h=>by simp[Yc.l0] at h
 |k+1=>by
  have ih0:=Yc.mono_l k
  ·intro y0 y1 y2 y3
   unfold Yc.l0
   repeat' first
   |(with_reducible exact ih0 _ _ _ _)
   |(with_reducible exact LeO.refl _)
   |(with_reducible exact LeO.none _)
   |(with_reducible refine LeO.ite ?_ ?_)
   |(with_reducible refine LeO.bind ?_ (fun _=>?_))
theorem Yc.mono:∀ a0 k,LeO (Yc.f k a0) (Yc.f (k+1) a0):=by
 intro a0 k
 have ih0:=Yc.mono_l k;unfold Yc.f
 repeat' first
   |(with_reducible exact ih0 _ _ _ _)
   |(with_reducible exact LeO.refl _)
   |(with_reducible exact LeO.none _)
   |(with_reducible refine LeO.ite ?_ ?_)
   |(with_reducible refine LeO.bind ?_ (fun _=>?_))
set_option maxRecDepth 100000 in
theorem Yc.calls (k:Nat)(a0:Int)(r1:Int)(r2:Int)(w:World)(hG:GoodW w)(h:Yc.f k a0=some (r1,r2)):
  Calls Tryz.prog 56 #[.int .i64 a0] w fun e w'=>e=.returned (.agg #[.int .u64 r1,.int .u64 r2])∧Below w.heap.size w w':=by
 have hu26:=Tryz.underlying26;have HB:=Aside0.mk (Below.refl w.heap.size w);have H:=h;unfold Yc.f at H;clear h;obtain⟨ji2,hji2⟩:∃ j_:Int,(mx a0 0)=j_:=⟨_,rfl⟩
 replace H:(Yc.l0 k (mn (ji2) 128) 0 0 0)=some (r1,r2):=by first|(rw[hji2] at H;exact H)|(simp only[hji2] at H ⊢;exact H)
 (try(have hji2l:0≤ji2:=by(rw[← hji2];unfold mx;(repeat' split)<;>omega)))
 (try(have hji2m:0≤ji2:=by omega))
 have hji2_:(if a0 < 0 then 0 else a0)=ji2:=hji2;obtain⟨ji3,hji3⟩:∃ j_:Int,(mn (ji2) 128)=j_:=⟨_,rfl⟩
 replace H:(Yc.l0 k ji3 0 0 0)=some (r1,r2):=by first|(rw[hji3] at H;exact H)|(simp only[hji3] at H ⊢;exact H)
 have hji3_:(if 128 < (ji2) then 128 else(ji2))=ji3:=hji3;have H':=Aside0.mk H;clear H;go_enter Tryz.func56,Tryz.ntmps56
 go_wp2_with (first|((with_reducible refine zBv (N:=2) rfl ?_);refine zCr ?hg (N:=2) ?hd (cs:=#[.int .u64 0,.int .u64 0]) (t:=26) ?hr ?_;(case hd=>rfl);(case hg=>rfl);(case hr=>first|(go_simp;done)|(go_simp;rfl));intro gb101 hg w4 hbox hb;have n0_:=Aside0.mk (zAe zzB hb);have n1_:=Aside0.mk (hbox);have n2_:=Aside0.mk ((by rw[hg];exact(zAi zzB):w.heap.size≤gb101));have n3_:=Aside0.mk ((by rw[hg];exact(zAi zzB):w.heap.size≤gb101));clear HB;have HB:=n0_;have BK101:=n1_;have GW101:=n2_;have GE101:=n3_;clear n0_ n1_ n2_ n3_;clear hb hbox hg)|((with_reducible refine zBv (N:=3) rfl ?_);refine zCr ?hg (N:=3) ?hd (cs:=#[.int .u64 0,.int .u64 0]) (t:=26) ?hr ?_;(case hd=>rfl);(case hg=>rfl);(case hr=>first|(go_simp;done)|(go_simp;rfl));intro gb102 hg w5 hbox hb;have n0_:=Aside0.mk (zBz (g:=gb101) (o:=.cells #[.int .u64 0,.int .u64 0] 26 (0,0)) (zzK BK101) hb);have n1_:=Aside0.mk (zAe (zEz GE101) hb);have n2_:=Aside0.mk (hbox);have n3_:=Aside0.mk ((by rw[hg];exact(zAi (zEz GE101)):w.heap.size≤gb102));have n4_:=Aside0.mk ((by rw[hg];exact(zAi (zEz GE101)):w.heap.size≤gb102));have n5_:=Aside0.mk ((by rw[hg];exact Nat.ne_of_lt (zPm (g:=gb101) (o:=.cells #[.int .u64 0,.int .u64 0] 26 (0,0)) (zzK BK101)):gb101≠gb102));have n6_:=Aside0.mk ((by rw[hg];exact Nat.ne_of_gt (zPm (g:=gb101) (o:=.cells #[.int .u64 0,.int .u64 0] 26 (0,0)) (zzK BK101)):gb102≠gb101));clear BK101;clear HB;have BK101:=n0_;have HB:=n1_;have BK102:=n2_;have GW102:=n3_;have GE102:=n4_;have NB101_102:=n5_;have NB102_101:=n6_;clear n0_ n1_ n2_ n3_ n4_ n5_ n6_;clear hb hbox hg;have hnb6:=NB102_101.out;have hnc6:=NB101_102.out;have hcz7_0:w5.cell? ⟨gb102,0,none⟩=some (.int .u64 0):=(zAj BK102.out 0).trans rfl;have hcz7_1:w5.cell? ⟨gb102,1,none⟩=some (.int .u64 0):=(zAj BK102.out 1).trans rfl;have hfz7_0:=zAc BK102.out 0;have hfz7_1:=zAc BK102.out 1))
 go_loopg [4] k (fun kq v4 w'=>∃ (x4_1:Int) (x103000_1:Int) (x103001_1:Int),v4=.int .i64 x4_1∧Aside0 (Yc.l0 kq ji3 x4_1 x103000_1 x103001_1=some (r1,r2))∧Aside0 (kq≤k)∧Aside0 (w'.heap[gb101]?=some (.cells #[.int .u64 0,.int .u64 0] 26 (0,0)))∧Aside0 (w'.heap[gb102]?=some (.cells #[.int .u64 x103000_1,.int .u64 x103001_1] 26 (0,0)))∧Aside0 (Below w.heap.size w w'))
 case atStart=>exact⟨(0),(0),(0),zzS,H',⟨xGv _⟩,⟨by(with_reducible repeat (first|refine zAn ?_ _|refine zAt ?_|refine zAm ?_ _));refine zHe ?_ NB101_102.out _;(with_reducible repeat (first|refine zAn ?_ _|refine zAt ?_|refine zAm ?_ _));refine zHe ?_ NB101_102.out _;(with_reducible repeat (first|refine zAn ?_ _|refine zAt ?_|refine zAm ?_ _));exact BK101.out⟩,⟨by(with_reducible repeat (first|refine zAn ?_ _|refine zAt ?_|refine zAm ?_ _));refine zCc (cs:=#[.int .u64 0,.int .u64 0]) ?_ 1 _ rfl;(with_reducible repeat (first|refine zAn ?_ _|refine zAt ?_|refine zAm ?_ _));refine zCc (cs:=#[.int .u64 0,.int .u64 0]) ?_ 0 _ rfl;(with_reducible repeat (first|refine zAn ?_ _|refine zAt ?_|refine zAm ?_ _));exact BK102.out⟩,⟨by repeat (first|(with_reducible first|exact HB.out|apply zBf|apply zA9|apply zB9|refine zBm ?_ GE101.out|refine zBm ?_ GE102.out)|exact HB.out)⟩⟩
 case round=>
  clear H';(try clear hcz7_0);(try clear hcz7_1);(try clear hfz7_0);(try clear hfz7_1);obtain⟨x4_1,x103000_1,x103001_1,rfl,HA,HK1,BK101,BK102,HB⟩:=hrel
  cases gk with
  |zero=>exact absurd HA.out (by simp[Yc.l0])
  |succ k1=>
   have H:=HA.out;clear HA;simp only[Yc.l0] at H
   replace H:=zzC H;rcases H with⟨c8,H⟩|⟨c8,H⟩
   ·have c8b0:=xGx c8;clear c8
    replace H:=zzC H;rcases H with⟨c9,H⟩|⟨c9,H⟩
    ·have c9b0:=xGx c9;clear c9;obtain⟨ji10,hji10⟩:∃ j_:Int,(IntKind.u64.wrap (wrap64 (63 - x4_1)))=j_:=⟨_,rfl⟩
     replace H:(if 0≤(ji10) then(Yc.l0 k1 ji3 (wrap64 (x4_1+1)) (Go.bits .or .u64 x103000_1 (shl .u64 1 (ji10))) x103001_1) else(none))=some (r1,r2):=by first|(rw[hji10] at H;exact H)|(simp only[hji10] at H ⊢;exact H)
     have c11:=zzI H;rw[xGq c11] at H;have c11b0:=xG2 c11;have c11b1:=xGx c11;clear c11;obtain⟨ji12,hji12⟩:∃ j_:Int,(shl .u64 1 (ji10))=j_:=⟨_,rfl⟩
     replace H:(Yc.l0 k1 ji3 (wrap64 (x4_1+1)) (Go.bits .or .u64 x103000_1 (ji12)) x103001_1)=some (r1,r2):=by first|(rw[hji12] at H;exact H)|(simp only[hji12] at H ⊢;exact H)
     have hji12_:(IntKind.u64.wrap (1 * 2 ^ min (ji10).toNat 64))=ji12:=hji12;have hji12z:(ji10)≤64→(IntKind.u64.wrap (1 * 2 ^ (ji10).toNat))=ji12:=zFz hji12
     have hji12u:(IntKind.u64.wrap (2 ^ min (ji10).toNat 64))=ji12:=by have h_:=hji12_;rw[Int.one_mul] at h_;exact h_
     have hji12v:(ji10)≤64→(IntKind.u64.wrap (2 ^ (ji10).toNat))=ji12:=fun hle_=>by have h_:=hji12z hle_;rw[Int.one_mul] at h_;exact h_
     have H':=Aside0.mk H;clear H;have hnb13:=NB102_101.out;have hnc13:=NB101_102.out;have hcz14_0:wr.cell? ⟨gb102,0,none⟩=some (.int .u64 x103000_1):=(zAj BK102.out 0).trans rfl;have hcz14_1:wr.cell? ⟨gb102,1,none⟩=some (.int .u64 x103001_1):=(zAj BK102.out 1).trans rfl;have hfz14_0:=zAc BK102.out 0;have hfz14_1:=zAc BK102.out 1;go_wp2
     go_roundg k1
     case measure=>have:=HK1.out;omega
     case rel=>exact⟨(wrap64 (x4_1+1)),(Go.bits .or .u64 x103000_1 (ji12)),(x103001_1),zzS,H',⟨by have:=HK1.out;omega⟩,⟨by(with_reducible repeat (first|refine zAn ?_ _|refine zAt ?_|refine zAm ?_ _));refine zHe ?_ NB101_102.out _;(with_reducible repeat (first|refine zAn ?_ _|refine zAt ?_|refine zAm ?_ _));exact BK101.out⟩,⟨by(with_reducible repeat (first|refine zAn ?_ _|refine zAt ?_|refine zAm ?_ _));refine zCc (cs:=#[.int .u64 x103000_1,.int .u64 x103001_1]) ?_ 0 _ rfl;(with_reducible repeat (first|refine zAn ?_ _|refine zAt ?_|refine zAm ?_ _));exact BK102.out⟩,⟨by repeat (first|(with_reducible first|exact HB.out|apply zBf|apply zA9|apply zB9|refine zBm ?_ GE101.out|refine zBm ?_ GE102.out)|exact HB.out)⟩⟩
    ·have c9b0:=xG1 c9;clear c9;obtain⟨ji15,hji15⟩:∃ j_:Int,(IntKind.u64.wrap (wrap64 (127 - x4_1)))=j_:=⟨_,rfl⟩
     replace H:(if 0≤(ji15) then(Yc.l0 k1 ji3 (wrap64 (x4_1+1)) x103000_1 (Go.bits .or .u64 x103001_1 (shl .u64 1 (ji15)))) else(none))=some (r1,r2):=by first|(rw[hji15] at H;exact H)|(simp only[hji15] at H ⊢;exact H)
     have c16:=zzI H;rw[xGq c16] at H;have c16b0:=xG2 c16;have c16b1:=xGx c16;clear c16;obtain⟨ji17,hji17⟩:∃ j_:Int,(shl .u64 1 (ji15))=j_:=⟨_,rfl⟩
     replace H:(Yc.l0 k1 ji3 (wrap64 (x4_1+1)) x103000_1 (Go.bits .or .u64 x103001_1 (ji17)))=some (r1,r2):=by first|(rw[hji17] at H;exact H)|(simp only[hji17] at H ⊢;exact H)
     have hji17_:(IntKind.u64.wrap (1 * 2 ^ min (ji15).toNat 64))=ji17:=hji17;have hji17z:(ji15)≤64→(IntKind.u64.wrap (1 * 2 ^ (ji15).toNat))=ji17:=zFz hji17
     have hji17u:(IntKind.u64.wrap (2 ^ min (ji15).toNat 64))=ji17:=by have h_:=hji17_;rw[Int.one_mul] at h_;exact h_
     have hji17v:(ji15)≤64→(IntKind.u64.wrap (2 ^ (ji15).toNat))=ji17:=fun hle_=>by have h_:=hji17z hle_;rw[Int.one_mul] at h_;exact h_
     have H':=Aside0.mk H;clear H;have hnb18:=NB102_101.out;have hnc18:=NB101_102.out;have hcz19_0:wr.cell? ⟨gb102,0,none⟩=some (.int .u64 x103000_1):=(zAj BK102.out 0).trans rfl;have hcz19_1:wr.cell? ⟨gb102,1,none⟩=some (.int .u64 x103001_1):=(zAj BK102.out 1).trans rfl;have hfz19_0:=zAc BK102.out 0;have hfz19_1:=zAc BK102.out 1;go_wp2
     go_roundg k1
     case measure=>have:=HK1.out;omega
     case rel=>exact⟨(wrap64 (x4_1+1)),(x103000_1),(Go.bits .or .u64 x103001_1 (ji17)),zzS,H',⟨by have:=HK1.out;omega⟩,⟨by(with_reducible repeat (first|refine zAn ?_ _|refine zAt ?_|refine zAm ?_ _));refine zHe ?_ NB101_102.out _;(with_reducible repeat (first|refine zAn ?_ _|refine zAt ?_|refine zAm ?_ _));exact BK101.out⟩,⟨by(with_reducible repeat (first|refine zAn ?_ _|refine zAt ?_|refine zAm ?_ _));refine zCc (cs:=#[.int .u64 x103000_1,.int .u64 x103001_1]) ?_ 1 _ rfl;(with_reducible repeat (first|refine zAn ?_ _|refine zAt ?_|refine zAm ?_ _));exact BK102.out⟩,⟨by repeat (first|(with_reducible first|exact HB.out|apply zBf|apply zA9|apply zB9|refine zBm ?_ GE101.out|refine zBm ?_ GE102.out)|exact HB.out)⟩⟩
   ·have c8b0:=xG1 c8;clear c8;simp only[xGu,xG5] at H;obtain⟨rfl,rfl⟩:=H;have hnb20:=NB102_101.out;have hnc20:=NB101_102.out;have hcz21_0:wr.cell? ⟨gb102,0,none⟩=some (.int .u64 x103000_1):=(zAj BK102.out 0).trans rfl;have hcz21_1:wr.cell? ⟨gb102,1,none⟩=some (.int .u64 x103001_1):=(zAj BK102.out 1).trans rfl;have hfz21_0:=zAc BK102.out 0;have hfz21_1:=zAc BK102.out 1;have hcz22_0:wr.cell? ⟨gb101,0,none⟩=some (.int .u64 0):=(zAj BK101.out 0).trans rfl;have hcz22_1:wr.cell? ⟨gb101,1,none⟩=some (.int .u64 0):=(zAj BK101.out 1).trans rfl;have hfz22_0:=zAc BK101.out 0;have hfz22_1:=zAc BK101.out 1;go_wp2;refine bodyPost_ret (results_cell_row rfl _ _ gb101 26 #[.int .u64 x103000_1,.int .u64 x103001_1] (0,0) _ rfl (by(with_reducible repeat (first|refine zAn ?_ _|refine zAt ?_|refine zAm ?_ _));refine zCc (cs:=#[.int .u64 x103000_1,.int .u64 0]) ?_ 1 _ rfl;(with_reducible repeat (first|refine zAn ?_ _|refine zAt ?_|refine zAm ?_ _));refine zCc (cs:=#[.int .u64 0,.int .u64 0]) ?_ 0 _ rfl;(with_reducible repeat (first|refine zAn ?_ _|refine zAt ?_|refine zAm ?_ _));exact BK101.out) Tryz.underlying26 rfl (by kernel_rfl)) rfl ?_;exact⟨by first|rfl|(simp[errW_none,errW_some]<;>rfl)|(simp only[← hji2,← hji3];first|rfl|(simp[errW_none,errW_some]<;>rfl))|(simp[*,errW_none,errW_some]<;>rfl),by repeat (first|(with_reducible first|exact HB.out|apply zBf|apply zA9|apply zB9|refine zBm ?_ GE101.out|refine zBm ?_ GE102.out)|exact HB.out)⟩
def Ye.l0:Nat→Int→Int→Int→Int→Option (Int×Int×Int)
 |0,_,_,_,_=>none
 |k+1,x0,x8,x105000,x105001=>if x8 < 8 then(if 0≤(IntKind.u64.wrap (wrap64 (x8+1))) then(if(Go.bits .and .i64 (shr .i64 x0 (IntKind.u64.wrap (wrap64 (x8+1)))) 1)=1 then(if x8 < 4 then(if 0≤(IntKind.u64.wrap (wrap64 (16 * x8))) then(Ye.l0 k x0 (wrap64 (x8+1)) (Go.bits .andNot .u64 x105000 (shl .u64 65535 (IntKind.u64.wrap (wrap64 (16 * x8))))) x105001) else(none)) else(if 0≤(IntKind.u64.wrap (wrap64 (16 * (wrap64 (x8 - 4))))) then(Ye.l0 k x0 (wrap64 (x8+1)) x105000 (Go.bits .andNot .u64 x105001 (shl .u64 65535 (IntKind.u64.wrap (wrap64 (16 * (wrap64 (x8 - 4)))))))) else(none))) else(Ye.l0 k x0 (wrap64 (x8+1)) x105000 x105001)) else(none)) else(some (6,x105000,x105001))
def Ye.f (k:Nat)(a0:Int)(a1:Int)(a2:Int):Option (Int×Int×Int):=if(Go.bits .and .i64 a0 1)=0 then(if 0≤(IntKind.u64.wrap (wrap64 ((Go.bits .and .i64 (a0 / 2) 3) * 8))) then(some (4,0,shr .u64 (Go.bits .and .u64 a1 4294967295) (IntKind.u64.wrap (wrap64 ((Go.bits .and .i64 (a0 / 2) 3) * 8))))) else(none)) else(Ye.l0 k a0 0 a1 a2)
set_option maxRecDepth 100000 in
theorem Ye.calls (k:Nat)(a0:Int)(a1:Int)(a2:Int)(r1:Int)(r2:Int)(r3:Int)(w:World)(hG:GoodW w)(h:Ye.f k a0 a1 a2=some (r1,r2,r3)):
  Calls Tryz.prog 42 #[.int .i64 a0,.int .u64 a1,.int .u64 a2] w fun e w'=>e=.returned (.agg #[.int .i64 r1,.int .u64 r2,.int .u64 r3])∧Below w.heap.size w w':=by
 have hu28:=Tryz.underlying28;have hu26:=Tryz.underlying26;have HB:=Aside0.mk (Below.refl w.heap.size w);have H:=h;unfold Ye.f at H;clear h
 replace H:=zzC H;rcases H with⟨c4,H⟩|⟨c4,H⟩
 ·have c4b0:=beq_iff_eq.mpr c4;have c4b1:=bne_eq_false_iff_eq.mpr c4;clear c4;obtain⟨ji5,hji5⟩:∃ j_:Int,(IntKind.u64.wrap (wrap64 ((Go.bits .and .i64 (a0 / 2) 3) * 8)))=j_:=⟨_,rfl⟩
  replace H:(if 0≤(ji5) then(some (4,0,shr .u64 (Go.bits .and .u64 a1 4294967295) (ji5))) else(none))=some (r1,r2,r3):=by first|(rw[hji5] at H;exact H)|(simp only[hji5] at H ⊢;exact H)
  have c6:=zzI H;rw[xGq c6] at H;have c6b0:=xG2 c6;have c6b1:=xGx c6;clear c6;obtain⟨ji7,hji7⟩:∃ j_:Int,(shr .u64 (Go.bits .and .u64 a1 4294967295) (ji5))=j_:=⟨_,rfl⟩
  replace H:(some (4,0,ji7))=some (r1,r2,r3):=by first|(rw[hji7] at H;exact H)|(simp only[hji7] at H ⊢;exact H)
  have hji7_:((Go.bits .and .u64 a1 4294967295) / 2 ^ min (ji5).toNat 64)=ji7:=hji7;have hji7z:(ji5)≤64→((Go.bits .and .u64 a1 4294967295) / 2 ^ (ji5).toNat)=ji7:=zJe hji7;simp only[xGu,xG5] at H;obtain⟨rfl,rfl,rfl⟩:=H;go_enter Tryz.func42,Tryz.ntmps42
  go_wp2_with (first|((with_reducible refine zBv (N:=6) rfl ?_);refine zCr ?hg (N:=6) ?hd (cs:=#[.int .i64 0,.int .u64 0,.int .u64 0]) (t:=28) ?hr ?_;(case hd=>rfl);(case hg=>rfl);(case hr=>first|(go_simp;done)|(go_simp;rfl));intro gb103 hg w8 hbox hb;have n0_:=Aside0.mk (zAe zzB hb);have n1_:=Aside0.mk (hbox);have n2_:=Aside0.mk ((by rw[hg];exact(zAi zzB):w.heap.size≤gb103));have n3_:=Aside0.mk ((by rw[hg];exact(zAi zzB):w.heap.size≤gb103));clear HB;have HB:=n0_;have BK103:=n1_;have GW103:=n2_;have GE103:=n3_;clear n0_ n1_ n2_ n3_;clear hb hbox hg;have hcz9_0:w8.cell? ⟨gb103,0,none⟩=some (.int .i64 0):=(zAj BK103.out 0).trans rfl;have hcz9_1:w8.cell? ⟨gb103,1,none⟩=some (.int .u64 0):=(zAj BK103.out 1).trans rfl;have hcz9_2:w8.cell? ⟨gb103,2,none⟩=some (.int .u64 0):=(zAj BK103.out 2).trans rfl;have hfz9_0:=zAc BK103.out 0;have hfz9_1:=zAc BK103.out 1;have hfz9_2:=zAc BK103.out 2))
  refine bodyPost_ret (results_cell_row rfl _ _ gb103 28 #[.int .i64 4,.int .u64 0,.int .u64 ji7] (0,0) _ rfl (by(with_reducible repeat (first|refine zAn ?_ _|refine zAt ?_|refine zAm ?_ _));refine zCc (cs:=#[.int .i64 4,.int .u64 0,.int .u64 0]) ?_ 2 _ rfl;(with_reducible repeat (first|refine zAn ?_ _|refine zAt ?_|refine zAm ?_ _));refine zCc (cs:=#[.int .i64 4,.int .u64 0,.int .u64 0]) ?_ 1 _ rfl;(with_reducible repeat (first|refine zAn ?_ _|refine zAt ?_|refine zAm ?_ _));refine zCc (cs:=#[.int .i64 0,.int .u64 0,.int .u64 0]) ?_ 0 _ rfl;(with_reducible repeat (first|refine zAn ?_ _|refine zAt ?_|refine zAm ?_ _));exact BK103.out) Tryz.underlying28 rfl (by kernel_rfl)) rfl ?_;exact⟨by first|rfl|(simp[errW_none,errW_some]<;>rfl)|(simp only[← hji5,← hji7];first|rfl|(simp[errW_none,errW_some]<;>rfl))|(simp[*,errW_none,errW_some]<;>rfl),zEz GE103⟩
 ·have c4b0:=beq_eq_false_iff_ne.mpr c4;have c4b1:=bne_iff_ne.mpr c4;have H':=Aside0.mk H;clear H;go_enter Tryz.func42,Tryz.ntmps42
  go_wp2_with (first|((with_reducible refine zBv (N:=6) rfl ?_);refine zCr ?hg (N:=6) ?hd (cs:=#[.int .i64 0,.int .u64 0,.int .u64 0]) (t:=28) ?hr ?_;(case hd=>rfl);(case hg=>rfl);(case hr=>first|(go_simp;done)|(go_simp;rfl));intro gb103 hg w10 hbox hb;have n0_:=Aside0.mk (zAe zzB hb);have n1_:=Aside0.mk (hbox);have n2_:=Aside0.mk ((by rw[hg];exact(zAi zzB):w.heap.size≤gb103));have n3_:=Aside0.mk ((by rw[hg];exact(zAi zzB):w.heap.size≤gb103));clear HB;have HB:=n0_;have BK103:=n1_;have GW103:=n2_;have GE103:=n3_;clear n0_ n1_ n2_ n3_;clear hb hbox hg)|((with_reducible refine zBv (N:=7) rfl ?_);refine zCr ?hg (N:=7) ?hd (cs:=#[.int .u64 0,.int .u64 0]) (t:=26) ?hr ?_;(case hd=>rfl);(case hg=>rfl);(case hr=>first|(go_simp;done)|(go_simp;rfl));intro gb104 hg w11 hbox hb;have n0_:=Aside0.mk (zBz (g:=gb103) (o:=.cells #[.int .i64 0,.int .u64 0,.int .u64 0] 28 (0,0)) (zzK BK103) hb);have n1_:=Aside0.mk (zAe (zEz GE103) hb);have n2_:=Aside0.mk (hbox);have n3_:=Aside0.mk ((by rw[hg];exact(zAi (zEz GE103)):w.heap.size≤gb104));have n4_:=Aside0.mk ((by rw[hg];exact(zAi (zEz GE103)):w.heap.size≤gb104));have n5_:=Aside0.mk ((by rw[hg];exact Nat.ne_of_lt (zPm (g:=gb103) (o:=.cells #[.int .i64 0,.int .u64 0,.int .u64 0] 28 (0,0)) (zzK BK103)):gb103≠gb104));have n6_:=Aside0.mk ((by rw[hg];exact Nat.ne_of_gt (zPm (g:=gb103) (o:=.cells #[.int .i64 0,.int .u64 0,.int .u64 0] 28 (0,0)) (zzK BK103)):gb104≠gb103));clear BK103;clear HB;have BK103:=n0_;have HB:=n1_;have BK104:=n2_;have GW104:=n3_;have GE104:=n4_;have NB103_104:=n5_;have NB104_103:=n6_;clear n0_ n1_ n2_ n3_ n4_ n5_ n6_;clear hb hbox hg;have hnb12:=NB104_103.out;have hnc12:=NB103_104.out;have hcz13_0:w11.cell? ⟨gb104,0,none⟩=some (.int .u64 0):=(zAj BK104.out 0).trans rfl;have hcz13_1:w11.cell? ⟨gb104,1,none⟩=some (.int .u64 0):=(zAj BK104.out 1).trans rfl;have hfz13_0:=zAc BK104.out 0;have hfz13_1:=zAc BK104.out 1))
  go_loopg [8] k (fun kq v8 w'=>∃ (x8_1:Int) (x105000_1:Int) (x105001_1:Int),v8=.int .i64 x8_1∧Aside0 (Ye.l0 kq a0 x8_1 x105000_1 x105001_1=some (r1,r2,r3))∧Aside0 (kq≤k)∧Aside0 (w'.heap[gb103]?=some (.cells #[.int .i64 0,.int .u64 0,.int .u64 0] 28 (0,0)))∧Aside0 (w'.heap[gb104]?=some (.cells #[.int .u64 x105000_1,.int .u64 x105001_1] 26 (0,0)))∧Aside0 (Below w.heap.size w w'))
  case atStart=>exact⟨(0),(a1),(a2),zzS,H',⟨xGv _⟩,⟨by(with_reducible repeat (first|refine zAn ?_ _|refine zAt ?_|refine zAm ?_ _));refine zHe ?_ NB103_104.out _;(with_reducible repeat (first|refine zAn ?_ _|refine zAt ?_|refine zAm ?_ _));refine zHe ?_ NB103_104.out _;(with_reducible repeat (first|refine zAn ?_ _|refine zAt ?_|refine zAm ?_ _));exact BK103.out⟩,⟨by(with_reducible repeat (first|refine zAn ?_ _|refine zAt ?_|refine zAm ?_ _));refine zCc (cs:=#[.int .u64 a1,.int .u64 0]) ?_ 1 _ rfl;(with_reducible repeat (first|refine zAn ?_ _|refine zAt ?_|refine zAm ?_ _));refine zCc (cs:=#[.int .u64 0,.int .u64 0]) ?_ 0 _ rfl;(with_reducible repeat (first|refine zAn ?_ _|refine zAt ?_|refine zAm ?_ _));exact BK104.out⟩,⟨by repeat (first|(with_reducible first|exact HB.out|apply zBf|apply zA9|apply zB9|refine zBm ?_ GE103.out|refine zBm ?_ GE104.out)|exact HB.out)⟩⟩
  case round=>
   clear H';(try clear c4);(try clear c4b0);(try clear c4b1);(try clear hcz13_0);(try clear hcz13_1);(try clear hfz13_0);(try clear hfz13_1);obtain⟨x8_1,x105000_1,x105001_1,rfl,HA,HK1,BK103,BK104,HB⟩:=hrel
   cases gk with
   |zero=>exact absurd HA.out (by simp[Ye.l0])
   |succ k1=>
    have H:=HA.out;clear HA;simp only[Ye.l0] at H
    replace H:=zzC H;rcases H with⟨c14,H⟩|⟨c14,H⟩
    ·have c14b0:=xGx c14;clear c14;obtain⟨ji15,hji15⟩:∃ j_:Int,(IntKind.u64.wrap (wrap64 (x8_1+1)))=j_:=⟨_,rfl⟩
     replace H:(if 0≤(ji15) then(if(Go.bits .and .i64 (shr .i64 a0 (ji15)) 1)=1 then(if x8_1 < 4 then(if 0≤(IntKind.u64.wrap (wrap64 (16 * x8_1))) then(Ye.l0 k1 a0 (wrap64 (x8_1+1)) (Go.bits .andNot .u64 x105000_1 (shl .u64 65535 (IntKind.u64.wrap (wrap64 (16 * x8_1))))) x105001_1) else(none)) else(if 0≤(IntKind.u64.wrap (wrap64 (16 * (wrap64 (x8_1 - 4))))) then(Ye.l0 k1 a0 (wrap64 (x8_1+1)) x105000_1 (Go.bits .andNot .u64 x105001_1 (shl .u64 65535 (IntKind.u64.wrap (wrap64 (16 * (wrap64 (x8_1 - 4)))))))) else(none))) else(Ye.l0 k1 a0 (wrap64 (x8_1+1)) x105000_1 x105001_1)) else(none))=some (r1,r2,r3):=by first|(rw[hji15] at H;exact H)|(simp only[hji15] at H ⊢;exact H)
     have c16:=zzI H;rw[xGq c16] at H;have c16b0:=xG2 c16;have c16b1:=xGx c16;clear c16;obtain⟨ji17,hji17⟩:∃ j_:Int,(shr .i64 a0 (ji15))=j_:=⟨_,rfl⟩
     replace H:(if(Go.bits .and .i64 (ji17) 1)=1 then(if x8_1 < 4 then(if 0≤(IntKind.u64.wrap (wrap64 (16 * x8_1))) then(Ye.l0 k1 a0 (wrap64 (x8_1+1)) (Go.bits .andNot .u64 x105000_1 (shl .u64 65535 (IntKind.u64.wrap (wrap64 (16 * x8_1))))) x105001_1) else(none)) else(if 0≤(IntKind.u64.wrap (wrap64 (16 * (wrap64 (x8_1 - 4))))) then(Ye.l0 k1 a0 (wrap64 (x8_1+1)) x105000_1 (Go.bits .andNot .u64 x105001_1 (shl .u64 65535 (IntKind.u64.wrap (wrap64 (16 * (wrap64 (x8_1 - 4)))))))) else(none))) else(Ye.l0 k1 a0 (wrap64 (x8_1+1)) x105000_1 x105001_1))=some (r1,r2,r3):=by first|(rw[hji17] at H;exact H)|(simp only[hji17] at H ⊢;exact H)
     have hji17_:(a0 / 2 ^ min (ji15).toNat 64)=ji17:=hji17;have hji17z:(ji15)≤64→(a0 / 2 ^ (ji15).toNat)=ji17:=zJe hji17
     replace H:=zzC H;rcases H with⟨c18,H⟩|⟨c18,H⟩
     ·have c18b0:=beq_iff_eq.mpr c18;have c18b1:=bne_eq_false_iff_eq.mpr c18;clear c18
      replace H:=zzC H;rcases H with⟨c19,H⟩|⟨c19,H⟩
      ·have c19b0:=xGx c19;clear c19;obtain⟨ji20,hji20⟩:∃ j_:Int,(IntKind.u64.wrap (wrap64 (16 * x8_1)))=j_:=⟨_,rfl⟩
       replace H:(if 0≤(ji20) then(Ye.l0 k1 a0 (wrap64 (x8_1+1)) (Go.bits .andNot .u64 x105000_1 (shl .u64 65535 (ji20))) x105001_1) else(none))=some (r1,r2,r3):=by first|(rw[hji20] at H;exact H)|(simp only[hji20] at H ⊢;exact H)
       have c21:=zzI H;rw[xGq c21] at H;have c21b0:=xG2 c21;have c21b1:=xGx c21;clear c21;obtain⟨ji22,hji22⟩:∃ j_:Int,(shl .u64 65535 (ji20))=j_:=⟨_,rfl⟩
       replace H:(Ye.l0 k1 a0 (wrap64 (x8_1+1)) (Go.bits .andNot .u64 x105000_1 (ji22)) x105001_1)=some (r1,r2,r3):=by first|(rw[hji22] at H;exact H)|(simp only[hji22] at H ⊢;exact H)
       have hji22_:(IntKind.u64.wrap (65535 * 2 ^ min (ji20).toNat 64))=ji22:=hji22;have hji22z:(ji20)≤64→(IntKind.u64.wrap (65535 * 2 ^ (ji20).toNat))=ji22:=zFz hji22;have H':=Aside0.mk H;clear H;have hnb23:=NB104_103.out;have hnc23:=NB103_104.out;have hcz24_0:wr.cell? ⟨gb104,0,none⟩=some (.int .u64 x105000_1):=(zAj BK104.out 0).trans rfl;have hcz24_1:wr.cell? ⟨gb104,1,none⟩=some (.int .u64 x105001_1):=(zAj BK104.out 1).trans rfl;have hfz24_0:=zAc BK104.out 0;have hfz24_1:=zAc BK104.out 1;go_wp2
       go_roundg k1
       case measure=>have:=HK1.out;omega
       case rel=>exact⟨(wrap64 (x8_1+1)),(Go.bits .andNot .u64 x105000_1 (ji22)),(x105001_1),zzS,H',⟨by have:=HK1.out;omega⟩,⟨by(with_reducible repeat (first|refine zAn ?_ _|refine zAt ?_|refine zAm ?_ _));refine zHe ?_ NB103_104.out _;(with_reducible repeat (first|refine zAn ?_ _|refine zAt ?_|refine zAm ?_ _));exact BK103.out⟩,⟨by(with_reducible repeat (first|refine zAn ?_ _|refine zAt ?_|refine zAm ?_ _));refine zCc (cs:=#[.int .u64 x105000_1,.int .u64 x105001_1]) ?_ 0 _ rfl;(with_reducible repeat (first|refine zAn ?_ _|refine zAt ?_|refine zAm ?_ _));exact BK104.out⟩,⟨by repeat (first|(with_reducible first|exact HB.out|apply zBf|apply zA9|apply zB9|refine zBm ?_ GE103.out|refine zBm ?_ GE104.out)|exact HB.out)⟩⟩
      ·have c19b0:=xG1 c19;clear c19;obtain⟨ji25,hji25⟩:∃ j_:Int,(IntKind.u64.wrap (wrap64 (16 * (wrap64 (x8_1 - 4)))))=j_:=⟨_,rfl⟩
       replace H:(if 0≤(ji25) then(Ye.l0 k1 a0 (wrap64 (x8_1+1)) x105000_1 (Go.bits .andNot .u64 x105001_1 (shl .u64 65535 (ji25)))) else(none))=some (r1,r2,r3):=by first|(rw[hji25] at H;exact H)|(simp only[hji25] at H ⊢;exact H)
       have c26:=zzI H;rw[xGq c26] at H;have c26b0:=xG2 c26;have c26b1:=xGx c26;clear c26;obtain⟨ji27,hji27⟩:∃ j_:Int,(shl .u64 65535 (ji25))=j_:=⟨_,rfl⟩
       replace H:(Ye.l0 k1 a0 (wrap64 (x8_1+1)) x105000_1 (Go.bits .andNot .u64 x105001_1 (ji27)))=some (r1,r2,r3):=by first|(rw[hji27] at H;exact H)|(simp only[hji27] at H ⊢;exact H)
       have hji27_:(IntKind.u64.wrap (65535 * 2 ^ min (ji25).toNat 64))=ji27:=hji27;have hji27z:(ji25)≤64→(IntKind.u64.wrap (65535 * 2 ^ (ji25).toNat))=ji27:=zFz hji27;have H':=Aside0.mk H;clear H;have hnb28:=NB104_103.out;have hnc28:=NB103_104.out;have hcz29_0:wr.cell? ⟨gb104,0,none⟩=some (.int .u64 x105000_1):=(zAj BK104.out 0).trans rfl;have hcz29_1:wr.cell? ⟨gb104,1,none⟩=some (.int .u64 x105001_1):=(zAj BK104.out 1).trans rfl;have hfz29_0:=zAc BK104.out 0;have hfz29_1:=zAc BK104.out 1;go_wp2
       go_roundg k1
       case measure=>have:=HK1.out;omega
       case rel=>exact⟨(wrap64 (x8_1+1)),(x105000_1),(Go.bits .andNot .u64 x105001_1 (ji27)),zzS,H',⟨by have:=HK1.out;omega⟩,⟨by(with_reducible repeat (first|refine zAn ?_ _|refine zAt ?_|refine zAm ?_ _));refine zHe ?_ NB103_104.out _;(with_reducible repeat (first|refine zAn ?_ _|refine zAt ?_|refine zAm ?_ _));exact BK103.out⟩,⟨by(with_reducible repeat (first|refine zAn ?_ _|refine zAt ?_|refine zAm ?_ _));refine zCc (cs:=#[.int .u64 x105000_1,.int .u64 x105001_1]) ?_ 1 _ rfl;(with_reducible repeat (first|refine zAn ?_ _|refine zAt ?_|refine zAm ?_ _));exact BK104.out⟩,⟨by repeat (first|(with_reducible first|exact HB.out|apply zBf|apply zA9|apply zB9|refine zBm ?_ GE103.out|refine zBm ?_ GE104.out)|exact HB.out)⟩⟩
     ·have c18b0:=beq_eq_false_iff_ne.mpr c18;have c18b1:=bne_iff_ne.mpr c18;have H':=Aside0.mk H;clear H;go_wp2
      go_roundg k1
      case measure=>have:=HK1.out;omega
      case rel=>exact⟨(wrap64 (x8_1+1)),(x105000_1),(x105001_1),zzS,H',⟨by have:=HK1.out;omega⟩,⟨zzK BK103⟩,⟨zzK BK104⟩,⟨by repeat (first|(with_reducible first|exact HB.out|apply zBf|apply zA9|apply zB9|refine zBm ?_ GE103.out|refine zBm ?_ GE104.out)|exact HB.out)⟩⟩
    ·have c14b0:=xG1 c14;clear c14;simp only[xGu,xG5] at H;obtain⟨rfl,rfl,rfl⟩:=H;have hnb30:=NB104_103.out;have hnc30:=NB103_104.out;have hcz31_0:wr.cell? ⟨gb104,0,none⟩=some (.int .u64 x105000_1):=(zAj BK104.out 0).trans rfl;have hcz31_1:wr.cell? ⟨gb104,1,none⟩=some (.int .u64 x105001_1):=(zAj BK104.out 1).trans rfl;have hfz31_0:=zAc BK104.out 0;have hfz31_1:=zAc BK104.out 1;have hcz32_0:wr.cell? ⟨gb103,0,none⟩=some (.int .i64 0):=(zAj BK103.out 0).trans rfl;have hcz32_1:wr.cell? ⟨gb103,1,none⟩=some (.int .u64 0):=(zAj BK103.out 1).trans rfl;have hcz32_2:wr.cell? ⟨gb103,2,none⟩=some (.int .u64 0):=(zAj BK103.out 2).trans rfl;have hfz32_0:=zAc BK103.out 0;have hfz32_1:=zAc BK103.out 1;have hfz32_2:=zAc BK103.out 2;go_wp2;refine bodyPost_ret (results_cell_row rfl _ _ gb103 28 #[.int .i64 6,.int .u64 x105000_1,.int .u64 x105001_1] (0,0) _ rfl (by(with_reducible repeat (first|refine zAn ?_ _|refine zAt ?_|refine zAm ?_ _));refine zCc (cs:=#[.int .i64 6,.int .u64 x105000_1,.int .u64 0]) ?_ 2 _ rfl;(with_reducible repeat (first|refine zAn ?_ _|refine zAt ?_|refine zAm ?_ _));refine zCc (cs:=#[.int .i64 6,.int .u64 0,.int .u64 0]) ?_ 1 _ rfl;(with_reducible repeat (first|refine zAn ?_ _|refine zAt ?_|refine zAm ?_ _));refine zCc (cs:=#[.int .i64 0,.int .u64 0,.int .u64 0]) ?_ 0 _ rfl;(with_reducible repeat (first|refine zAn ?_ _|refine zAt ?_|refine zAm ?_ _));exact BK103.out) Tryz.underlying28 rfl (by kernel_rfl)) rfl ?_;exact⟨zzE,by repeat (first|(with_reducible first|exact HB.out|apply zBf|apply zA9|apply zB9|refine zBm ?_ GE103.out|refine zBm ?_ GE104.out)|exact HB.out)⟩
def Yg0.f (a0:Int):Option (Int):=some (Go.bits .xor .u64 18446744073709551615 (18446744073709551615 / 2 ^ (mn (mx a0 0) 64).toNat))
set_option maxRecDepth 100000 in
theorem Yg0.calls (a0:Int)(r:Int)(w:World)(hG:GoodW w)(h:Yg0.f a0=some r):
  Calls Tryz.prog 95 #[.int .i64 a0] w fun e w'=>e=.returned (.int .u64 r)∧Below w.heap.size w w':=by
 have HB:=Aside0.mk (Below.refl w.heap.size w);have H:=h;unfold Yg0.f at H;clear h;obtain⟨ji2,hji2⟩:∃ j_:Int,(mx a0 0)=j_:=⟨_,rfl⟩
 replace H:(some (Go.bits .xor .u64 18446744073709551615 (18446744073709551615 / 2 ^ (mn (ji2) 64).toNat)))=some r:=by first|(rw[hji2] at H;exact H)|(simp only[hji2] at H ⊢;exact H)
 (try(have hji2l:0≤ji2:=by(rw[← hji2];unfold mx;(repeat' split)<;>omega)))
 (try(have hji2m:0≤ji2:=by omega))
 have hji2_:(if a0 < 0 then 0 else a0)=ji2:=hji2;obtain⟨ji3,hji3⟩:∃ j_:Int,(mn (ji2) 64)=j_:=⟨_,rfl⟩
 replace H:(some (Go.bits .xor .u64 18446744073709551615 (18446744073709551615 / 2 ^ (ji3).toNat)))=some r:=by first|(rw[hji3] at H;exact H)|(simp only[hji3] at H ⊢;exact H)
 have hji3_:(if 64 < (ji2) then 64 else(ji2))=ji3:=hji3;obtain rfl:=xHc H;go_enter Tryz.func95,Tryz.ntmps95;go_wp2
 go_ret
 exact⟨by first|rfl|(simp[errW_none,errW_some]<;>rfl)|(simp only[← hji2,← hji3];first|rfl|(simp[errW_none,errW_some]<;>rfl))|(simp[*,errW_none,errW_some]<;>rfl),zzB⟩
def YX.j0:Nat→Int→Bool→Option (Int×Int)
 |0,_,_=>none
 |k+1,x0,x3=>if x3=true then(some (0,0)) else(if x0 < 64 then(if 0≤x0 then(some (0,shl .u64 1 x0)) else(none)) else(if 0≤(wrap64 (x0 - 64)) then(some (shl .u64 1 (wrap64 (x0 - 64)),0)) else(none)))
def YX.f (k:Nat)(a0:Int):Option (Int×Int):=if a0 < 0 then(YX.j0 k a0 true) else(YX.j0 k a0 (decide (a0 > 127)))
set_option maxRecDepth 100000 in
theorem YX.calls (k:Nat)(a0:Int)(r1:Int)(r2:Int)(w:World)(hG:GoodW w)(h:YX.f k a0=some (r1,r2)):
  Calls Tryz.prog 99 #[.int .i64 a0] w fun e w'=>e=.returned (.agg #[.int .u64 r1,.int .u64 r2])∧Below w.heap.size w w':=by
 have hu26:=Tryz.underlying26;have HB:=Aside0.mk (Below.refl w.heap.size w);have H:=h;unfold YX.f at H;clear h;have HC2:=Aside0.mk H;clear H;go_enter Tryz.func99,Tryz.ntmps99
 go_upto_region 1 with(first|((with_reducible refine zBv (N:=2) rfl ?_);refine zCr ?hg (N:=2) ?hd (cs:=#[.int .u64 0,.int .u64 0]) (t:=26) ?hr ?_;(case hd=>rfl);(case hg=>rfl);(case hr=>first|(go_simp;done)|(go_simp;rfl));intro gb105 hg w3 hbox hb;have n0_:=Aside0.mk (zAe zzB hb);have n1_:=Aside0.mk (hbox);have n2_:=Aside0.mk ((by rw[hg];exact(zAi zzB):w.heap.size≤gb105));have n3_:=Aside0.mk ((by rw[hg];exact(zAi zzB):w.heap.size≤gb105));clear HB;have HB:=n0_;have BK105:=n1_;have GW105:=n2_;have GE105:=n3_;clear n0_ n1_ n2_ n3_;clear hb hbox hg))
 (try simp only[Act.put,List.setIfInBounds_toArray,List.set_cons_zero,List.set_cons_succ])
 go_cut [3] (fun v3 wc=>∃ (kq:Nat) (x3_1:Bool),v3=.bool x3_1∧Aside0 (YX.j0 kq a0 x3_1=some (r1,r2))∧Aside0 (kq≤k)∧Aside0 (wc.heap[gb105]?=some (.cells #[.int .u64 0,.int .u64 0] 26 (0,0)))∧Aside0 (Below w.heap.size w wc))
 case first=>
  have H:=HC2.out;clear HC2
  replace H:=zzC H;rcases H with⟨c4,H⟩|⟨c4,H⟩
  ·have c4b0:=xGx c4;clear c4
   (first|rw[c4b0]|(simp only[zFy,zH0];rw[c4b0])|skip)
   have H':=Aside0.mk H;clear H;go_wp2;go_meet
   case rel=>exact⟨_,(true),zzS,H',⟨by first|omega|exact xGv _⟩,⟨zzK BK105⟩,⟨zEz GE105⟩⟩
  ·have c4b0:=xG1 c4;clear c4
   (first|rw[c4b0]|(simp only[zFy,zH0];rw[c4b0])|skip)
   have H':=Aside0.mk H;clear H;go_wp2;go_meet
   case rel=>exact⟨_,(decide (a0 > 127)),zzS,H',⟨by first|omega|exact xGv _⟩,⟨zzK BK105⟩,⟨zEz GE105⟩⟩
 case rest=>
  clear HC2;obtain⟨kq,x3_1,rfl,HA,HJ1,BK105,HB⟩:=hcut
  cases kq with
  |zero=>exact absurd HA.out (by simp[YX.j0])
  |succ kj1=>
   have H:=HA.out;clear HA;simp only[YX.j0] at H
   by_cases c5:x3_1=true
   ·subst c5;have H1:=H;rw[xGq rfl] at H1;clear H;have H:=H1;clear H1;simp only[xGu,xG5] at H;obtain⟨rfl,rfl⟩:=H;have hcz6_0:wc.cell? ⟨gb105,0,none⟩=some (.int .u64 0):=(zAj BK105.out 0).trans rfl;have hcz6_1:wc.cell? ⟨gb105,1,none⟩=some (.int .u64 0):=(zAj BK105.out 1).trans rfl;have hfz6_0:=zAc BK105.out 0;have hfz6_1:=zAc BK105.out 1;go_wp2;refine bodyPost_ret (results_cell_row rfl _ _ gb105 26 #[.int .u64 0,.int .u64 0] (0,0) _ rfl (by(with_reducible repeat (first|refine zAn ?_ _|refine zAt ?_|refine zAm ?_ _));refine zCc (cs:=#[.int .u64 0,.int .u64 0]) ?_ 1 _ rfl;(with_reducible repeat (first|refine zAn ?_ _|refine zAt ?_|refine zAm ?_ _));refine zCc (cs:=#[.int .u64 0,.int .u64 0]) ?_ 0 _ rfl;(with_reducible repeat (first|refine zAn ?_ _|refine zAt ?_|refine zAm ?_ _));exact BK105.out) Tryz.underlying26 rfl (by kernel_rfl)) rfl ?_;exact⟨zzE,zEz GE105⟩
   ·replace c5:=Bool.eq_false_iff.mpr c5;subst c5
    have H1:(if a0 < 64 then(if 0≤a0 then(some (0,shl .u64 1 a0)) else(none)) else(if 0≤(wrap64 (a0 - 64)) then(some (shl .u64 1 (wrap64 (a0 - 64)),0)) else(none)))=some (r1,r2):=by rw[xGr (show ¬ (false=true) by decide)] at H;exact H
    clear H;have H:=H1;clear H1
    replace H:=zzC H;rcases H with⟨c7,H⟩|⟨c7,H⟩
    ·have c7b0:=xGx c7;clear c7
     have c8:=zzI H;rw[xGq c8] at H;have c8b0:=xG2 c8;have c8b1:=xGx c8;clear c8;obtain⟨ji9,hji9⟩:∃ j_:Int,(shl .u64 1 a0)=j_:=⟨_,rfl⟩
     replace H:(some (0,ji9))=some (r1,r2):=by first|(rw[hji9] at H;exact H)|(simp only[hji9] at H ⊢;exact H)
     have hji9_:(IntKind.u64.wrap (1 * 2 ^ min a0.toNat 64))=ji9:=hji9;have hji9z:a0≤64→(IntKind.u64.wrap (1 * 2 ^ a0.toNat))=ji9:=zFz hji9
     have hji9u:(IntKind.u64.wrap (2 ^ min a0.toNat 64))=ji9:=by have h_:=hji9_;rw[Int.one_mul] at h_;exact h_
     have hji9v:a0≤64→(IntKind.u64.wrap (2 ^ a0.toNat))=ji9:=fun hle_=>by have h_:=hji9z hle_;rw[Int.one_mul] at h_;exact h_
     simp only[xGu,xG5] at H;obtain⟨rfl,rfl⟩:=H;have hcz10_0:wc.cell? ⟨gb105,0,none⟩=some (.int .u64 0):=(zAj BK105.out 0).trans rfl;have hcz10_1:wc.cell? ⟨gb105,1,none⟩=some (.int .u64 0):=(zAj BK105.out 1).trans rfl;have hfz10_0:=zAc BK105.out 0;have hfz10_1:=zAc BK105.out 1;go_wp2;refine bodyPost_ret (results_cell_row rfl _ _ gb105 26 #[.int .u64 0,.int .u64 ji9] (0,0) _ rfl (by(with_reducible repeat (first|refine zAn ?_ _|refine zAt ?_|refine zAm ?_ _));refine zCc (cs:=#[.int .u64 0,.int .u64 0]) ?_ 1 _ rfl;(with_reducible repeat (first|refine zAn ?_ _|refine zAt ?_|refine zAm ?_ _));refine zCc (cs:=#[.int .u64 0,.int .u64 0]) ?_ 0 _ rfl;(with_reducible repeat (first|refine zAn ?_ _|refine zAt ?_|refine zAm ?_ _));exact BK105.out) Tryz.underlying26 rfl (by kernel_rfl)) rfl ?_;exact⟨by first|rfl|(simp[errW_none,errW_some]<;>rfl)|(simp only[← hji9];first|rfl|(simp[errW_none,errW_some]<;>rfl))|(simp[*,errW_none,errW_some]<;>rfl),zEz GE105⟩
    ·have c7b0:=xG1 c7;clear c7;obtain⟨ji11,hji11⟩:∃ j_:Int,(wrap64 (a0 - 64))=j_:=⟨_,rfl⟩
     replace H:(if 0≤(ji11) then(some (shl .u64 1 (ji11),0)) else(none))=some (r1,r2):=by first|(rw[hji11] at H;exact H)|(simp only[hji11] at H ⊢;exact H)
     have hji11w:(IntKind.i64.wrap (a0 - 64))=ji11:=(zFy _).trans hji11
     have c12:=zzI H;rw[xGq c12] at H;have c12b0:=xG2 c12;have c12b1:=xGx c12;clear c12;obtain⟨ji13,hji13⟩:∃ j_:Int,(shl .u64 1 (ji11))=j_:=⟨_,rfl⟩
     replace H:(some (ji13,0))=some (r1,r2):=by first|(rw[hji13] at H;exact H)|(simp only[hji13] at H ⊢;exact H)
     have hji13_:(IntKind.u64.wrap (1 * 2 ^ min (ji11).toNat 64))=ji13:=hji13;have hji13z:(ji11)≤64→(IntKind.u64.wrap (1 * 2 ^ (ji11).toNat))=ji13:=zFz hji13
     have hji13u:(IntKind.u64.wrap (2 ^ min (ji11).toNat 64))=ji13:=by have h_:=hji13_;rw[Int.one_mul] at h_;exact h_
     have hji13v:(ji11)≤64→(IntKind.u64.wrap (2 ^ (ji11).toNat))=ji13:=fun hle_=>by have h_:=hji13z hle_;rw[Int.one_mul] at h_;exact h_
     simp only[xGu,xG5] at H;obtain⟨rfl,rfl⟩:=H;have hcz14_0:wc.cell? ⟨gb105,0,none⟩=some (.int .u64 0):=(zAj BK105.out 0).trans rfl;have hcz14_1:wc.cell? ⟨gb105,1,none⟩=some (.int .u64 0):=(zAj BK105.out 1).trans rfl;have hfz14_0:=zAc BK105.out 0;have hfz14_1:=zAc BK105.out 1;go_wp2;refine bodyPost_ret (results_cell_row rfl _ _ gb105 26 #[.int .u64 ji13,.int .u64 0] (0,0) _ rfl (by(with_reducible repeat (first|refine zAn ?_ _|refine zAt ?_|refine zAm ?_ _));refine zCc (cs:=#[.int .u64 ji13,.int .u64 0]) ?_ 1 _ rfl;(with_reducible repeat (first|refine zAn ?_ _|refine zAt ?_|refine zAm ?_ _));refine zCc (cs:=#[.int .u64 0,.int .u64 0]) ?_ 0 _ rfl;(with_reducible repeat (first|refine zAn ?_ _|refine zAt ?_|refine zAm ?_ _));exact BK105.out) Tryz.underlying26 rfl (by kernel_rfl)) rfl ?_;exact⟨by first|rfl|(simp[errW_none,errW_some]<;>rfl)|(simp only[← hji11,← hji13];first|rfl|(simp[errW_none,errW_some]<;>rfl))|(simp[*,errW_none,errW_some]<;>rfl),zEz GE105⟩
def Yp0.f (a0_0:Int)(a0_1:Int)(a1_0:Int)(a1_1:Int):Option (Int×Int×Bool):=if(inQ a0_0 a0_1&&inQ a1_0 a1_1)=true then some ((((zJc (qn a0_0 a0_1) (qn a1_0 a1_1)) / M64:Nat):Int),(((zJc (qn a0_0 a0_1) (qn a1_0 a1_1)) % M64:Nat):Int),decide (qn a0_0 a0_1+qn a1_0 a1_1 < zB1)) else none
theorem Yp0.calls (a0_0:Int)(a0_1:Int)(a1_0:Int)(a1_1:Int)(r1:Int)(r2:Int)(r3:Bool)(w:World)(hG:GoodW w)(h:Yp0.f a0_0 a0_1 a1_0 a1_1=some (r1,r2,r3)):
  Calls Tryz.prog 98 #[.agg #[.int .u64 a0_0,.int .u64 a0_1],.agg #[.int .u64 a1_0,.int .u64 a1_1]] w fun e w'=>e=.returned (.tuple #[.agg #[.int .u64 r1,.int .u64 r2],.bool r3])∧Below w.heap.size w w':=by exact yHg hG h
def bits_TrailingZeros64.f (a0:Int):Option (Int):=if 0≤a0∧a0 < 18446744073709551616 then some ((Lib.ctz 64 a0.toNat:Nat):Int) else none
theorem bits_TrailingZeros64.calls (a0:Int)(r:Int)(w:World)(hG:GoodW w)(h:bits_TrailingZeros64.f a0=some r):
  Calls Tryz.prog 109 #[.int .u64 a0] w fun e w'=>e=.returned (.int .i64 r)∧Drawn0 w w':=by exact yRy hG h
end Go.Proofs.YtfnacgojmdbjmaaGreatDoor.PRD
namespace Go.Proofs.YtfnacgojmdbjmaaGreatDoor.PRD
open Go.RowKit Go.Proofs.ZW Go.Proofs.ZL Go.Proofs.ZM
open Go.Det (inQ M64 zB1 qn zJc zJb zFf)
def Yr.f (a0:Int):Option (Int):=if a0=4 then(some 32) else(if a0=6 then(some 128) else(some 0))
def Ys.f (a0_0:Int)(a0_1:Int)(a1_0:Int)(a1_1:Int):Option (Int×Int):=some (Go.bits .and .u64 a0_0 a1_0,Go.bits .and .u64 a0_1 a1_1)
def YG.f (a0_0:Int)(a0_1:Int):Option (Int×Int):=some (Go.bits .xor .u64 18446744073709551615 a0_0,Go.bits .xor .u64 18446744073709551615 a0_1)
def YF.f (a0:Int)(a1:Int):Option (Int×Int):=(Yr.f a0).bind fun t131=>((Yc.f 300 (wrap64 ((wrap64 (128 - t131))+a1))).bind fun bt132=>((Yr.f a0).bind fun t134=>((Yc.f 300 (wrap64 (128 - t134))).bind fun bt135=>((YG.f bt135.1 bt135.2).bind fun bt137=>((Ys.f bt132.1 bt132.2 bt137.1 bt137.2).bind fun bt139=>(some (bt139.1,bt139.2)))))))
def Ym.f (a0_0:Int)(a0_1:Int)(a0_2:Int):Option (Bool):=if a0_0=6 then(some true) else(if a0_0=4 then(if a0_1=0 then(some (decide (a0_2 < 4294967296))) else(some false)) else(some false))
def Yi.f (a0_0:Int)(a0_1:Int)(a0_2:Int)(a0_3:Int):Option (Bool):=(Ym.f a0_0 a0_1 a0_2).bind fun t142=>(if t142=true then(if a0_3 ≥ 0 then((Yr.f a0_0).bind fun t143=>(if a0_3≤t143 then((YF.f a0_0 a0_3).bind fun bt144=>((Ys.f a0_1 a0_2 bt144.1 bt144.2).bind fun bt146=>(some (bt146.1==a0_1&&(bt146.2==a0_2))))) else(some false))) else(some false)) else(some false))
def Yq.f (a0_0:Int)(a0_1:Int)(a0_2:Int)(a0_3:Int):Option (Int×Int×Int):=(Yi.f a0_0 a0_1 a0_2 a0_3).bind fun t150=>(if t150=true then((YF.f a0_0 a0_3).bind fun bt151=>((YG.f bt151.1 bt151.2).bind fun bt153=>((Yr.f a0_0).bind fun t155=>((Yc.f 300 (wrap64 (128 - t155))).bind fun bt156=>((YG.f bt156.1 bt156.2).bind fun bt158=>((Ys.f bt153.1 bt153.2 bt158.1 bt158.2).bind fun bt160=>(some (a0_0,Go.bits .or .u64 a0_1 bt160.1,Go.bits .or .u64 a0_2 bt160.2)))))))) else(some (0,0,0)))
def YN.f (a0_0:Int)(a0_1:Int)(a1_0:Int)(a1_1:Int):Option (Int×Int×Bool):=if(IntKind.u64.wrap (a0_1+a1_1)) < a0_1 then(if(IntKind.u64.wrap (a0_0+a1_0)) < a0_0 then(some (0,0,false)) else(if(IntKind.u64.wrap ((IntKind.u64.wrap (a0_0+a1_0))+1)) < (IntKind.u64.wrap (a0_0+a1_0)) then(some (0,0,false)) else(some (IntKind.u64.wrap ((IntKind.u64.wrap (a0_0+a1_0))+1),IntKind.u64.wrap (a0_1+a1_1),true)))) else(if(IntKind.u64.wrap (a0_0+a1_0)) < a0_0 then(some (0,0,false)) else(if(IntKind.u64.wrap ((IntKind.u64.wrap (a0_0+a1_0))+0)) < (IntKind.u64.wrap (a0_0+a1_0)) then(some (0,0,false)) else(some (IntKind.u64.wrap ((IntKind.u64.wrap (a0_0+a1_0))+0),IntKind.u64.wrap (a0_1+a1_1),true))))
def YZ.f (a0:Int)(a1:Int)(a2:Int)(a3:Int):Option (Int×Int×Int×Int):=(Ye.f 300 a0 a1 a2).bind fun bt111=>((Yr.f bt111.1).bind fun t115=>(if(wrap64 (t115+1))=0 then(none) else((Yr.f bt111.1).bind fun t116=>((Yc.f 300 (wrap64 ((wrap64 (128 - t116))+(Int.tmod (Go.bits .and .i64 a3 255) (wrap64 (t115+1)))))).bind fun bt117=>((Yr.f bt111.1).bind fun t119=>((Yc.f 300 (wrap64 (128 - t119))).bind fun bt120=>((YG.f bt120.1 bt120.2).bind fun bt122=>((Ys.f bt117.1 bt117.2 bt122.1 bt122.2).bind fun bt124=>((Ys.f bt111.2.1 bt111.2.2 bt124.1 bt124.2).bind fun bt127=>(some (bt111.1,bt127.1,bt127.2,Int.tmod (Go.bits .and .i64 a3 255) (wrap64 (t115+1)))))))))))))
def YY.f (a0_0:Int)(a0_1:Int)(a1_0:Int)(a1_1:Int):Option (Int×Int):=some (Go.bits .and .u64 a0_0 a1_0,Go.bits .and .u64 a0_1 a1_1)
def Yw0.f (a0_0:Int)(a0_1:Int)(a1_0:Int)(a1_1:Int):Option (Int×Int):=some (Go.bits .or .u64 a0_0 a1_0,Go.bits .or .u64 a0_1 a1_1)
def Yi0.f (a0_0:Int)(a0_1:Int):Option (Int×Int):=some (Go.bits .xor .u64 18446744073709551615 a0_0,Go.bits .xor .u64 18446744073709551615 a0_1)
def YO.f (a0:Int):Option (Int):=if a0=4 then(some 32) else(if a0=6 then(some 128) else(some 0))
def Yh0.f (a0:Int):Option (Int×Int):=(Yg0.f a0).bind fun t167=>((Yg0.f (wrap64 ((mn a0 128) - 64))).bind fun t168=>(some (t167,t168)))
def YP.f (a0:Int)(a1:Int):Option (Int×Int):=(YO.f a0).bind fun t170=>((Yh0.f (wrap64 ((wrap64 (128 - t170))+a1))).bind fun bt171=>(some (bt171.1,bt171.2)))
def YK.f (a0_0:Int)(a0_1:Int)(a0_2:Int):Option (Bool):=if a0_0=6 then(some true) else(if a0_0=4 then(if a0_1=0 then(some (decide (a0_2 < 4294967296))) else(some false)) else(some false))
def YV.f (a0_0:Int)(a0_1:Int)(a0_2:Int)(a0_3:Int):Option (Bool):=(YK.f a0_0 a0_1 a0_2).bind fun t177=>(if t177=true then(if a0_3 < 0 then(some false) else((YO.f a0_0).bind fun t178=>(if a0_3 > t178 then(some false) else((YP.f a0_0 a0_3).bind fun bt179=>((Yi0.f bt179.1 bt179.2).bind fun bt181=>((YY.f a0_1 a0_2 bt181.1 bt181.2).bind fun bt183=>(some (bt183.1==0&&(bt183.2==0))))))))) else(some false))
def YT.f (a0_0:Int)(a0_1:Int)(a0_2:Int)(a0_3:Int):Option (Int×Int×Int):=(YV.f a0_0 a0_1 a0_2 a0_3).bind fun t190=>(if t190=true then((YO.f a0_0).bind fun t191=>((Yh0.f (wrap64 (128 - t191))).bind fun bt192=>((YP.f a0_0 a0_3).bind fun bt195=>((Yi0.f bt195.1 bt195.2).bind fun bt197=>((Yi0.f bt192.1 bt192.2).bind fun bt199=>((YY.f bt197.1 bt197.2 bt199.1 bt199.2).bind fun bt201=>((Yw0.f a0_1 a0_2 bt201.1 bt201.2).bind fun bt203=>(some (a0_0,bt203.1,bt203.2))))))))) else(some (0,0,0)))
def Yl0.f (a0_0:Int)(a0_1:Int)(a1_0:Int)(a1_1:Int):Option (Bool):=if a0_0 < a1_0 then(some true) else(if a0_0=a1_0 then(some (decide (a0_1 < a1_1))) else(some false))
def Yx.f (a0_0:Int)(a0_1:Int)(a0_2:Int)(a1_0:Int)(a1_1:Int)(a1_2:Int):Option (Bool):=if a0_0 < a1_0 then(some true) else(if a0_0=a1_0 then((Yl0.f a0_1 a0_2 a1_1 a1_2).bind fun t209=>(some t209)) else(some false))
def YE.f (a0_0:Int)(a0_1:Int)(a0_2:Int)(a0_3:Int)(a0_4:Int)(a0_5:Int):Option (Bool):=(YK.f a0_0 a0_1 a0_2).bind fun t211=>(if t211=true then((YK.f a0_3 a0_4 a0_5).bind fun t212=>(if t212=true then(if a0_0=a0_3 then((Yx.f a0_3 a0_4 a0_5 a0_0 a0_1 a0_2).bind fun t213=>(some (!t213))) else(some false)) else(some false))) else(some false))
def Yv0.f (a0_0:Int)(a0_1:Int):Option (Int):=if a0_1=0 then((bits_TrailingZeros64.f a0_0).bind fun t215=>(some (wrap64 (64+t215)))) else((bits_TrailingZeros64.f a0_1).bind fun t216=>(some t216))
def Yc0.f (a0_0:Int)(a0_1:Int)(a0_2:Int):Option (Int×Int×Int×Bool):=(YX.f 300 0).bind fun bt231=>((Yp0.f a0_1 a0_2 bt231.1 bt231.2).bind fun bt233=>(if bt233.2.2=true then((YK.f a0_0 a0_1 a0_2).bind fun t238=>(if t238=true then((YK.f a0_0 bt233.1 bt233.2.1).bind fun t239=>(if t239=true then(some (a0_0,bt233.1,bt233.2.1,true)) else(some (0,0,0,false)))) else(some (0,0,0,false)))) else(some (0,0,0,false))))
end Go.Proofs.YtfnacgojmdbjmaaGreatDoor.PRD
namespace Go.Proofs.YtfnacgojmdbjmaaGreatDoor
open Go.Det Go.RowKit PRD Go.Proofs.ZW
def yCc:List Value→Option (Int)
 |[.int .u64 a]=>some (a)
 |_=>none
def yR0 (x:Int):List Value:=[.int .u64 x]
theorem zZn {args:List Value}{a:Int}(h:yCc args=some a):args=yR0 a:=by
 unfold yCc at h
 split at h
 case h_2=>cases h
 cases h;rfl
def yR1 (y:Int):Value:=.int .i64 y
def con109:Con:=Con.opt yCc (fun x=>bits_TrailingZeros64.f x) yR1
theorem yU9 {W:World}(hW:GoodW W):zAk Tryz.prog W 6 109 con109.own:=by
 refine zA6 (fn:=Tryz.f109) (c:=zAa Tryz.f109) hW Tryz.func109 (by kernel_rfl) (by kernel_rfl) fun args v h=>?_
 split at h
 case h_2=>cases h
 rename_i a ha
 split at h
 case h_2=>cases h
 rename_i b hb
 cases h
 obtain rfl:=zZn ha
 refine⟨rfl,rfl,fun w hG=>?_⟩
 first|exact bits_TrailingZeros64.calls a b w hG hb|exact(bits_TrailingZeros64.calls a b w hG hb).mono fun e w' h=>⟨h.1,h.2.below⟩
def yLh:List Value→Option (Int×Int×Int×Int)
 |[.agg ⟨[.int .u64 a,.int .u64 b]⟩,.agg ⟨[.int .u64 c,.int .u64 d]⟩]=>some (a,b,c,d)
 |_=>none
def yVa (x:Int×Int×Int×Int):List Value:=[.agg #[.int .u64 x.1,.int .u64 x.2.1],.agg #[.int .u64 x.2.2.1,.int .u64 x.2.2.2]]
theorem yCd {args:List Value}{a:Int×Int×Int×Int}(h:yLh args=some a):args=yVa a:=by
 unfold yLh at h
 split at h
 case h_2=>cases h
 cases h;rfl
def yVb (y:Int×Int×Bool):Value:=.tuple #[.agg #[.int .u64 y.1,.int .u64 y.2.1],.bool y.2.2]
def con98:Con:=Con.opt yLh (fun x=>Yp0.f x.1 x.2.1 x.2.2.1 x.2.2.2) yVb
theorem yZd {W:World}(hW:GoodW W):zAk Tryz.prog W 6 98 con98.own:=by
 refine zA6 (fn:=Tryz.f98) (c:=zAa Tryz.f98) hW Tryz.func98 (by kernel_rfl) (by kernel_rfl) fun args v h=>?_
 split at h
 case h_2=>cases h
 rename_i a ha
 split at h
 case h_2=>cases h
 rename_i b hb
 cases h
 obtain rfl:=yCd ha
 refine⟨rfl,rfl,fun w hG=>?_⟩
 first|exact Yp0.calls a.1 a.2.1 a.2.2.1 a.2.2.2 b.1 b.2.1 b.2.2 w hG hb|exact(Yp0.calls a.1 a.2.1 a.2.2.1 a.2.2.2 b.1 b.2.1 b.2.2 w hG hb).mono fun e w' h=>⟨h.1,h.2.below⟩
def yLi:List Value→Option (Int)
 |[.int .i64 a]=>some (a)
 |_=>none
def yVc (x:Int):List Value:=[.int .i64 x]
theorem yCe {args:List Value}{a:Int}(h:yLi args=some a):args=yVc a:=by
 unfold yLi at h
 split at h
 case h_2=>cases h
 cases h;rfl
def yVd (y:Int):Value:=.int .u64 y
def con95:Con:=Con.opt yLi (fun x=>Yg0.f x) yVd
theorem yZe {W:World}(hW:GoodW W):zAk Tryz.prog W 6 95 con95.own:=by
 refine zA6 (fn:=Tryz.f95) (c:=zAa Tryz.f95) hW Tryz.func95 (by kernel_rfl) (by kernel_rfl) fun args v h=>?_
 split at h
 case h_2=>cases h
 rename_i a ha
 split at h
 case h_2=>cases h
 rename_i b hb
 cases h
 obtain rfl:=yCe ha
 refine⟨rfl,rfl,fun w hG=>?_⟩
 first|exact Yg0.calls a b w hG hb|exact(Yg0.calls a b w hG hb).mono fun e w' h=>⟨h.1,h.2.below⟩
def yLj:List Value→Option (Int)
 |[.int .i64 a]=>some (a)
 |_=>none
def yVe (x:Int):List Value:=[.int .i64 x]
theorem yCf {args:List Value}{a:Int}(h:yLj args=some a):args=yVe a:=by
 unfold yLj at h
 split at h
 case h_2=>cases h
 cases h;rfl
def yVf (y:Int×Int):Value:=.agg #[.int .u64 y.1,.int .u64 y.2]
def con99:Con:=Con.opt yLj (fun x=>YX.f 300 x) yVf
theorem yZf {W:World}(hW:GoodW W):zAk Tryz.prog W 6 99 con99.own:=by
 refine zA6 (fn:=Tryz.f99) (c:=zAa Tryz.f99) hW Tryz.func99 (by kernel_rfl) (by kernel_rfl) fun args v h=>?_
 split at h
 case h_2=>cases h
 rename_i a ha
 split at h
 case h_2=>cases h
 rename_i b hb
 cases h
 obtain rfl:=yCf ha
 refine⟨rfl,rfl,fun w hG=>?_⟩
 first|exact YX.calls 300 a b.1 b.2 w hG hb|exact(YX.calls 300 a b.1 b.2 w hG hb).mono fun e w' h=>⟨h.1,h.2.below⟩
def yLk:List Value→Option (Int)
 |[.int .i64 a]=>some (a)
 |_=>none
def yVg (x:Int):List Value:=[.int .i64 x]
theorem yCg {args:List Value}{a:Int}(h:yLk args=some a):args=yVg a:=by
 unfold yLk at h
 split at h
 case h_2=>cases h
 cases h;rfl
def yVh (y:Int×Int):Value:=.agg #[.int .u64 y.1,.int .u64 y.2]
def con56:Con:=Con.opt yLk (fun x=>Yc.f 300 x) yVh
theorem yVi {W:World}(hW:GoodW W):zAk Tryz.prog W 6 56 con56.own:=by
 refine zA6 (fn:=Tryz.f56) (c:=zAa Tryz.f56) hW Tryz.func56 (by kernel_rfl) (by kernel_rfl) fun args v h=>?_
 split at h
 case h_2=>cases h
 rename_i a ha
 split at h
 case h_2=>cases h
 rename_i b hb
 cases h
 obtain rfl:=yCg ha
 refine⟨rfl,rfl,fun w hG=>?_⟩
 first|exact Yc.calls 300 a b.1 b.2 w hG hb|exact(Yc.calls 300 a b.1 b.2 w hG hb).mono fun e w' h=>⟨h.1,h.2.below⟩
def yLl:List Value→Option (Int×Int×Int)
 |[.int .i64 a,.int .u64 b,.int .u64 c]=>some (a,b,c)
 |_=>none
def yVj (x:Int×Int×Int):List Value:=[.int .i64 x.1,.int .u64 x.2.1,.int .u64 x.2.2]
theorem yCh {args:List Value}{a:Int×Int×Int}(h:yLl args=some a):args=yVj a:=by
 unfold yLl at h
 split at h
 case h_2=>cases h
 cases h;rfl
def yVk (y:Int×Int×Int):Value:=.agg #[.int .i64 y.1,.int .u64 y.2.1,.int .u64 y.2.2]
def con42:Con:=Con.opt yLl (fun x=>Ye.f 300 x.1 x.2.1 x.2.2) yVk
theorem yX7 {W:World}(hW:GoodW W):zAk Tryz.prog W 6 42 con42.own:=by
 refine zA6 (fn:=Tryz.f42) (c:=zAa Tryz.f42) hW Tryz.func42 (by kernel_rfl) (by kernel_rfl) fun args v h=>?_
 split at h
 case h_2=>cases h
 rename_i a ha
 split at h
 case h_2=>cases h
 rename_i b hb
 cases h
 obtain rfl:=yCh ha
 refine⟨rfl,rfl,fun w hG=>?_⟩
 first|exact Ye.calls 300 a.1 a.2.1 a.2.2 b.1 b.2.1 b.2.2 w hG hb|exact(Ye.calls 300 a.1 a.2.1 a.2.2 b.1 b.2.1 b.2.2 w hG hb).mono fun e w' h=>⟨h.1,h.2.below⟩
def yLm:List Value→Option (Int)
 |[.int .i64 a]=>some (a)
 |_=>none
def yLn (x:Int):List Value:=[.int .i64 x]
theorem yCi {args:List Value}{a:Int}(h:yLm args=some a):args=yLn a:=by
 unfold yLm at h
 split at h
 case h_2=>cases h
 cases h;rfl
def yLo (y:Int):Value:=.int .i64 y
def con45:Con:=Con.opt yLm (fun x=>Yr.f x) yLo
def L45:List (Nat×Con):=[]
def yLp:List Value→Option (Int×Int×Int×Int)
 |[.agg ⟨[.int .u64 a,.int .u64 b]⟩,.agg ⟨[.int .u64 c,.int .u64 d]⟩]=>some (a,b,c,d)
 |_=>none
def yLq (x:Int×Int×Int×Int):List Value:=[.agg #[.int .u64 x.1,.int .u64 x.2.1],.agg #[.int .u64 x.2.2.1,.int .u64 x.2.2.2]]
theorem yCj {args:List Value}{a:Int×Int×Int×Int}(h:yLp args=some a):args=yLq a:=by
 unfold yLp at h
 split at h
 case h_2=>cases h
 cases h;rfl
def yLr (y:Int×Int):Value:=.agg #[.int .u64 y.1,.int .u64 y.2]
def con55:Con:=Con.opt yLp (fun x=>Ys.f x.1 x.2.1 x.2.2.1 x.2.2.2) yLr
def L55:List (Nat×Con):=[]
def yLs:List Value→Option (Int×Int)
 |[.agg ⟨[.int .u64 a,.int .u64 b]⟩]=>some (a,b)
 |_=>none
def yLt (x:Int×Int):List Value:=[.agg #[.int .u64 x.1,.int .u64 x.2]]
theorem yCk {args:List Value}{a:Int×Int}(h:yLs args=some a):args=yLt a:=by
 unfold yLs at h
 split at h
 case h_2=>cases h
 cases h;rfl
def yLu (y:Int×Int):Value:=.agg #[.int .u64 y.1,.int .u64 y.2]
def con57:Con:=Con.opt yLs (fun x=>YG.f x.1 x.2) yLu
def L57:List (Nat×Con):=[]
def yLv:List Value→Option (Int×Int)
 |[.int .i64 a,.int .i64 b]=>some (a,b)
 |_=>none
def yLw (x:Int×Int):List Value:=[.int .i64 x.1,.int .i64 x.2]
theorem yCl {args:List Value}{a:Int×Int}(h:yLv args=some a):args=yLw a:=by
 unfold yLv at h
 split at h
 case h_2=>cases h
 cases h;rfl
def yLx (y:Int×Int):Value:=.agg #[.int .u64 y.1,.int .u64 y.2]
def con65:Con:=Con.opt yLv (fun x=>YF.f x.1 x.2) yLx
def L65:List (Nat×Con):=[(45,con45),(56,con56),(57,con57),(55,con55)]
def yHh:List Value→Option (Int×Int×Int)
 |[.agg ⟨[.int .i64 a,.int .u64 b,.int .u64 c]⟩]=>some (a,b,c)
 |_=>none
def yHi (x:Int×Int×Int):List Value:=[.agg #[.int .i64 x.1,.int .u64 x.2.1,.int .u64 x.2.2]]
theorem yCm {args:List Value}{a:Int×Int×Int}(h:yHh args=some a):args=yHi a:=by
 unfold yHh at h
 split at h
 case h_2=>cases h
 cases h;rfl
def yHj (y:Bool):Value:=.bool y
def con44:Con:=Con.opt yHh (fun x=>Ym.f x.1 x.2.1 x.2.2) yHj
def L44:List (Nat×Con):=[]
def yLy:List Value→Option (Int×Int×Int×Int)
 |[.agg ⟨[.int .i64 a,.int .u64 b,.int .u64 c,.int .i64 d]⟩]=>some (a,b,c,d)
 |_=>none
def yLz (x:Int×Int×Int×Int):List Value:=[.agg #[.int .i64 x.1,.int .u64 x.2.1,.int .u64 x.2.2.1,.int .i64 x.2.2.2]]
theorem yCn {args:List Value}{a:Int×Int×Int×Int}(h:yLy args=some a):args=yLz a:=by
 unfold yLy at h
 split at h
 case h_2=>cases h
 cases h;rfl
def yL0 (y:Bool):Value:=.bool y
def con16:Con:=Con.opt yLy (fun x=>Yi.f x.1 x.2.1 x.2.2.1 x.2.2.2) yL0
def L16:List (Nat×Con):=[(44,con44),(45,con45),(65,con65),(55,con55)]
def yL1:List Value→Option (Int×Int×Int×Int)
 |[.agg ⟨[.int .i64 a,.int .u64 b,.int .u64 c,.int .i64 d]⟩]=>some (a,b,c,d)
 |_=>none
def yL2 (x:Int×Int×Int×Int):List Value:=[.agg #[.int .i64 x.1,.int .u64 x.2.1,.int .u64 x.2.2.1,.int .i64 x.2.2.2]]
theorem yCo {args:List Value}{a:Int×Int×Int×Int}(h:yL1 args=some a):args=yL2 a:=by
 unfold yL1 at h
 split at h
 case h_2=>cases h
 cases h;rfl
def yL3 (y:Int×Int×Int):Value:=.agg #[.int .i64 y.1,.int .u64 y.2.1,.int .u64 y.2.2]
def con25:Con:=Con.opt yL1 (fun x=>Yq.f x.1 x.2.1 x.2.2.1 x.2.2.2) yL3
def L25:List (Nat×Con):=[(16,con16),(65,con65),(57,con57),(45,con45),(56,con56),(55,con55)]
def yL4:List Value→Option (Int×Int×Int×Int)
 |[.agg ⟨[.int .u64 a,.int .u64 b]⟩,.agg ⟨[.int .u64 c,.int .u64 d]⟩]=>some (a,b,c,d)
 |_=>none
def yL5 (x:Int×Int×Int×Int):List Value:=[.agg #[.int .u64 x.1,.int .u64 x.2.1],.agg #[.int .u64 x.2.2.1,.int .u64 x.2.2.2]]
theorem yCp {args:List Value}{a:Int×Int×Int×Int}(h:yL4 args=some a):args=yL5 a:=by
 unfold yL4 at h
 split at h
 case h_2=>cases h
 cases h;rfl
def yL6 (y:Int×Int×Bool):Value:=.tuple #[.agg #[.int .u64 y.1,.int .u64 y.2.1],.bool y.2.2]
def con43:Con:=Con.opt yL4 (fun x=>YN.f x.1 x.2.1 x.2.2.1 x.2.2.2) yL6
def L43:List (Nat×Con):=[]
def yL7:List Value→Option (Int×Int×Int×Int)
 |[.int .i64 a,.int .u64 b,.int .u64 c,.int .i64 d]=>some (a,b,c,d)
 |_=>none
def yL8 (x:Int×Int×Int×Int):List Value:=[.int .i64 x.1,.int .u64 x.2.1,.int .u64 x.2.2.1,.int .i64 x.2.2.2]
theorem yCq {args:List Value}{a:Int×Int×Int×Int}(h:yL7 args=some a):args=yL8 a:=by
 unfold yL7 at h
 split at h
 case h_2=>cases h
 cases h;rfl
def yL9 (y:Int×Int×Int×Int):Value:=.agg #[.int .i64 y.1,.int .u64 y.2.1,.int .u64 y.2.2.1,.int .i64 y.2.2.2]
def con10:Con:=Con.opt yL7 (fun x=>YZ.f x.1 x.2.1 x.2.2.1 x.2.2.2) yL9
def L10:List (Nat×Con):=[(42,con42),(45,con45),(56,con56),(57,con57),(55,con55)]
def yMa:List Value→Option (Int×Int×Int×Int)
 |[.agg ⟨[.int .u64 a,.int .u64 b]⟩,.agg ⟨[.int .u64 c,.int .u64 d]⟩]=>some (a,b,c,d)
 |_=>none
def yMb (x:Int×Int×Int×Int):List Value:=[.agg #[.int .u64 x.1,.int .u64 x.2.1],.agg #[.int .u64 x.2.2.1,.int .u64 x.2.2.2]]
theorem yCr {args:List Value}{a:Int×Int×Int×Int}(h:yMa args=some a):args=yMb a:=by
 unfold yMa at h
 split at h
 case h_2=>cases h
 cases h;rfl
def yMc (y:Int×Int):Value:=.agg #[.int .u64 y.1,.int .u64 y.2]
def con66:Con:=Con.opt yMa (fun x=>YY.f x.1 x.2.1 x.2.2.1 x.2.2.2) yMc
def L66:List (Nat×Con):=[]
def yMd:List Value→Option (Int×Int×Int×Int)
 |[.agg ⟨[.int .u64 a,.int .u64 b]⟩,.agg ⟨[.int .u64 c,.int .u64 d]⟩]=>some (a,b,c,d)
 |_=>none
def yMe (x:Int×Int×Int×Int):List Value:=[.agg #[.int .u64 x.1,.int .u64 x.2.1],.agg #[.int .u64 x.2.2.1,.int .u64 x.2.2.2]]
theorem yCs {args:List Value}{a:Int×Int×Int×Int}(h:yMd args=some a):args=yMe a:=by
 unfold yMd at h
 split at h
 case h_2=>cases h
 cases h;rfl
def yMf (y:Int×Int):Value:=.agg #[.int .u64 y.1,.int .u64 y.2]
def con74:Con:=Con.opt yMd (fun x=>Yw0.f x.1 x.2.1 x.2.2.1 x.2.2.2) yMf
def L74:List (Nat×Con):=[]
def yMg:List Value→Option (Int×Int)
 |[.agg ⟨[.int .u64 a,.int .u64 b]⟩]=>some (a,b)
 |_=>none
def yMh (x:Int×Int):List Value:=[.agg #[.int .u64 x.1,.int .u64 x.2]]
theorem yCt {args:List Value}{a:Int×Int}(h:yMg args=some a):args=yMh a:=by
 unfold yMg at h
 split at h
 case h_2=>cases h
 cases h;rfl
def yMi (y:Int×Int):Value:=.agg #[.int .u64 y.1,.int .u64 y.2]
def con72:Con:=Con.opt yMg (fun x=>Yi0.f x.1 x.2) yMi
def L72:List (Nat×Con):=[]
def yMj:List Value→Option (Int)
 |[.int .i64 a]=>some (a)
 |_=>none
def yMk (x:Int):List Value:=[.int .i64 x]
theorem yCu {args:List Value}{a:Int}(h:yMj args=some a):args=yMk a:=by
 unfold yMj at h
 split at h
 case h_2=>cases h
 cases h;rfl
def yMl (y:Int):Value:=.int .i64 y
def con69:Con:=Con.opt yMj (fun x=>YO.f x) yMl
def L69:List (Nat×Con):=[]
def yMm:List Value→Option (Int)
 |[.int .i64 a]=>some (a)
 |_=>none
def yMn (x:Int):List Value:=[.int .i64 x]
theorem yCv {args:List Value}{a:Int}(h:yMm args=some a):args=yMn a:=by
 unfold yMm at h
 split at h
 case h_2=>cases h
 cases h;rfl
def yMo (y:Int×Int):Value:=.agg #[.int .u64 y.1,.int .u64 y.2]
def con73:Con:=Con.opt yMm (fun x=>Yh0.f x) yMo
def L73:List (Nat×Con):=[(95,con95)]
def yMp:List Value→Option (Int×Int)
 |[.int .i64 a,.int .i64 b]=>some (a,b)
 |_=>none
def yMq (x:Int×Int):List Value:=[.int .i64 x.1,.int .i64 x.2]
theorem yCw {args:List Value}{a:Int×Int}(h:yMp args=some a):args=yMq a:=by
 unfold yMp at h
 split at h
 case h_2=>cases h
 cases h;rfl
def yMr (y:Int×Int):Value:=.agg #[.int .u64 y.1,.int .u64 y.2]
def con67:Con:=Con.opt yMp (fun x=>YP.f x.1 x.2) yMr
def L67:List (Nat×Con):=[(69,con69),(73,con73)]
def yMs:List Value→Option (Int×Int×Int)
 |[.agg ⟨[.int .i64 a,.int .u64 b,.int .u64 c]⟩]=>some (a,b,c)
 |_=>none
def yMt (x:Int×Int×Int):List Value:=[.agg #[.int .i64 x.1,.int .u64 x.2.1,.int .u64 x.2.2]]
theorem yCx {args:List Value}{a:Int×Int×Int}(h:yMs args=some a):args=yMt a:=by
 unfold yMs at h
 split at h
 case h_2=>cases h
 cases h;rfl
def yMu (y:Bool):Value:=.bool y
def con68:Con:=Con.opt yMs (fun x=>YK.f x.1 x.2.1 x.2.2) yMu
def L68:List (Nat×Con):=[]
def yMv:List Value→Option (Int×Int×Int×Int)
 |[.agg ⟨[.int .i64 a,.int .u64 b,.int .u64 c,.int .i64 d]⟩]=>some (a,b,c,d)
 |_=>none
def yMw (x:Int×Int×Int×Int):List Value:=[.agg #[.int .i64 x.1,.int .u64 x.2.1,.int .u64 x.2.2.1,.int .i64 x.2.2.2]]
theorem yCy {args:List Value}{a:Int×Int×Int×Int}(h:yMv args=some a):args=yMw a:=by
 unfold yMv at h
 split at h
 case h_2=>cases h
 cases h;rfl
def yMx (y:Bool):Value:=.bool y
def con22:Con:=Con.opt yMv (fun x=>YV.f x.1 x.2.1 x.2.2.1 x.2.2.2) yMx
def L22:List (Nat×Con):=[(68,con68),(69,con69),(67,con67),(72,con72),(66,con66)]
def yMy:List Value→Option (Int×Int×Int×Int)
 |[.agg ⟨[.int .i64 a,.int .u64 b,.int .u64 c,.int .i64 d]⟩]=>some (a,b,c,d)
 |_=>none
def yMz (x:Int×Int×Int×Int):List Value:=[.agg #[.int .i64 x.1,.int .u64 x.2.1,.int .u64 x.2.2.1,.int .i64 x.2.2.2]]
theorem yCz {args:List Value}{a:Int×Int×Int×Int}(h:yMy args=some a):args=yMz a:=by
 unfold yMy at h
 split at h
 case h_2=>cases h
 cases h;rfl
def yM0 (y:Int×Int×Int):Value:=.agg #[.int .i64 y.1,.int .u64 y.2.1,.int .u64 y.2.2]
def con24:Con:=Con.opt yMy (fun x=>YT.f x.1 x.2.1 x.2.2.1 x.2.2.2) yM0
def L24:List (Nat×Con):=[(22,con22),(69,con69),(73,con73),(67,con67),(72,con72),(66,con66),(74,con74)]
def yM1:List Value→Option (Int×Int×Int×Int)
 |[.agg ⟨[.int .u64 a,.int .u64 b]⟩,.agg ⟨[.int .u64 c,.int .u64 d]⟩]=>some (a,b,c,d)
 |_=>none
def yM2 (x:Int×Int×Int×Int):List Value:=[.agg #[.int .u64 x.1,.int .u64 x.2.1],.agg #[.int .u64 x.2.2.1,.int .u64 x.2.2.2]]
theorem yC0 {args:List Value}{a:Int×Int×Int×Int}(h:yM1 args=some a):args=yM2 a:=by
 unfold yM1 at h
 split at h
 case h_2=>cases h
 cases h;rfl
def yM3 (y:Bool):Value:=.bool y
def con96:Con:=Con.opt yM1 (fun x=>Yl0.f x.1 x.2.1 x.2.2.1 x.2.2.2) yM3
def L96:List (Nat×Con):=[]
def yHk:List Value→Option (Int×Int×Int×Int×Int×Int)
 |[.agg ⟨[.int .i64 a,.int .u64 b,.int .u64 c]⟩,.agg ⟨[.int .i64 d,.int .u64 e,.int .u64 f]⟩]=>some (a,b,c,d,e,f)
 |_=>none
def yC1 (x:Int×Int×Int×Int×Int×Int):List Value:=[.agg #[.int .i64 x.1,.int .u64 x.2.1,.int .u64 x.2.2.1],.agg #[.int .i64 x.2.2.2.1,.int .u64 x.2.2.2.2.1,.int .u64 x.2.2.2.2.2]]
theorem zTm {args:List Value}{a:Int×Int×Int×Int×Int×Int}(h:yHk args=some a):args=yC1 a:=by
 unfold yHk at h
 split at h
 case h_2=>cases h
 cases h;rfl
def yM4 (y:Bool):Value:=.bool y
def con75:Con:=Con.opt yHk (fun x=>Yx.f x.1 x.2.1 x.2.2.1 x.2.2.2.1 x.2.2.2.2.1 x.2.2.2.2.2) yM4
def L75:List (Nat×Con):=[(96,con96)]
def yM5:List Value→Option (Int×Int×Int×Int×Int×Int)
 |[.agg ⟨[.int .i64 a,.int .u64 b,.int .u64 c,.int .i64 d,.int .u64 e,.int .u64 f]⟩]=>some (a,b,c,d,e,f)
 |_=>none
def yM6 (x:Int×Int×Int×Int×Int×Int):List Value:=[.agg #[.int .i64 x.1,.int .u64 x.2.1,.int .u64 x.2.2.1,.int .i64 x.2.2.2.1,.int .u64 x.2.2.2.2.1,.int .u64 x.2.2.2.2.2]]
theorem yC2 {args:List Value}{a:Int×Int×Int×Int×Int×Int}(h:yM5 args=some a):args=yM6 a:=by
 unfold yM5 at h
 split at h
 case h_2=>cases h
 cases h;rfl
def yM7 (y:Bool):Value:=.bool y
def con48:Con:=Con.opt yM5 (fun x=>YE.f x.1 x.2.1 x.2.2.1 x.2.2.2.1 x.2.2.2.2.1 x.2.2.2.2.2) yM7
def L48:List (Nat×Con):=[(68,con68),(75,con75)]
def yM8:List Value→Option (Int×Int)
 |[.agg ⟨[.int .u64 a,.int .u64 b]⟩]=>some (a,b)
 |_=>none
def yM9 (x:Int×Int):List Value:=[.agg #[.int .u64 x.1,.int .u64 x.2]]
theorem yC3 {args:List Value}{a:Int×Int}(h:yM8 args=some a):args=yM9 a:=by
 unfold yM8 at h
 split at h
 case h_2=>cases h
 cases h;rfl
def yNa (y:Int):Value:=.int .i64 y
def con97:Con:=Con.opt yM8 (fun x=>Yv0.f x.1 x.2) yNa
def L97:List (Nat×Con):=[(109,con109)]
def yNb:List Value→Option (Int×Int×Int)
 |[.agg ⟨[.int .i64 a,.int .u64 b,.int .u64 c]⟩]=>some (a,b,c)
 |_=>none
def yNc (x:Int×Int×Int):List Value:=[.agg #[.int .i64 x.1,.int .u64 x.2.1,.int .u64 x.2.2]]
theorem yC4 {args:List Value}{a:Int×Int×Int}(h:yNb args=some a):args=yNc a:=by
 unfold yNb at h
 split at h
 case h_2=>cases h
 cases h;rfl
def yNd (y:Int×Int×Int×Bool):Value:=.tuple #[.agg #[.int .i64 y.1,.int .u64 y.2.1,.int .u64 y.2.2.1],.bool y.2.2.2]
def con78:Con:=Con.opt yNb (fun x=>Yc0.f x.1 x.2.1 x.2.2) yNd
def L78:List (Nat×Con):=[(99,con99),(98,con98),(68,con68)]
theorem yZg (a:Int)(Q:Value→Prop):zAo Tryz.prog (cwC L45) (zAa Tryz.f45) (zAg [.int .i64 a] 8) (zAh [] 64) (zA2 Tryz.prog Tryz.f45 fun v _=>Q v)=(zAd (zAf (a=4)) (Q (Value.int IntKind.i64 32)) (zAd (zAf (a=6)) (Q (Value.int IntKind.i64 128)) (Q (Value.int IntKind.i64 0)))):=by kernel_rfl
theorem yZh (a b c d:Int)(Q:Value→Prop):zAo Tryz.prog (cwC L55) (zAa Tryz.f55) (zAg [.agg #[.int .u64 a,.int .u64 b],.agg #[.int .u64 c,.int .u64 d]] 8) (zAh [] 64) (zA2 Tryz.prog Tryz.f55 fun v _=>Q v)=(Q (Value.agg #[Value.int IntKind.u64 (andI IntKind.u64 a c),Value.int IntKind.u64 (andI IntKind.u64 b d)])):=by kernel_rfl
theorem yZi (a b:Int)(Q:Value→Prop):zAo Tryz.prog (cwC L57) (zAa Tryz.f57) (zAg [.agg #[.int .u64 a,.int .u64 b]] 8) (zAh [] 64) (zA2 Tryz.prog Tryz.f57 fun v _=>Q v)=(Q (Value.agg #[Value.int IntKind.u64 (IntKind.wrap IntKind.u64 (↑(BitVec.toNat (BitVec.ofInt 64 (if Bool.false=Bool.true then -1 else if Bool.false=Bool.true then 2 ^ (64 - 1) - 1 else 2 ^ 64 - 1) ^^^ BitVec.ofInt 64 a)):Int)),Value.int IntKind.u64 (IntKind.wrap IntKind.u64 (↑(BitVec.toNat (BitVec.ofInt 64 (if Bool.false=Bool.true then -1 else if Bool.false=Bool.true then 2 ^ (64 - 1) - 1 else 2 ^ 64 - 1) ^^^ BitVec.ofInt 64 b)):Int))])):=by kernel_rfl
theorem yZj (a b:Int)(Q:Value→Prop):zAo Tryz.prog (cwC L65) (zAa Tryz.f65) (zAg [.int .i64 a,.int .i64 b] 8) (zAh [] 64) (zA2 Tryz.prog Tryz.f65 fun v _=>Q v)=((∃ x0:Int,((Yr.f a=Option.some x0)∧(∃ x1:Int×Int,((Yc.f 300 (IntKind.wrap IntKind.i64 (IntKind.wrap IntKind.i64 (128 - x0)+b))=Option.some x1)∧(∃ x2:Int,((Yr.f a=Option.some x2)∧(∃ x3:Int×Int,((Yc.f 300 (IntKind.wrap IntKind.i64 (128 - x2))=Option.some x3)∧(∃ x4:Int×Int,((YG.f (Prod.fst x3) (Prod.snd x3)=Option.some x4)∧(∃ x5:Int×Int,((Ys.f (Prod.fst x1) (Prod.snd x1) (Prod.fst x4) (Prod.snd x4)=Option.some x5)∧Q (Value.agg #[Value.int IntKind.u64 (Prod.fst x5),Value.int IntKind.u64 (Prod.snd x5)])))))))))))))):=by kernel_rfl
theorem yZk (a b c:Int)(Q:Value→Prop):zAo Tryz.prog (cwC L44) (zAa Tryz.f44) (zAg [.agg #[.int .i64 a,.int .u64 b,.int .u64 c]] 8) (zAh [] 64) (zA2 Tryz.prog Tryz.f44 fun v _=>Q v)=(zAd (zAf (a=6)) (Q (Value.bool Bool.true)) (zAd (zAf (a=4)) (zAd (zAf (b=0)) (Q (Value.bool (zAf (c < 4294967296)))) (Q (Value.bool Bool.false))) (Q (Value.bool Bool.false)))):=by kernel_rfl
theorem yZl (a b c d:Int)(Q:Value→Prop):zAo Tryz.prog (cwC L16) (zAa Tryz.f16) (zAg [.agg #[.int .i64 a,.int .u64 b,.int .u64 c,.int .i64 d]] 8) (zAh [] 64) (zA2 Tryz.prog Tryz.f16 fun v _=>Q v)=((∃ x0:Bool,((Ym.f a b c=Option.some x0)∧zAd (x0) (zAd (zAf (0≤d)) ((∃ x1:Int,((Yr.f a=Option.some x1)∧zAd (zAf (d≤x1)) ((∃ x2:Int×Int,((YF.f a d=Option.some x2)∧(∃ x3:Int×Int,((Ys.f b c (Prod.fst x2) (Prod.snd x2)=Option.some x3)∧Q (Value.bool (zAf (Prod.fst x3=b)&&(zAf (Prod.snd x3=c)&&Bool.true)))))))) (Q (Value.bool Bool.false))))) (Q (Value.bool Bool.false))) (Q (Value.bool Bool.false))))):=by kernel_rfl
theorem yZm (a b c d:Int)(Q:Value→Prop):zAo Tryz.prog (cwC L25) (zAa Tryz.f25) (zAg [.agg #[.int .i64 a,.int .u64 b,.int .u64 c,.int .i64 d]] 8) (zAh [] 64) (zA2 Tryz.prog Tryz.f25 fun v _=>Q v)=((∃ x0:Bool,((Yi.f a b c d=Option.some x0)∧zAd (!x0) (Q (Value.agg #[Value.int IntKind.i64 0,Value.int IntKind.u64 0,Value.int IntKind.u64 0])) ((∃ x1:Int×Int,((YF.f a d=Option.some x1)∧(∃ x2:Int×Int,((YG.f (Prod.fst x1) (Prod.snd x1)=Option.some x2)∧(∃ x3:Int,((Yr.f a=Option.some x3)∧(∃ x4:Int×Int,((Yc.f 300 (IntKind.wrap IntKind.i64 (128 - x3))=Option.some x4)∧(∃ x5:Int×Int,((YG.f (Prod.fst x4) (Prod.snd x4)=Option.some x5)∧(∃ x6:Int×Int,((Ys.f (Prod.fst x2) (Prod.snd x2) (Prod.fst x5) (Prod.snd x5)=Option.some x6)∧Q (Value.agg #[Value.int IntKind.i64 a,Value.int IntKind.u64 (orI IntKind.u64 b (Prod.fst x6)),Value.int IntKind.u64 (orI IntKind.u64 c (Prod.snd x6))]))))))))))))))))):=by kernel_rfl
theorem yZn (a b c d:Int)(Q:Value→Prop):zAo Tryz.prog (cwC L43) (zAa Tryz.f43) (zAg [.agg #[.int .u64 a,.int .u64 b],.agg #[.int .u64 c,.int .u64 d]] 8) (zAh [] 64) (zA2 Tryz.prog Tryz.f43 fun v _=>Q v)=(zAd (zAf (IntKind.wrap IntKind.u64 (b+d) < b)) (zAd (zAf (IntKind.wrap IntKind.u64 (a+c) < a)) (Q (Value.tuple #[Value.agg #[Value.int IntKind.u64 0,Value.int IntKind.u64 0],Value.bool Bool.false])) (zAd (zAf (IntKind.wrap IntKind.u64 (IntKind.wrap IntKind.u64 (a+c)+1) < IntKind.wrap IntKind.u64 (a+c))) (Q (Value.tuple #[Value.agg #[Value.int IntKind.u64 0,Value.int IntKind.u64 0],Value.bool Bool.false])) (Q (Value.tuple #[Value.agg #[Value.int IntKind.u64 (IntKind.wrap IntKind.u64 (IntKind.wrap IntKind.u64 (a+c)+1)),Value.int IntKind.u64 (IntKind.wrap IntKind.u64 (b+d))],Value.bool Bool.true])))) (zAd (zAf (IntKind.wrap IntKind.u64 (a+c) < a)) (Q (Value.tuple #[Value.agg #[Value.int IntKind.u64 0,Value.int IntKind.u64 0],Value.bool Bool.false])) (zAd (zAf (IntKind.wrap IntKind.u64 (IntKind.wrap IntKind.u64 (a+c)+0) < IntKind.wrap IntKind.u64 (a+c))) (Q (Value.tuple #[Value.agg #[Value.int IntKind.u64 0,Value.int IntKind.u64 0],Value.bool Bool.false])) (Q (Value.tuple #[Value.agg #[Value.int IntKind.u64 (IntKind.wrap IntKind.u64 (IntKind.wrap IntKind.u64 (a+c)+0)),Value.int IntKind.u64 (IntKind.wrap IntKind.u64 (b+d))],Value.bool Bool.true]))))):=by kernel_rfl
theorem yZo (a b c d:Int)(Q:Value→Prop):zAo Tryz.prog (cwC L10) (zAa Tryz.f10) (zAg [.int .i64 a,.int .u64 b,.int .u64 c,.int .i64 d] 8) (zAh [] 64) (zA2 Tryz.prog Tryz.f10 fun v _=>Q v)=((∃ x0:Int×Int×Int,((Ye.f 300 a b c=Option.some x0)∧(∃ x1:Int,((Yr.f (Prod.fst x0)=Option.some x1)∧((IntKind.wrap IntKind.i64 (x1+1)≠0)∧(∃ x2:Int,((Yr.f (Prod.fst x0)=Option.some x2)∧(∃ x3:Int×Int,((Yc.f 300 (IntKind.wrap IntKind.i64 (IntKind.wrap IntKind.i64 (128 - x2)+Int.tmod (andI IntKind.i64 d 255) (IntKind.wrap IntKind.i64 (x1+1))))=Option.some x3)∧(∃ x4:Int,((Yr.f (Prod.fst x0)=Option.some x4)∧(∃ x5:Int×Int,((Yc.f 300 (IntKind.wrap IntKind.i64 (128 - x4))=Option.some x5)∧(∃ x6:Int×Int,((YG.f (Prod.fst x5) (Prod.snd x5)=Option.some x6)∧(∃ x7:Int×Int,((Ys.f (Prod.fst x3) (Prod.snd x3) (Prod.fst x6) (Prod.snd x6)=Option.some x7)∧(∃ x8:Int×Int,((Ys.f (Prod.fst (Prod.snd x0)) (Prod.snd (Prod.snd x0)) (Prod.fst x7) (Prod.snd x7)=Option.some x8)∧Q (Value.agg #[Value.int IntKind.i64 (Prod.fst x0),Value.int IntKind.u64 (Prod.fst x8),Value.int IntKind.u64 (Prod.snd x8),Value.int IntKind.i64 (Int.tmod (andI IntKind.i64 d 255) (IntKind.wrap IntKind.i64 (x1+1)))]))))))))))))))))))))):=by kernel_rfl
theorem yZp (a b c d:Int)(Q:Value→Prop):zAo Tryz.prog (cwC L66) (zAa Tryz.f66) (zAg [.agg #[.int .u64 a,.int .u64 b],.agg #[.int .u64 c,.int .u64 d]] 8) (zAh [] 64) (zA2 Tryz.prog Tryz.f66 fun v _=>Q v)=(Q (Value.agg #[Value.int IntKind.u64 (andI IntKind.u64 a c),Value.int IntKind.u64 (andI IntKind.u64 b d)])):=by kernel_rfl
theorem yZq (a b c d:Int)(Q:Value→Prop):zAo Tryz.prog (cwC L74) (zAa Tryz.f74) (zAg [.agg #[.int .u64 a,.int .u64 b],.agg #[.int .u64 c,.int .u64 d]] 8) (zAh [] 64) (zA2 Tryz.prog Tryz.f74 fun v _=>Q v)=(Q (Value.agg #[Value.int IntKind.u64 (orI IntKind.u64 a c),Value.int IntKind.u64 (orI IntKind.u64 b d)])):=by kernel_rfl
theorem yZr (a b:Int)(Q:Value→Prop):zAo Tryz.prog (cwC L72) (zAa Tryz.f72) (zAg [.agg #[.int .u64 a,.int .u64 b]] 8) (zAh [] 64) (zA2 Tryz.prog Tryz.f72 fun v _=>Q v)=(Q (Value.agg #[Value.int IntKind.u64 (IntKind.wrap IntKind.u64 (↑(BitVec.toNat (BitVec.ofInt 64 (if Bool.false=Bool.true then -1 else if Bool.false=Bool.true then 2 ^ (64 - 1) - 1 else 2 ^ 64 - 1) ^^^ BitVec.ofInt 64 a)):Int)),Value.int IntKind.u64 (IntKind.wrap IntKind.u64 (↑(BitVec.toNat (BitVec.ofInt 64 (if Bool.false=Bool.true then -1 else if Bool.false=Bool.true then 2 ^ (64 - 1) - 1 else 2 ^ 64 - 1) ^^^ BitVec.ofInt 64 b)):Int))])):=by kernel_rfl
theorem yZs (a:Int)(Q:Value→Prop):zAo Tryz.prog (cwC L69) (zAa Tryz.f69) (zAg [.int .i64 a] 8) (zAh [] 64) (zA2 Tryz.prog Tryz.f69 fun v _=>Q v)=(zAd (zAf (a=4)) (Q (Value.int IntKind.i64 32)) (zAd (zAf (a=6)) (Q (Value.int IntKind.i64 128)) (Q (Value.int IntKind.i64 0)))):=by kernel_rfl
theorem yZt (a:Int)(Q:Value→Prop):zAo Tryz.prog (cwC L73) (zAa Tryz.f73) (zAg [.int .i64 a] 8) (zAh [] 64) (zA2 Tryz.prog Tryz.f73 fun v _=>Q v)=((∃ x0:Int,((Yg0.f a=Option.some x0)∧(∃ x1:Int,((Yg0.f (IntKind.wrap IntKind.i64 ((if 128 < a then 128 else a) - 64))=Option.some x1)∧Q (Value.agg #[Value.int IntKind.u64 x0,Value.int IntKind.u64 x1])))))):=by kernel_rfl
theorem yZu (a b:Int)(Q:Value→Prop):zAo Tryz.prog (cwC L67) (zAa Tryz.f67) (zAg [.int .i64 a,.int .i64 b] 8) (zAh [] 64) (zA2 Tryz.prog Tryz.f67 fun v _=>Q v)=((∃ x0:Int,((YO.f a=Option.some x0)∧(∃ x1:Int×Int,((Yh0.f (IntKind.wrap IntKind.i64 (IntKind.wrap IntKind.i64 (128 - x0)+b))=Option.some x1)∧Q (Value.agg #[Value.int IntKind.u64 (Prod.fst x1),Value.int IntKind.u64 (Prod.snd x1)])))))):=by kernel_rfl
theorem yZv (a b c:Int)(Q:Value→Prop):zAo Tryz.prog (cwC L68) (zAa Tryz.f68) (zAg [.agg #[.int .i64 a,.int .u64 b,.int .u64 c]] 8) (zAh [] 64) (zA2 Tryz.prog Tryz.f68 fun v _=>Q v)=(zAd (zAf (a=6)) (Q (Value.bool Bool.true)) (zAd (zAf (a=4)) (zAd (zAf (b=0)) (Q (Value.bool (zAf (c < 4294967296)))) (Q (Value.bool Bool.false))) (Q (Value.bool Bool.false)))):=by kernel_rfl
theorem yZw (a b c d:Int)(Q:Value→Prop):zAo Tryz.prog (cwC L22) (zAa Tryz.f22) (zAg [.agg #[.int .i64 a,.int .u64 b,.int .u64 c,.int .i64 d]] 8) (zAh [] 64) (zA2 Tryz.prog Tryz.f22 fun v _=>Q v)=((∃ x0:Bool,((YK.f a b c=Option.some x0)∧zAd (!x0) (Q (Value.bool Bool.false)) (zAd (zAf (d < 0)) (Q (Value.bool Bool.false)) ((∃ x1:Int,((YO.f a=Option.some x1)∧zAd (zAf (x1 < d)) (Q (Value.bool Bool.false)) ((∃ x2:Int×Int,((YP.f a d=Option.some x2)∧(∃ x3:Int×Int,((Yi0.f (Prod.fst x2) (Prod.snd x2)=Option.some x3)∧(∃ x4:Int×Int,((YY.f b c (Prod.fst x3) (Prod.snd x3)=Option.some x4)∧Q (Value.bool (zAf (Prod.fst x4=0)&&(zAf (Prod.snd x4=0)&&Bool.true))))))))))))))))):=by kernel_rfl
theorem yZx (a b c d:Int)(Q:Value→Prop):zAo Tryz.prog (cwC L24) (zAa Tryz.f24) (zAg [.agg #[.int .i64 a,.int .u64 b,.int .u64 c,.int .i64 d]] 8) (zAh [] 64) (zA2 Tryz.prog Tryz.f24 fun v _=>Q v)=((∃ x0:Bool,((YV.f a b c d=Option.some x0)∧zAd (!x0) (Q (Value.agg #[Value.int IntKind.i64 0,Value.int IntKind.u64 0,Value.int IntKind.u64 0])) ((∃ x1:Int,((YO.f a=Option.some x1)∧(∃ x2:Int×Int,((Yh0.f (IntKind.wrap IntKind.i64 (128 - x1))=Option.some x2)∧(∃ x3:Int×Int,((YP.f a d=Option.some x3)∧(∃ x4:Int×Int,((Yi0.f (Prod.fst x3) (Prod.snd x3)=Option.some x4)∧(∃ x5:Int×Int,((Yi0.f (Prod.fst x2) (Prod.snd x2)=Option.some x5)∧(∃ x6:Int×Int,((YY.f (Prod.fst x4) (Prod.snd x4) (Prod.fst x5) (Prod.snd x5)=Option.some x6)∧(∃ x7:Int×Int,((Yw0.f b c (Prod.fst x6) (Prod.snd x6)=Option.some x7)∧Q (Value.agg #[Value.int IntKind.i64 a,Value.int IntKind.u64 (Prod.fst x7),Value.int IntKind.u64 (Prod.snd x7)]))))))))))))))))))):=by kernel_rfl
theorem yZy (a b c d:Int)(Q:Value→Prop):zAo Tryz.prog (cwC L96) (zAa Tryz.f96) (zAg [.agg #[.int .u64 a,.int .u64 b],.agg #[.int .u64 c,.int .u64 d]] 8) (zAh [] 64) (zA2 Tryz.prog Tryz.f96 fun v _=>Q v)=(zAd (zAf (a < c)) (Q (Value.bool Bool.true)) (zAd (zAf (a=c)) (Q (Value.bool (zAf (b < d)))) (Q (Value.bool Bool.false)))):=by kernel_rfl
theorem yZz (a b c d e f:Int)(Q:Value→Prop):zAo Tryz.prog (cwC L75) (zAa Tryz.f75) (zAg [.agg #[.int .i64 a,.int .u64 b,.int .u64 c],.agg #[.int .i64 d,.int .u64 e,.int .u64 f]] 8) (zAh [] 64) (zA2 Tryz.prog Tryz.f75 fun v _=>Q v)=(zAd (zAf (a < d)) (Q (Value.bool Bool.true)) (zAd (zAf (a=d)) ((∃ x0:Bool,((Yl0.f b c e f=Option.some x0)∧Q (Value.bool x0)))) (Q (Value.bool Bool.false)))):=by kernel_rfl
theorem yZ0 (a b c d e f:Int)(Q:Value→Prop):zAo Tryz.prog (cwC L48) (zAa Tryz.f48) (zAg [.agg #[.int .i64 a,.int .u64 b,.int .u64 c,.int .i64 d,.int .u64 e,.int .u64 f]] 8) (zAh [] 64) (zA2 Tryz.prog Tryz.f48 fun v _=>Q v)=((∃ x0:Bool,((YK.f a b c=Option.some x0)∧zAd (x0) ((∃ x1:Bool,((YK.f d e f=Option.some x1)∧zAd (x1) (zAd (zAf (a=d)) ((∃ x2:Bool,((Yx.f d e f a b c=Option.some x2)∧Q (Value.bool !x2)))) (Q (Value.bool Bool.false))) (Q (Value.bool Bool.false))))) (Q (Value.bool Bool.false))))):=by kernel_rfl
theorem yZ1 (a b:Int)(Q:Value→Prop):zAo Tryz.prog (cwC L97) (zAa Tryz.f97) (zAg [.agg #[.int .u64 a,.int .u64 b]] 8) (zAh [] 64) (zA2 Tryz.prog Tryz.f97 fun v _=>Q v)=(zAd (zAf (b≠0)) ((∃ x0:Int,((bits_TrailingZeros64.f b=Option.some x0)∧Q (Value.int IntKind.i64 x0)))) ((∃ x0:Int,((bits_TrailingZeros64.f a=Option.some x0)∧Q (Value.int IntKind.i64 (IntKind.wrap IntKind.i64 (64+x0))))))):=by kernel_rfl
theorem yZ2 (a b c:Int)(Q:Value→Prop):zAo Tryz.prog (cwC L78) (zAa Tryz.f78) (zAg [.agg #[.int .i64 a,.int .u64 b,.int .u64 c]] 8) (zAh [] 64) (zA2 Tryz.prog Tryz.f78 fun v _=>Q v)=((∃ x0:Int×Int,((YX.f 300 0=Option.some x0)∧(∃ x1:Int×Int×Bool,((Yp0.f b c (Prod.fst x0) (Prod.snd x0)=Option.some x1)∧zAd (!Prod.snd (Prod.snd x1)) (Q (Value.tuple #[Value.agg #[Value.int IntKind.i64 0,Value.int IntKind.u64 0,Value.int IntKind.u64 0],Value.bool Bool.false])) ((∃ x2:Bool,((YK.f a b c=Option.some x2)∧zAd (!x2) (Q (Value.tuple #[Value.agg #[Value.int IntKind.i64 0,Value.int IntKind.u64 0,Value.int IntKind.u64 0],Value.bool Bool.false])) ((∃ x3:Bool,((YK.f a (Prod.fst x1) (Prod.fst (Prod.snd x1))=Option.some x3)∧zAd (!x3) (Q (Value.tuple #[Value.agg #[Value.int IntKind.i64 0,Value.int IntKind.u64 0,Value.int IntKind.u64 0],Value.bool Bool.false])) (Q (Value.tuple #[Value.agg #[Value.int IntKind.i64 a,Value.int IntKind.u64 (Prod.fst x1),Value.int IntKind.u64 (Prod.fst (Prod.snd x1))],Value.bool Bool.true]))))))))))))):=by kernel_rfl
end Go.Proofs.YtfnacgojmdbjmaaGreatDoor
end

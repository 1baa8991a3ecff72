/-
  What an operation that is drawn keeps (plain laws).
  What a transaction that is drawn keeps (plain laws).
  The source of choices that some bytes make.
  Stores that are drawn.
  From a walk's contract (no block of ours is written) to a contract of a call.
  The program's order of atoms.
  The program's AtomOK, DatumOK.
  The program's columns by their names; codes of conditions.
  The program's conditions: codes of them all; when they are right.
  The program's conditions: when they are right.
  The program's sets: alike, with, less.
  The program's stores: when they fit.
  Calls whose arguments are all known: reckoned whole.
  The program's stores: a store that fits does.
  The program's sets: what is left of one without the other.
  Conditions, plain: what the program's condition says is what the reference's says; a condition and its other one.
  The program's conditions: asked of rows.
  The reference's stores and conditions: what is right is.
  The law's helpers: a number, two lists of numbers.
  Conditions: the public functions.
  The program's rows: alike, copied, found.
  Layouts of library functions at this program (printed by tools/lays.py).
  The library's Sort and Compact of integers as contracts of calls.
  The library's Grow of rows as a contract of a call.
  The program's changes between stores.
  The reference's stores: each number once; rows are held.
  Stores that are drawn are right in all.
  The reference's operations: when they are right.
  The reference's results, and its transactions as a public function.
-/
import Derived.Test.YtlomaojlpodibaaGreatCqAd
import Derived.Shelf.Lays
import Derived.Shelf.Lays2
import Derived.Shelf.Sort.Plain
import Derived.Shelf.Slices.CompactI
import Derived.Shelf.Slices.In.SortNone
import Derived.Sort.OwnSorted
import Derived.Test.YtlomaojlpodibaaGreatRows
import Derived.Sort.OwnSortedInts
import Derived.Shelf.Lays8
import Derived.Shelf.Spec.SlicesGrow
noncomputable section
namespace Go.Proofs.YtlomaojlpodibaaGreat
open Go.RowKit
set_option maxRecDepth 100000
def wI (ids:List Int):Prop:=∀d∈ids,d=0\/(1<=d/\d<=1000000)
theorem ar3 {ops:List Op'} {ids:List Int} (h:wI ids) {t:List UInt8} (hn:iP ops ids t≠0):1<=iP ops ids t/\iP ops ids t<=1000000:=by
 unfold iP at hn ⊢;cases h0:decide (0<=m3 ops t) <;> rw [h0] at hn
 ·exact absurd rfl hn
 ·rw [cond_true] at hn ⊢;by_cases hl:(m3 ops t).toNat<ids.length
  ·rcases h _ (bH 0 hl) with h | h
   ·exact absurd h hn
   ·exact h
  ·rw [List.getD_eq_getElem?_getD,List.getElem?_eq_none ag] at hn;exact absurd rfl hn
theorem Qs {ops:List Op'} {ids:List Int} (hi:wI ids):∀(ns:List (List UInt8)) (v v':aQ),setN ops ids ns v=some v'->cq 4 v->cq 4 v'
 | [],v,v',h,hv=>by rw [setN] at h;exact Option.some.inj h▸hv
 | n::ns,v,v',h,hv=>by
  rw [setN] at h;cases h0:iP ops ids n==0 <;> rw [h0] at h
  ·rw [cond_false] at h;have hg:=ar3 (ops:=ops) hi (t:=n) eo;exact Qs hi ns _ v' h (hv.put ⟨by simp [fV,pJ,bC,hg.1,hg.2],rfl⟩)
  ·simp at h
theorem Qt {ops:List Op'} {ids:List Int}:∀(ns:List (List UInt8)) (v v':aQ),setN ops ids ns v=some v'->v'.length<=v.length+ns.length
 | [],v,v',h=>by rw [setN] at h;rw [<- Option.some.inj h];simp
 | n::ns,v,v',h=>by
  rw [setN] at h;cases h0:iP ops ids n==0 <;> rw [h0] at h
  ·rw [cond_false] at h;have:=Qt ns _ v' h;have:=qk v ⟨4,iP ops ids n,[]⟩;rw [List.length_cons];omega
  ·simp at h
theorem Qw {ops:List Op'} {ids:List Int}:∀(l out:List Sx),(setsL ops ids l out).1.length<=out.length+l.length/\∀m∈(setsL ops ids l out).1,m∈out\/∃s∈l,m.aC=s.aC/\setN ops ids s.names s.val=some m.val
 | [],out=>⟨by simp [setsL],fun m h=> .inl h⟩
 | s::l,out=>by
  rw [setsL];cases hs:setN ops ids s.names s.val with
  | none=>exact ⟨by simp,fun m h=> .inl h⟩
  | some v=>
   obtain ⟨h1,h2⟩:=Qw (ops:=ops) (ids:=ids) l (out++[⟨s.aC,v,[]⟩]);refine ⟨?_,fun m hm => ?_⟩
   ·dsimp only;rw [List.length_append] at h1;simp only [List.length_cons,List.length_nil] at h1 ⊢;omega
   ·rcases h2 m hm with h | ⟨q,hq,h⟩
    ·rcases List.mem_append.1 h with h | h
     ·exact .inl h
     ·rw [List.mem_singleton] at h;subst h;exact .inr ⟨s,by simp,rfl,hs⟩
    ·exact .inr ⟨q,by simp [hq],h⟩
theorem HI {ops:List Op'} {ids:List Int} (hi:wI ids) {t:Nat} (ht:t<3) {l:List Sx} (hl:∀s∈l,lr (bD t) s):(∀m∈(gh ops ids l).1,wQ (bD t) m/\m.val.length<=1000)/\(gh ops ids l).1.length<=l.length:=by
 have h:=Qw (ops:=ops) (ids:=ids) l [];refine ⟨fun m hm => ?_,by simpa [gh] using h.1⟩;rcases h.2 m hm with h | ⟨s,hs,hc,hv⟩
 ·cases h
 ·obtain ⟨aC,cN,W8,hd,hlen,-,eI,xJ⟩:=hl s hs;have hG:=(jM ht).pl aC cN;have hlv:=Qt _ _ _ hv;refine ⟨?_,ag⟩;unfold wQ;rw [hc,W8,hG.2];refine ⟨hG.1,?_⟩;by_cases bc:s.names=[]
  ·rw [bc,setN] at hv;rw [<- Option.some.inj hv];exact hd
  ·obtain ⟨hk,-⟩:=eI bc;rw [hk] at hd ⊢;exact Qs hi _ _ _ hv hd
structure mE (o:Op'):Prop where
 k:1<=o.kind/\o.kind<=10
 t:o.kind<7->∃t,t<3/\dk aI o.table=(t:Nat)/\(∀q∈o.aS,gE (bD t) q)/\(∀s∈o.row,lr (bD t) s)/\∀m∈o.cC,j7 (bD t) m
 s:o.name.length<=100/\o.aS.length<=2/\o.row.length<=3/\o.cC.length<=2/\o.av.length<=4
theorem wu {t:Int} (ht:0<=t/\t<3):t.toNat<3/\dk aI (dr t)=(t.toNat:Nat):=by
 have:t=0\/t=1\/t=2:=ag;rcases this with rfl | rfl | rfl <;> exact ⟨by decide,by decide⟩
theorem fq.g {o:Op'} (h:fq o):mE o:=by
 cases h with
 | ins t row nm ht hr hl hn=>
  have:=wu ht;refine ⟨by simp,fun _=>⟨t.toNat,this.1,this.2,by simp,hr,by simp⟩,?_,by simp,by simpa using hl,by simp,by simp⟩;simp only [pO,List.mem_cons,List.not_mem_nil,or_false] at hn;rcases hn with rfl | rfl | rfl <;> simp
 | HE t aS av ht hw gQ hc hl=>
  have:=wu ht;exact ⟨by simp,fun _=>⟨t.toNat,this.1,this.2,hw,by simp,by simp⟩,by simp,by simpa using gQ,by simp,by simp,by simpa using hl⟩
 | IF t aS row ht hw gQ hr hl=>
  have:=wu ht;exact ⟨by simp,fun _=>⟨t.toNat,this.1,this.2,hw,hr,by simp⟩,by simp,by simpa using gQ,by simpa using hl,by simp,by simp⟩
 | «mut» t aS cC ht hw gQ hm hl=>
  have:=wu ht;exact ⟨by simp,fun _=>⟨t.toNat,this.1,this.2,hw,by simp,hm⟩,by simp,by simpa using gQ,by simp,by simpa using hl,by simp⟩
 | del t aS ht hw gQ=>
  have:=wu ht;exact ⟨by simp,fun _=>⟨t.toNat,this.1,this.2,hw,by simp,by simp⟩,by simp,by simpa using gQ,by simp,by simp,by simp⟩
 | wait t aS row b ht hw gQ hr hl=>
  have:=wu ht;exact ⟨by simp,fun _=>⟨t.toNat,this.1,this.2,hw,hr,by simp⟩,by simp,by simpa using gQ,by simpa using hl,by simp,by simp⟩
 | DW=>exact ⟨by simp,(fun h=>by simp at h),by simp,by simp,by simp,by simp,by simp⟩
 | Dt=>exact ⟨by simp,(fun h=>by simp at h),by simp,by simp,by simp,by simp,by simp⟩
 | HD=>exact ⟨by simp,(fun h=>by simp at h),by simp,by simp,by simp,by simp,by simp⟩
 | Dz nm hn=>
  refine ⟨by simp,(fun h=>by simp at h),?_,by simp,by simp,by simp,by simp⟩;simp only [s4,List.mem_cons,List.not_mem_nil,or_false] at hn;rcases hn with rfl | rfl <;> simp
theorem gE.s {tb:Tb} {q:aZ} (h:gE tb q):ll q:=by
 refine ⟨by have:=h.len;omega,?_⟩;by_cases h3:3<=q.func/\q.func<=6
 ·have hl:q.val.length=1:=by
   rcases h.aC with ⟨_,_,_,hn⟩ | ⟨c,_,_,_,hc⟩
   ·exact absurd h3 hn
   ·exact (hc h3).2
  exact .inr (.inr (.inr (.inr (by intro e;rw [e] at hl;simp at hl))))
 ·have:=h.fn;omega
theorem j7.i {t:Nat} (ht:t<3) {m:Mt} (h:j7 (bD t) m):wK (bD t) m/\rJ m:=by
 obtain ⟨c,hc,hn,hd,h5⟩:=h.aC;have hG:=(jM ht).pl c hc;have hf:=h.fn;refine ⟨?_,by have:=h.len;omega,?_⟩
 ·unfold wK;rw [hn,hG.2];exact ⟨hG.1,hd,fun bc=>(h5 ag).1⟩
 ·by_cases h6:m.func=6
  ·exact .inl h6
  ·by_cases h7:m.func=7
   ·exact .inr (.inl h7)
   ·have hl:=(h5 ag).2;exact .inr (.inr (by intro e;rw [e] at hl;simp at hl))
theorem aL1 {t:Tb} {rows:List Rw} {l:List aZ}:∀j∈ew t rows l,∃r∈rows,r.id=j:=fun j hj=>by
 unfold ew at hj;obtain ⟨r,hr,e⟩:=List.mem_map.1 hj;exact ⟨r,(List.mem_filter.1 hr).1,e⟩
theorem aL2 {t:Tb} {rows:List Rw} {l:List aZ} (h:iW rows):(ew t rows l).Nodup:=by
 unfold ew;unfold List.Nodup;rw [List.pairwise_map];exact (h.sublist List.filter_sublist).imp fun h=>ag
theorem cq.wR {a:At} {k:Int} (h:fV a=true) (hk:a.kind=k):cq k [a]:= .one ⟨h,hk⟩
theorem V9 {t:Nat} (ht:t<3) (id:Int):dh (bD t) (gM (bD t) id):=by
 have hd:∀c∈(bD t).av,cq c.kind (jb c)/\dn c (jb c)=0:=by
  have:t=0\/t=1\/t=2:=ag;rcases this with rfl | rfl | rfl
  ·intro c hc;have:c=ui\/c=rT:=by simpa [bD,aI,Iv] using hc
   rcases this with rfl | rfl
   ·exact ⟨.wR (by decide) rfl,by decide⟩
   ·exact ⟨.nil _,by decide⟩
  ·intro c hc;have:c=ui\/c=JG\/c=JH:=by simpa [bD,aI,Iw] using hc
   rcases this with rfl | rfl | rfl
   ·exact ⟨.wR (by decide) rfl,by decide⟩
   ·exact ⟨.nil _,by decide⟩
   ·exact ⟨.wR (by decide) rfl,by decide⟩
  ·intro c hc;have:c=ui\/c=JB\/c=DN:=by simpa [bD,aI,Ix] using hc
   rcases this with rfl | rfl | rfl
   ·exact ⟨.wR (by decide) rfl,by decide⟩
   ·exact ⟨.wR (by decide) rfl,by decide⟩
   ·exact ⟨.nil _,by decide⟩
 refine ⟨by unfold gM;simp,fun i hi => ?_⟩;have e:(gM (bD t) id).cells.getD i []=jb ((bD t).av.getD i .zero):=by
  unfold gM;rw [List.getD_eq_getElem?_getD,List.getElem?_map,List.getD_eq_getElem?_getD,List.getElem?_eq_getElem hi];rfl
 rw [e];exact hd _ (bH .zero hi)
def cntI:List Op'->Int
 | []=>0
 | o::t=>(if o.kind=1 then 1 else 0)+cntI t
theorem uk:∀l,0<=cntI l/\cntI l<=(l.length:Int)
 | []=>⟨Int.le_refl _,Int.le_refl _⟩
 | o::t=>by
  have:=uk t;rw [cntI,List.length_cons];split <;> omega
theorem J4:∀(l:List Op') (i:Nat),i<l.length->cntI (l.take (i+1))=cntI (l.take i)+(if (l.getD i .zero).kind=1 then 1 else 0)
 | [],i,h=>by simp at h
 | o::t,0,_=>by simp [cntI]
 | o::t,i+1,h=>by
  have:=J4 t i dT;rw [List.take_succ_cons,List.take_succ_cons,cntI,cntI,this,List.getD_cons_succ];omega
theorem Gn:∀(l:List Op') (n:Int),(idsF l n).length=l.length
 | [],_=>rfl
 | o::t,n=>by
  rw [idsF];cases o.kind==1 <;> simp [Gn t]
theorem Bd:∀(l:List Op') (n:Int) (i:Nat),i<l.length->(idsF l n).getD i 0=if (l.getD i .zero).kind=1 then n+cntI (l.take i) else 0
 | [],_,i,h=>by simp at h
 | o::t,n,0,_=>by
  rw [idsF];by_cases h:o.kind=1
  ·rw [(dT:(o.kind==1)=true)];simp [h,cntI]
  ·rw [(dT:(o.kind==1)=false)];simp [h]
 | o::t,n,i+1,h=>by
  rw [idsF,List.getD_cons_succ,List.take_succ_cons,cntI];by_cases h1:o.kind=1
  ·rw [(cR:(o.kind==1)=true),cond_true,List.getD_cons_succ,Bd t (n+1) i dT,if_pos h1];split <;> omega
  ·rw [(cR:(o.kind==1)=false),cond_false,List.getD_cons_succ,Bd t n i dT,if_neg h1];split <;> omega
theorem MI {l:List Op'} {n:Int} (h1:1<=n) (h2:n+l.length<=1000000):wI (idsF l n):=by
 intro d hd;obtain ⟨i,hi,rfl⟩:=xW 0 hd;rw [Gn] at hi;rw [Bd l n i hi];have h3:=uk (l.take i);rw [List.length_take] at h3;split
 ·right;omega
 ·left;rfl
theorem GU:∀(l:List Op') (n m:Int),1<=m->m<=n->(cntI l=0->nxL (idsF l n) m=m)/\(0<cntI l->nxL (idsF l n) m=n+cntI l)
 | [],_,_,_,_=>⟨fun _=>rfl,fun h=>by simp [cntI] at h⟩
 | o::t,n,m,h1,h2=>by
  have ht:=uk t;rw [idsF,cntI];by_cases h:o.kind=1
  ·rw [show (o.kind==1)=true by simpa using h,cond_true,if_pos h,nxL];have:=GU t (n+1) (max m (n+1)) (by omega) (by omega);refine ⟨fun h=>by omega,fun _ => ?_⟩;by_cases h0:cntI t=0
   ·rw [this.1 h0];omega
   ·rw [this.2 (by omega)];omega
  ·rw [show (o.kind==1)=false by simpa using h,cond_false,if_neg h,nxL];have:=GU t n (max m (0+1)) (by omega) (by omega);rw [show max m (0+1)=m by omega] at this;rw [show max m (0+1)=m by omega];exact ⟨fun h=>this.1 (by omega),fun h=>by rw [this.2 (by omega)];omega⟩
theorem as9 (l:List Op') (n:Int) (h:1<=n):nxL (idsF l n) n=n+cntI l:=by
 have h1:=GU l n n h (Int.le_refl _);have h2:=uk l;by_cases h0:cntI l=0
 ·rw [h1.1 h0];omega
 ·exact h1.2 ag
theorem Zr {n0 nx:Int} {x:aA} {ops:List Op'} {ids:List Int} {i t:Nat} {l:List Sx} (hx:dV n0 nx x) (ht:t<3) (hl:∀s∈l,wQ (bD t) s) (hid:nx<=ids.getD i 0/\1<=ids.getD i 0):dV n0 (ids.getD i 0+1) (pN aI x ops ids i t l).1:=by
 have hm:=hx.mono (show nx<=ids.getD i 0+1 by omega);unfold pN;cases l5 ops i (ops.getD i .zero).name
 ·rw [cond_false];cases xk:(x.ak.getD t []).length==12
  ·rw [cond_false];cases hs:(setRL (aI.getD t .zero) l (gM (aI.getD t .zero) (ids.getD i 0))).2 != 0
   ·rw [cond_false];have h:=HG l _ (V9 ht (ids.getD i 0)) hl (by simpa using hs);have hi:(setRL (bD t) l (gM (bD t) (ids.getD i 0))).1.id=ids.getD i 0:=h.2;have aV8:(x.ak.getD t []).length≠12:=by simpa using xk
    have aV9:=(hx.r t ht).n;exact hx.put ht h.1 (by rw [hi];exact hid.2) (by rw [hi];omega) (by omega) (.inr ⟨by omega,by rw [hi];exact hid.1⟩)
   ·exact hm
  ·exact hm
 ·exact hm
theorem Vg {n0 nx:Int} {x:aA} {ops:List Op'} {ids:List Int} {ow:List (List UInt8)} {i:Nat} (hx:dV n0 nx x) (ho:mE (ops.getD i .zero)) (hG:wI ids) (hid:(ops.getD i .zero).kind=1->nx<=ids.getD i 0/\1<=ids.getD i 0):
  CJ aI x ops ids i (ops.getD i .zero)/\dV n0 (if (ops.getD i .zero).kind=1 then ids.getD i 0+1 else nx) (dW aI x ops ids ow i).1:=by
 have xF:dV n0 (if (ops.getD i .zero).kind=1 then ids.getD i 0+1 else nx) x:=hx.mono (by
  split
  ·rename_i h1;have:=hid h1;omega
  ·exact Int.le_refl _)
 have hs:=ho.s;have hk:=ho.k;have pz:∀t,t<3->(∀m∈(ops.getD i .zero).cC,j7 (bD t) m)->∀m∈(ops.getD i .zero).cC,wK (bD t) m:=fun t ht h m hm=>((h m hm).i ht).1;have xt:∀t,t<3->(∀s∈(ops.getD i .zero).row,lr (bD t) s)->(∀m∈(ops.getD i .zero).cC,j7 (bD t) m) ->
   qi aI (ops.getD i .zero) t (gh ops ids (ops.getD i .zero).row).1 (ew (aI.getD t .zero) (x.ak.getD t []) (ops.getD i .zero).aS) x/\dV n0 nx (chL aI (ops.getD i .zero) t (gh ops ids (ops.getD i .zero).row).1 (ew (aI.getD t .zero) (x.ak.getD t []) (ops.getD i .zero).aS) x).1:=fun t ht h1 h2=>
  DQ ht (fun s h=>((HI hG ht h1).1 s h).1) (pz t ht h2) _ x hx aL1 (aL2 (hx.r t ht).p)
 refine ⟨⟨⟨ag,ag,ag,ag,ag⟩,hk,fun h7 => ?_,fun h7 => ?_,fun h7 _ _ => ?_,fun h7 _ => ?_,fun h3 _ _ => ?_⟩,?_⟩
 ·obtain ⟨t,ht,-,hw,-,-⟩:=ho.t h7;exact fun q hq=>(hw q hq).s
 ·obtain ⟨t,ht,-,-,hr,-⟩:=ho.t h7;intro s hs;obtain ⟨aC,-,-,-,h8,-,-,h1⟩:=hr s hs;exact ⟨ag,ag⟩
 ·obtain ⟨t,ht,lC,-,hr,-⟩:=ho.t h7;have h:=HI (ops:=ops) hG ht hr;rw [lC,Int.toNat_natCast];exact ⟨fun m hm=>⟨(h.1 m hm).2,(h.1 m hm).1.1⟩,ag⟩
 ·obtain ⟨t,ht,lC,-,-,hm⟩:=ho.t h7;rw [lC,Int.toNat_natCast];exact fun m h=>⟨((hm m h).i ht).2,((hm m h).i ht).1.1⟩
 ·obtain ⟨t,ht,lC,-,hr,hm⟩:=ho.t ag;rw [lC,Int.toNat_natCast];exact (xt t ht hr hm).1
 ·unfold dW;cases im aI (ops.getD i .zero) != 0
  ·rw [cond_false];cases Wz:((ops.getD i .zero).kind==7||(ops.getD i .zero).kind==9)
   ·rw [cond_false];cases h8:(ops.getD i .zero).kind==8
    ·rw [cond_false];cases iH:(ops.getD i .zero).kind==10
     ·rw [cond_false];simp only [Bool.or_eq_false_iff,beq_eq_false_iff_ne,ne_eq] at Wz h8 iH;obtain ⟨t,ht,lC,-,hr,hm⟩:=ho.t ag;rw [lC,Int.toNat_natCast];cases (gh ops ids (ops.getD i .zero).row).2 != 0
      ·rw [cond_false];unfold Ac;cases h1:(ops.getD i .zero).kind==1
       ·rw [cond_false,if_neg cR];cases (ops.getD i .zero).kind==2
        ·rw [cond_false];cases (ops.getD i .zero).kind==6
         ·exact (xt t ht hr hm).2
         ·exact hx
        ·exact hx
       ·rw [cond_true,if_pos cR];exact Zr hx ht (fun s h=>((HI hG ht hr).1 s h).1) (hid cR)
      ·exact xF
     ·exact xF
    ·exact xF
   ·exact xF
  ·exact xF
theorem Cy {n0:Int} {ops:List Op'} {ow:List (List UInt8)} (h1:1<=n0) (h2:n0+ops.length<=1000000) (ho:∀o∈ops,mE o):∀(k i:Nat) (x:aA) (out:List bV),i+k=ops.length->dV n0 (n0+cntI (ops.take i)) x ->
  zj aI ops (idsF ops n0) ow k i x/\((trL aI ops (idsF ops n0) ow k i x out).2.2=true->dV n0 (n0+cntI ops) (trL aI ops (idsF ops n0) ow k i x out).1)
 | 0,i,x,out,hi,hx=>by
  have hi:i=ops.length:=hi;subst hi;rw [List.take_length] at hx;exact ⟨a8,fun _=>hx⟩
 | k+1,i,x,out,hi,hx=>by
  have bA:i<ops.length:=ag;have aD:=Bd ops n0 i bA;have hc:=uk (ops.take i);have hd:=Vg (ow:=ow) hx (ho _ (bH .zero bA)) (MI h1 h2) (fun h=>by rw [aD,if_pos h];omega);have Mo:=J4 ops i bA;have kq:dV n0 (n0+cntI (ops.take (i+1))) (dW aI x ops (idsF ops n0) ow i).1:=by
   refine hd.2.mono ?_;rw [Mo,aD];by_cases h:(ops.getD i .zero).kind=1
   ·simp only [if_pos h];omega
   ·simp only [if_neg h];omega
  have ih:=fun out=>Cy h1 h2 ho (ow:=ow) k (i+1) (dW aI x ops (idsF ops n0) ow i).1 out ag kq;refine ⟨⟨hx.wo,hd.1,fun _=>(ih []).1⟩,?_⟩;rw [trL];cases (dW aI x ops (idsF ops n0) ow i).2.code != 0
  ·rw [cond_false];exact (ih _).2
  ·rw [cond_true];exact fun h=>by cases h
abbrev Au:Nat:=39
def fe (l:List UInt8):Src:=⟨l,0,(l.length % 1000:Nat)⟩
theorem aN5 (l:List UInt8):fnT E0 1 Au [ab aP l] []=(
 .ai [(1000:Int)≠(0:Int)] (dz (pp 0) [some ([ab aP l,aa 0,aa (Int.tmod (l.length:Int) (1000:Int))],138)] []):T _):=fz
theorem HJ (l:List UInt8):au Pz Au [ab aP l] [] ⟨.ptr 0 0,[ar (fe l)],[]⟩:=by
 refine a6 (aN5 l) ?_;simp only [sz];refine ⟨ag,rfl,?_,by simp⟩;have e:((l.length:Int)).tmod 1000=((l.length % 1000:Nat):Int):=by
  rw [Int.tmod_eq_emod_of_nonneg ag];omega
 rw [e];rfl
theorem BW (l:List UInt8) (h:l.length<=1048576):(fe l).OK 1000000:=⟨h,by simp [fe],by simp only [fe];omega,by simp only [fe];omega⟩
theorem Cl (a c:List Rw) (nx:Int):∀(n k:Nat) (b:List Rw) (g:Bool),(swB a c nx n k b g).1.Sublist b
 | 0,_,b,_=> .refl b
 | n+1,k,b,g=>by
  rw [swB];cases decide (k<b.length)
  ·exact .refl b
  ·rw [cond_true];cases ey aI ⟨[a,b,c],nx⟩ 1 (b.getD k .zero).id==0
   ·exact Cl a c nx n (k+1) b g
   ·exact (Cl a c nx n k (gf b k) true).trans (Hw b k)
theorem D2 (a c:List Rw) (nx:Int):∀(n:Nat) (b:List Rw),(drB a c nx n b).Sublist b
 | 0,b=> .refl b
 | n+1,b=>by
  rw [drB];cases (swB a c nx b.length 0 b false).2
  ·exact Cl a c nx _ 0 b false
  ·exact (D2 a c nx n _).trans (Cl a c nx _ 0 b false)
theorem VW {c:aL} {d:aQ} (hd:cq c.kind d) (hk:c.kind≠1) (hm:c.min=0) (hl:(d.length:Int)<=c.max):dn c d=0:=by
 unfold dn;have h1:(decide (0<d.length) && !((d.getD 0 .zero).kind==c.kind))=false:=by
  by_cases h0:0<d.length
  ·rw [(hd.ok _ (bH .zero h0)).2];simp
  ·simp [h0]
 rw [h1,cond_false,show bC d.length c.min c.max=true by unfold bC;rw [hm];simp;omega,show (c.kind==1)=false by simpa using hk];rfl
theorem aV1 (there:List Rw) {r:Rw} (h:dh (bD 0) r):dh (bD 0) (fi there 1 r):=by
 have h1:=h.d 1 (by decide);have hl:=xg h1.2;have hd:cq ((bD 0).av.getD 1 .zero).kind (jI there (r.cells.getD 1 [])):=h1.1.sub List.filter_sublist;refine h.set (k:=1) (by decide) hd (VW hd (by decide) (by decide) ?_);have:(jI there (r.cells.getD 1 [])).length<=(r.cells.getD 1 []).length:=List.length_filter_le _ _;omega
theorem ZX {α:Type} {l:List α} (h:l.length=3):∃a b c,l=[a,b,c]:=by
 match l,h with
 | [a,b,c],_=>exact ⟨a,b,c,rfl⟩
theorem Pe {n0 nx:Int} {x:aA} (h:dV n0 nx x):(∃a b c n,x=⟨[a,b,c],n⟩/\kE a b c)/\dV n0 nx (dR x):=by
 obtain ⟨ts,n⟩:=x;obtain ⟨a,b,c,rfl⟩:=ZX h.n;have ha:iV (bD 0) nx a:=h.r 0 ag;have hb:iV (bD 1) nx b:=h.r 1 ag;have hc:iV (bD 2) nx c:=h.r 2 ag;refine ⟨⟨a,b,c,n,rfl,⟨by have:=ha.n;omega,fun r hr=>⟨(ha.c r hr).s (jM ag),(ha.c r hr).n⟩⟩,⟨by have:=hb.n;omega,fun r hr=>⟨(hb.c r hr).s (jM ag),(hb.c r hr).n⟩⟩,⟨by have:=hc.n;omega,fun r hr=>⟨(hc.c r hr).s (jM ag),(hc.c r hr).n⟩⟩⟩,rfl,fun t ht => ?_,fun i j hi hj bc r hr q hq => ?_,h.x⟩;rotate_left
 ·have key:∀i,i<3->∀r∈(dR ⟨[a,b,c],n⟩).ak.getD i [],∃y∈([a,b,c]:List (List Rw)).getD i [],y.id=r.id:=by
   intro i hi r hr;have:i=0\/i=1\/i=2:=ag;rcases this with rfl | rfl | rfl
   ·obtain ⟨y,hy,rfl⟩:=List.mem_map.1 (show r∈a.map (fi (drB a c n (b.length+1) b) 1) from hr);exact ⟨y,hy,rfl⟩
   ·exact ⟨r,(D2 a c n (b.length+1) b).subset (show r∈drB a c n (b.length+1) b from hr),rfl⟩
   ·exact ⟨r,hr,rfl⟩
  obtain ⟨y,hy,e1⟩:=key i hi r hr;obtain ⟨z,hz,e2⟩:=key j hj q hq;rw [<- e1,<- e2];exact h.o i j hi hj bc y hy z hz
 have bT:=hb.sub (D2 a c n (b.length+1) b);have dc:iV (bD 0) nx (a.map (fi (drB a c n (b.length+1) b) 1)):=by
  refine ⟨by rw [List.length_map];exact ha.n,?_,fun r hr => ?_,fun r hr => ?_⟩
  ·unfold iW;rw [List.pairwise_map];exact ha.p
  ·obtain ⟨y,hy,rfl⟩:=List.mem_map.1 hr;exact ha.i y hy
  ·obtain ⟨y,hy,rfl⟩:=List.mem_map.1 hr;exact aV1 _ (ha.c y hy)
 have:t=0\/t=1\/t=2:=ag;rcases this with rfl | rfl | rfl
 ·exact dc
 ·exact bT
 ·exact hc
theorem dV.nxt {n0 n1 nx:Int} {x:aA} (h:dV n0 nx x):dV n1 nx ⟨x.ak,n1⟩:=⟨h.n,h.r,h.o,rfl⟩
def iT (x:aA):Prop:=1<=x.next/\dV x.next x.next x
theorem Cw {x:aA} {ops:List Op'} {ow:List (List UInt8)} (hx:iT x) (h2:x.next+ops.length<=1000000) (ho:∀o∈ops,mE o) (hn:ops.length<=1048576) (hw:ow.length<=1048576):
  au Pz jA [.agg [ab ao aI],.agg (aM x),ab aK ops,ab encStr ow] [] ⟨.tup [.agg (aM (dt aI x ops ow).1),ab bL (dt aI x ops ow).2.1,.bool (dt aI x ops ow).2.2],[],[]⟩/\iT (dt aI x ops ow).1/\x.next<=(dt aI x ops ow).1.next/\(dt aI x ops ow).1.next<=x.next+ops.length:=by
 have hI:=Cy (ow:=ow) hx.1 h2 ho ops.length 0 x [] ag (by simpa [cntI] using hx.2);have hG:=MI hx.1 h2;have hc:=uk ops;have mY:=as9 ops x.next hx.1
 have sT:∀r,trL aI ops (idsF ops x.next) ow ops.length 0 x []=r->r.2.2=true->(∃a b c n,r.1=⟨[a,b,c],n⟩/\kE a b c)/\dV x.next (x.next+cntI ops) (dR r.1):=by
  rintro r rfl h;exact Pe (hI.2 h)
 have FB:∀r,trL aI ops (idsF ops x.next) ow ops.length 0 x []=r->r.2.2=true->dV (x.next+cntI ops) (x.next+cntI ops) ⟨(dR r.1).ak,nxL (idsF ops x.next) (dR r.1).next⟩:=by
  intro r hr h;have h3:=(sT r hr h).2;rw [h3.x,mY];exact h3.nxt
 refine ⟨aS2 hn hw ⟨by have:=hx.1;omega,ag⟩ hI.1 (fun r hr h=>⟨(sT r hr h).1,(FB r hr h).wo.h⟩) (Gn ops x.next) (fun d hd=>by rcases hG d hd with h | h <;> omega),?_⟩;unfold dt zi;generalize hr:trL aI ops (idsF ops x.next) ow ops.length 0 x []=r at *;have A2:iT x/\x.next<=x.next/\x.next<=x.next+(ops.length:Int):=⟨hx,ag,ag⟩
 cases h:r.2.2
 ·exact A2
 ·rw [cond_true];have h3:=FB r rfl h;cases ka aI ⟨(dR r.1).ak,nxL (idsF ops x.next) (dR r.1).next⟩ != 0
  ·rw [cond_false];have YU:nxL (idsF ops x.next) (dR r.1).next=x.next+cntI ops:=h3.x
   refine ⟨⟨?_,?_⟩,?_,?_⟩
   ·show 1<=nxL (idsF ops x.next) (dR r.1).next
    have:=hx.1;omega
   ·show dV (nxL (idsF ops x.next) (dR r.1).next) (nxL (idsF ops x.next) (dR r.1).next) _;rw [YU] at h3 ⊢;exact h3
   ·show x.next<=nxL (idsF ops x.next) (dR r.1).next
    omega
   ·show nxL (idsF ops x.next) (dR r.1).next<=_
    omega
  ·exact A2
abbrev uR:Nat:=40
abbrev E6:Nat:=104
abbrev E5:Nat:=8
def kC (x:Src) (m:Int):Int:=min (1+(x.l.length:Int).tdiv 12) m
theorem szT (x:Src) (m:Int):fnT E0 0 E6 [.ptr 0 0,.int .i64 m] [ar x]=(
 let q:=(1:Int)+IntKind.i64.wrap (Int.tdiv (↑x.l.length:Int) (12:Int));.ai [(12:Int)≠(0:Int)] (.done (aF.mk (aa (if m<IntKind.i64.wrap q then m else IntKind.i64.wrap q)) [ar x] [])):T _):=(T.force_eq _).symm.trans (by kernel_rfl)
def stoL:Nat->aA->Src->aA×Src
 | 0,x,s=>(x,s)
 | n+1,x,s=>stoL n (dt aI x (fo s).1 []).1 (fo s).2
def mv (s:Src):Int×Src:=aU s (kC s 8+5)
def oF (s:Src):aA×Src:=stoL (mv s).1.toNat (la aI) (mv s).2
def ry (l:List UInt8):aA:=(oF (fe l)).1
def PY (S:aO):cy:=fun f vs hp=>match vs,hp with
 | [.ptr 0 0],[some ([.dsl _ _ cs,.int _ k,.int _ s],_)]=>bif Nat.beq f qy then some ⟨fo (aX cs k s),fun y=>⟨ab aK y.1,[ar y.2],[0]⟩⟩ else bif Nat.beq f uR then some ⟨oF (aX cs k s),fun y=>⟨.agg (aM y.1),[ar y.2],[0]⟩⟩ else none
 | [.ptr 0 0,.int _ n],[some ([.dsl _ _ cs,.int _ k,.int _ s],_)]=>bif Nat.beq f lx then some ⟨aU (aX cs k s) n,fun y=>⟨.int .i64 y.1,[ar y.2],[0]⟩⟩ else bif Nat.beq f E6 then some ⟨kC (aX cs k s) n,fun y=>⟨.int .i64 y,[ar (aX cs k s)],[]⟩⟩ else none
 | [],[]=>bif Nat.beq f nR then some ⟨(),fun _=>⟨.agg [ab ao S],[],[]⟩⟩ else none
 | [.agg [.dsl _ _ cs]],[]=>bif Nat.beq f uL then some ⟨la (af ao cs),fun y=>⟨.agg (aM y),[],[]⟩⟩ else none
 | [.agg [.dsl _ _ ts,.int _ n]],[]=>bif Nat.beq f eT then some ⟨(),fun _=>⟨.agg (aM ⟨af az ts,n⟩),[],[]⟩⟩ else none
 | [.dsl _ _ cs],[]=>bif Nat.beq f Au then some ⟨fe (af aP cs),fun y=>⟨.ptr 0 0,[ar y],[]⟩⟩ else none
 | [.agg [.dsl _ _ cs],.agg [.dsl _ _ ts,.int _ n],.dsl _ _ os,.sl 0 0 0 true],[_]=>bif Nat.beq f jA then some ⟨dt (af ao cs) ⟨af az ts,n⟩ (af aK os) [],fun y=>⟨.tup [.agg (aM y.1),ab bL y.2.1,.bool y.2.2],[none],[0]⟩⟩ else none
 | _,_=>none
def Jb (S:aO):Env:={P:=Pz,vw:=cj,res:=PY S}
def Ig (s:Src) (x:aA) (i:Int):St:=⟨ah 32 [(0,.ptr 0 0),(2,.ptr 1 0),(3,.ptr 2 0),(4,.int .i64 i)],[ar s,some (wC,da),some (aM x,da)],[0]⟩
def QQ (s:Src) (x:aA):St:=⟨ah 32 [(2,.ptr 1 0),(3,.ptr 2 0)],[ar s,some (wC,da),some (aM x,da)],[0]⟩
def aq0:Ex->Kp:=fun ex=>match ex with
 | .normal=>{keep:=[0,2,3,4],wr:=[0]}
 | _=>{keep:=[2,3],wr:=[0]}
theorem QP (S:aO) (s:Src) (x:aA) (i:Int):bp (Jb S) 1 aq0 (lp Pz uR 0) (Ig s x i)=(
 bif decide (i>0) then .bind PUnit.unit fun _=>cz 7 [] [] (.agg [ab ao S]) [] [] (.bind (fo (aX (ae aP s.l) (s.k:Int) s.s)) fun y1=>cz 77 [pp 0] [ar s] (ab aK y1.1) [ar y1.2] [0] (.bind (dt (af ao
  (ae ao S)) (aA.mk (af az (ae az x.ak)) x.next) (af aK (ae aK y1.1)) []) fun y2=>cz 75 [.agg [ab ao S],.agg (aM x),ab aK y1.1,.sl 0 0 0 true] [some ([],9)] (.tup [.agg (aM y2.1),ab
  bL (y2.2.1),.bool (y2.2.2)]) [none] [0] (.done (Ex.normal,St.mk (ah 32 [(0,pp 0),(2,pp 1),(3,pp 2),(4,aa (wz (i - 1)))]) [ar y1.2,some ([.dsl 0 true [],aa 0],29),some ((aM y2.1),29)] [0])))) else .done
  (Ex.exit 0,St.mk (ah 32 [(2,pp 1),(3,pp 2)]) [ar s,some ([.dsl 0 true [],aa 0],29),some ((aM x),29)] [0]):T _):=kz
def ae6:Nat->St->Option b8:=fun id s=>match id,s.tm.get 3,s.tm.get 4,s.hp with
 | 0,.ptr b 0,.int _ i,some ([.dsl _ _ cs,.int _ k,.int _ sd],_)::_=>match s.hp[b]? with
  | some (some ([.dsl _ _ ts,.int _ n],_))=>some ⟨stoL i.toNat ⟨af az ts,n⟩ (aX cs k sd),fun y=> .one {keep:=[0,2,3,4],wr:=[0]} (Ig (aX cs k sd) ⟨af az ts,n⟩ i) (.exit 0) (QQ y.2 y.1)⟩
  | _=>none
 | _,_,_,_=>none
def Ss (S:aO):Env:={P:=Pz,vw:=cj,res:=PY S,ls:=ae6}
theorem aP1 (S:aO) (s:Src):fnT (Ss S) 0 uR [.ptr 0 0] [ar s]=(
 let q:=aX (ae aP s.l) (s.k:Int) s.s;
 let q1:List V:=[.dsl 0 true [],aa 0];.bind PUnit.unit fun _=>cz 7 [] [] (.agg [ab ao S]) [] [] (.bind (la (af ao (ae ao S))) fun y1=>
 let q2:=aA.mk (af az (ae az y1.ak)) y1.next;cz 102 [.agg [ab ao S]] [] (.agg (aM y1)) [] [] (.bind (kC q (8:Int)) fun y2=>cz 104 [pp 0,aa 8] [ar s] (aa y2) [ar q] [] (.bind (aU q (wz (y2+5)))
  fun y3=>
 let q3:=ah 32 [(0,pp 0),(2,pp 1),(3,pp 2),(4,aa y3.1)];
 let q4:=aX (ae aP y3.2.l) (y3.2.k:Int) y3.2.s;cz 103 [pp 0,aa (wz (y2+5))] [ar s] (aa y3.1) [ar y3.2] [0] (.bind (stoL y3.1.toNat q2 q4) fun y4=>
 let q5:V:= .agg (aM (aA.mk (af az (ae az y4.1.ak)) y4.1.next));.ai [St.mk q3 [ar y3.2,some (q1,29),some ((aM y1),29)] [0]=St.mk q3 [ar q4,some (q1,29),some ((aM q2),29)] [0],aN Pz 1
  (blk Pz uR 0) (St.mk q3 [ar q4,some (q1,29),some ((aM q2),29)] [0]) (Ex.exit 0) (St.mk (ah 32 [(2,pp 1),(3,pp 2)]) [ar y4.2,some (q1,29),some ((aM y4.1),29)] [0])] (.bind PUnit.unit fun _=>cz 74 [.agg
  (aM y4.1)] [] q5 [] [] (dz q5 [ar y4.2] [0])))))):T _):=fz
theorem aO4 (l:List UInt8):fnT (Jb aI) 0 E5 [ab aP l] []=(
 .bind (fe (af aP (ae aP l))) fun y0=>cz 39 [ab aP l] [] (pp 0) [ar y0] [] (.bind (oF (aX (ae aP y0.l) (y0.k:Int) y0.s)) fun y1=>cz 40 [pp 0] [ar y0] (.agg (aM y1.1)) [ar y1.2] [0] (dz
  (.agg (aM y1.1)) [] [])):T _):=fz
theorem aQ4 (x:Src) (m:Int) (_:0<=m/\m<=1000) (hl:x.l.length<=1048576):au Tryz.prog E6 [.ptr 0 0,.int .i64 m] [ar x] ⟨.int .i64 (kC x m),[ar x],[]⟩:=by
 have hb:0<=(x.l.length:Int).tdiv 12/\(x.l.length:Int).tdiv 12<=1048576:=by
  rw [Int.tdiv_eq_ediv_of_nonneg ag];omega
 refine a6 (szT x m) ?_
 simp only [T.WP,All,bg,bo]
 rw [du (n:=(x.l.length:Int).tdiv 12) ag,du (n:=1+(x.l.length:Int).tdiv 12) ag]
 have e:(if m<1+(x.l.length:Int).tdiv 12 then m else 1+(x.l.length:Int).tdiv 12)=kC x m:=by
  unfold kC
  split <;> omega
 rw [e]
 exact ⟨ag,aH⟩
theorem QZ (x:Src) {m:Int} (hm:1<=m):1<=kC x m/\kC x m<=m:=by
 have hb:0<=(x.l.length:Int).tdiv 12:=Int.tdiv_nonneg ag ag;unfold kC;omega
theorem aS3 {x:aA} {ops:List Op'} (h:au Pz jA [.agg [ab ao aI],.agg (aM x),ab aK ops,ab encStr []] [] ⟨.tup [.agg (aM (dt aI x ops []).1),ab bL (dt aI x ops []).2.1,.bool (dt aI x ops []).2.2],[],[]⟩):
  au Pz jA [.agg [ab ao aI],.agg (aM x),ab aK ops,.sl 0 0 0 true] [some ([],ni)] ⟨.tup [.agg (aM (dt aI x ops []).1),ab bL (dt aI x ops []).2.1,.bool (dt aI x ops []).2.2],[none],[0]⟩:=
 au.AH (hp:=[some ([],ni)]) 5 rfl h
theorem QR:∀(n:Nat) (x:aA) (s:Src) (c:Nat),iT x->x.next+5*n<=1000->s.OK (c+n*825) ->
  aT Tryz.prog 1 (lp Tryz.prog uR 0) (Ig s x n) (.exit 0) (QQ (stoL n x s).2 (stoL n x s).1)/\iT (stoL n x s).1/\(stoL n x s).1.next<=x.next+5*n/\(stoL n x s).2.OK c
 | 0,x,s,c,hx,hn,hs=>by
  refine ⟨?_,hx,by simp [stoL],hs.less ag⟩
  refine bt (QP aI s x ((0:Nat):Int)) ?_
  simp only [ba,T.WP,All,bh,bl,bg]
  exact ⟨fun h=>ag,fun _=>⟨rfl,rfl⟩⟩
 | n+1,x,s,c,hx,hn,hs=>by
  have ho:=OC (x:=s) (c:=c+n*825) (hs.less ag)
  have hf:=G6 (x:=s) (c:=c+n*825) (hs.less ag)
  have ht:=Cw (ow:=[]) hx (by have:=hf.2.1;omega) (fun o h=>(hf.1 o h).g) (by have:=hf.2.1;omega) (by simp)
  have kQ:=aS3 ht.1
  have ih:=QR n (dt aI x (fo s).1 []).1 (fo s).2 c ht.2.1 (by have:=ht.2.2.2;have:=hf.2.1;omega) hf.2.2
  have e:stoL (n+1) x s=stoL n (dt aI x (fo s).1 []).1 (fo s).2:=rfl
  rw [e]
  refine ⟨?_,ih.2.1,by have:=ih.2.2.1;have:=ht.2.2.2;have:=hf.2.1;omega,ih.2.2.2⟩
  have Mz:=hx.1
  have w1:IntKind.i64.wrap (((n+1:Nat):Int) - 1)=(n:Int):=by
   rw [du ag];omega
  have eZ:=ih.1
  refine bt (QP aI s x ((n+1:Nat):Int)) ?_
  simp only [ba,T.WP,All,bh,bl,bg,w1,dZ,bN.af,bB.af,iM.af]
  refine ⟨fun _ => ?_,fun h=>ag⟩
  rintro _ -
  refine ⟨qY,?_⟩
  rintro y1 e1
  have e1:y1=fo s:=e1
  rw [<- e1] at ho kQ eZ ⊢
  refine ⟨ho,?_⟩
  rintro y2 e2
  have e2:y2=dt aI x y1.1 []:=e2
  rw [<- e2] at kQ eZ ⊢
  exact ⟨kQ,eZ⟩
theorem GF:iT (la aI):=by
 have e:∀t,t<3->(la aI).ak.getD t []=[]:=fun t ht=>by
  have:t=0\/t=1\/t=2:=ag;rcases this with rfl | rfl | rfl <;> rfl
 refine ⟨by decide,rfl,fun t ht => ?_,fun i j hi hj _ r hr => ?_,rfl⟩
 ·rw [e t ht];exact ⟨by simp,.nil,by simp,by simp⟩
 ·rw [e i hi] at hr;cases hr
theorem aP0 {s:Src} {c:Nat} (hs:s.OK (c+9903)):au Pz uR [.ptr 0 0] [ar s] ⟨.agg (aM (oF s).1),[ar (oF s).2],[0]⟩/\iT (oF s).1/\(oF s).1.next<=61/\(oF s).2.OK c:=by
 have hz:=QZ s (m:=8) ag;have cQ:=aQ4 s 8 ag hs.hl;have mY:=fD (c:=c+9900) s (kC s 8+5) hs;have vo:=dJ (x:=s) (n:=kC s 8+5) (c:=c+9900) hs ag;have hN:(mv s)=aU s (kC s 8+5):=rfl;rw [<- hN] at mY vo;have hl:=QR (mv s).1.toNat (la aI) (mv s).2 c GF (by have:(la aI).next=1:=rfl;omega) (vo.1.less ag);have h1:(la aI).next=1:=rfl
 unfold oF;refine ⟨?_,hl.2.1,by have:=hl.2.2.1;omega,hl.2.2.2⟩;have fL:=ak5 (S:=aI) (by decide);have qG:(((mv s).1.toNat:Nat):Int)=(mv s).1:=ag;have cD:=hl.1;rw [qG] at cD;have sP:=Ha hl.2.1.2.wo.h.s;refine a6 (aP1 aI s) ?_;have w1:wz (kC s 8+5)=kC s 8+5:=du ag;simp only [sz,dZ,bN.af,bB.af];rintro _ -;refine ⟨qY,?_⟩;rintro y1 e1;have e1:y1=la aI:=e1;rw [<- e1] at fL cD sP ⊢;refine ⟨fL,?_⟩;rintro y2 rfl;rw [w1];refine ⟨cQ,?_⟩;rintro y3 e3;have e3:y3=mv s:=e3;rw [<- e3] at mY cD sP ⊢;refine ⟨mY,?_⟩;rintro y4 e4;have e4:y4=stoL y3.1.toNat y1 y3.2:=e4;rw [<- e4] at cD sP ⊢;refine ⟨⟨a8,.aV cD⟩,?_⟩;rintro _ -;exact ⟨sP,aH⟩
theorem aP2 (l:List UInt8) (h:l.length<=1048576):au Pz E5 [ab aP l] [] ⟨.agg (aM (ry l)),[],[]⟩/\iT (ry l)/\(ry l).next<=61:=by
 have h0:(fe l).OK (0+9903):=(BW l h).less ag;have hs:=aP0 h0;refine ⟨?_,hs.2.1,hs.2.2.1⟩;have sV:=hs.1;unfold ry;refine a6 (aO4 l) ?_;simp only [sz,pP.af,dZ];rintro y e;have e:y=fe l:=e;rw [<- e] at sV ⊢;refine ⟨by rw [e];exact HJ l,?_⟩;rintro y2 e2;have e2:y2=oF y:=e2;rw [<- e2] at sV ⊢;exact ⟨sV,aH⟩
theorem cO.On {I:Nat->Prop} {w w':World} {X:Nat->Prop} (h:w.grownBy w' none) (_:∀k,I k->k<w.heap.size):cO I w w' X:=by
 have hb:∀k,k<w.heap.size->w'.heap[k]?=w.heap[k]?:=fun k hk=>h.block k hk (by simp);refine ⟨h.os,h.tape,h.output,h.size,fun k hk _=>hb k hk,fun k s hs => ?_,fun k hk hl=>hb k hl⟩;unfold World.shape? at hs ⊢;have hk:k<w.heap.size:=by
  rcases Nat.lt_or_ge k w.heap.size with h | h
  ·exact h
  ·rw [Array.getElem?_eq_none h] at hs;cases hs
 rw [hb k hk];exact hs
theorem au.Om {P:Program} {f:FuncId} {vs:List V} {v:V}
  (h:∀(I:Nat->Prop) (w:World) (b9:Array Value),V.RL P I cf w vs b9.toList->lS P I w->Calls P f b9 w fun e w'=>∃val,e= .returned val/\V.R P I cf w' v val/\w.grownBy w' none):
  au P f vs [] ⟨v,[],[]⟩:=by
 refine ⟨⟨Nat.le_refl _,fun b hb=>by simp at hb,fun b hb=>by simp at hb,fun b hb=>by simp at hb⟩,fun I w μ b9 hv pre dN => ?_⟩
 have hμ:dE μ cf:=fun b g hb=>by have:=dN b g hb;simp at this
 refine (h I w b9 (hv.keep (.refl w (fun _=>False)) (.refl I) hμ) pre.dB).mono ?_
 rintro e w' ⟨val,he,hR,hg⟩
 exact ⟨val,μ,I,he,ud hR,⟨.refl _,fun k hk=> .inl hk,.On hg pre.dB,.refl _,fun b g hb=> .inl hb,fun _ _ _=>rfl,fun b hb blk h=>by simp at h,fun b hb blk h=>by simp at h,fun b c b1 b2 g bc hb hc h1=>by simp at h1⟩⟩
abbrev Ak:Nat:=218
abbrev EJ:Nat:=250
abbrev qm:Nat:=245
abbrev KP:Nat:=246
abbrev Eh:Nat:=198
abbrev Aw:Nat:=45
abbrev Ez:Nat:=194
abbrev Ew:Nat:=110
abbrev Ec:Nat:=197
abbrev qu:Nat:=244
abbrev uA:Nat:=121
def cI (a b:Int):Int:=bif decide (a<b) then -1 else bif decide (a>b) then 1 else 0
def orF:List Int->Int
 | []=>0
 | a::t=>bif a != 0 then a else orF t
def kG (a b:At):Int:=orF [cI a.kind b.kind,cI a.n b.n,Lib.compareBytes a.t b.t]
theorem TX (a b:List UInt8):au Pz KP [.str a,.str b] [] ⟨.int .i64 (Lib.compareBytes a b),[],[]⟩:=by
 refine au.Om fun I w b9 hv hI => ?_;simp only [V.RL,V.R] at hv;obtain ⟨u,us,h1,rfl,u2,jv,h2,rfl,rfl⟩:=hv;subst h2;obtain rfl:b9 = #[.string ⟨a.toArray⟩,.string ⟨b.toArray⟩]:=by cases b9;simp_all
 refine (Any.strings_Compare Tryz.lays106 ⟨a.toArray⟩ ⟨b.toArray⟩ w).mono ?_;rintro e w' ⟨he,rfl⟩;exact ⟨_,he,by simp only [V.R],⟨rfl,rfl,rfl,Nat.le_refl _,fun _ _ _=>rfl⟩⟩
def vS:cy:=fun f vs hp=>match vs,hp with
 | [.int _ a],[]=>bif Nat.beq f EJ then some ⟨(),fun _=>⟨.bool false,[],[]⟩⟩ else bif Nat.beq f Ez then some ⟨vH a,fun y=>⟨.bool y,[],[]⟩⟩ else bif Nat.beq f Ew then some ⟨pJ a,fun y=>⟨.bool y,[],[]⟩⟩ else none
 | [.int _ a,.int _ b],[]=>bif Nat.beq f Ak then some ⟨cI a b,fun y=>⟨.int .i64 y,[],[]⟩⟩ else none
 | [.int _ a,.int _ b,.int _ c],[]=>bif Nat.beq f Aw then some ⟨bC a b c,fun y=>⟨.bool y,[],[]⟩⟩ else none
 | [.str a],[]=>bif Nat.beq f qu then some ⟨qX a,fun y=>⟨.bool y,[],[]⟩⟩ else none
 | [.str a,.str b],[]=>bif Nat.beq f KP then some ⟨Lib.compareBytes a b,fun y=>⟨.int .i64 y,[],[]⟩⟩ else none
 | [.sl 0 0 3 _],[some ([.int k1 a,.int k2 b,.int k3 c],T)]=>bif Nat.beq f qm then some ⟨orF [a,b,c],fun y=>⟨.int .i64 y,[some ([.int k1 a,.int k2 b,.int k3 c],T)],[]⟩⟩ else none
 | [.agg [.int _ k,.int _ n,.str t]],[]=>bif Nat.beq f Ec then some ⟨fV ⟨k,n,t⟩,fun y=>⟨.bool y,[],[]⟩⟩ else none
 | [.agg [.int _ k,.int _ n,.str t],.agg [.int _ k',.int _ n',.str t']],[]=>bif Nat.beq f Eh then some ⟨kG ⟨k,n,t⟩ ⟨k',n',t'⟩,fun y=>⟨.int .i64 y,[],[]⟩⟩ else none
 | _,_=>none
def fj:Env:={P:=Pz,vw:=cj,res:=vS}
theorem ak2 (a:Int):fnT fj 0 EJ [.int .i64 a] []=(
 dz (.bool (a != a)) [] []:T _):=fz
theorem TV (a b:Int):fnT fj 0 Ak [.int .i64 a,.int .i64 b] []=(
 let q:=aF.mk (.bool false) [] [];.bind PUnit.unit fun _=> .ai [au (Env.P fj) 250 [aa a] [] q] (.bind PUnit.unit fun _=> .ai [au (Env.P fj) 250 [aa b] [] q] (bif decide (a<b) then dz (aa (-1:Int)) [] [] else bif
  decide (a>b) then dz (aa 1) [] [] else dz (aa 0) [] [])):T _):=fz
theorem aV0 (a b c:Int):fnT fj 0 Aw [.int .i64 a,.int .i64 b,.int .i64 c] []=(
 bif decide (a>=b) then dz (.bool (decide (a<=c))) [] [] else dz (.bool false) [] []:T _):=kz
theorem Zw (a:Int):fnT fj 0 Ez [.int .i64 a] []=(
 .bind (bC a (-1000000000:Int) (1000000000:Int)) fun y0=> .ai [au (Env.P fj) 45 [aa a,aa (-1000000000:Int),aa 1000000000] [] (aF.mk (.bool y0) [] [])] (dz (.bool y0) [] []):T _):=fz
theorem Zu (a:Int):fnT fj 0 Ew [.int .i64 a] []=(
 .bind (bC a (1:Int) (1000000:Int)) fun y0=> .ai [au (Env.P fj) 45 [aa a,aa 1,aa 1000000] [] (aF.mk (.bool y0) [] [])] (dz (.bool y0) [] []):T _):=fz
theorem TS (a b:At):fnT fj 0 Eh [.agg (aj a),.agg (aj b)] []=(
 .bind (cI a.kind b.kind) fun y0=> .ai [au (Env.P fj) 218 [aa a.kind,aa b.kind] [] (aF.mk (aa y0) [] [])] (.bind (cI a.n b.n) fun y1=> .ai [au (Env.P fj) 218 [aa a.n,aa b.n] [] (aF.mk (aa y1) [] [])] (.bind
  (Lib.compareBytes a.t b.t) fun y2=>
 let q:Hp:=[some ([aa y0,aa y1,aa y2],3)];.ai [au (Env.P fj) 246 [.str a.t,.str b.t] [] (aF.mk (aa y2) [] [])] (.bind (orF [y0,y1,y2]) fun y3=> .ai [au (Env.P fj) 245 [.sl 0 0 3 true] q (aF.mk (aa y3) q [])]
  (dz (aa y3) [] [])))):T _):=fz
theorem S3 (a:At):fnT fj 0 Ec [.agg (aj a)] []=(
 let q:V:= .bool (a.t==[]);bif a.kind==1 then .bind (vH a.n) fun y0=> .ai [au (Env.P fj) 194 [aa a.n] [] (aF.mk (.bool y0) [] [])] (bif y0 then dz q [] [] else dz (.bool false) [] []) else bif a.kind==2 then bif a.n ==
  0 then .bind (qX a.t) fun y1=> .ai [au (Env.P fj) 244 [.str a.t] [] (aF.mk (.bool y1) [] [])] (dz (.bool y1) [] []) else dz (.bool false) [] [] else bif a.kind==3 then .bind (bC a.n (0:Int) (1:Int)) fun y2=> .ai
  [au (Env.P fj) 45 [aa a.n,aa 0,aa 1] [] (aF.mk (.bool y2) [] [])] (bif y2 then dz q [] [] else dz (.bool false) [] []) else bif a.kind==4 then .bind (pJ a.n) fun y3=> .ai [au (Env.P fj) 110 [aa a.n] [] (aF.mk (.bool
  y3) [] [])] (bif y3 then dz q [] [] else dz (.bool false) [] []) else dz (.bool false) [] []:T _):=kz
theorem Np (a:Int):au Pz EJ [.int .i64 a] [] ⟨.bool false,[],[]⟩:=by
 refine a6 (ak2 a) ?_;simp only [sz];rw [show (a != a)=false by simp];exact aH
theorem DT (a b:Int):au Pz Ak [.int .i64 a,.int .i64 b] [] ⟨.int .i64 (cI a b),[],[]⟩:=by
 refine a6 (TV a b) ?_;simp only [sz];rintro _ -;refine ⟨Np a,?_⟩;rintro _ -;unfold cI;refine ⟨Np b,fun h => ?_,fun h=>⟨fun h2 => ?_,fun h2 => ?_⟩⟩
 ·rw [decide_eq_true h];exact aH
 ·rw [decide_eq_false h,decide_eq_true h2];exact aH
 ·rw [decide_eq_false h,decide_eq_false h2];exact aH
theorem rE (n lo hi:Int):au Pz Aw [.int .i64 n,.int .i64 lo,.int .i64 hi] [] ⟨.bool (bC n lo hi),[],[]⟩:=by
 refine a6 (aV0 n lo hi) ?_;simp only [sz];unfold bC;refine ⟨fun h=>⟨?_,rfl,by simp⟩,fun h=>⟨?_,rfl,by simp⟩⟩
 ·simp [h]
 ·simp [h]
theorem Zx (n:Int):au Pz Ez [.int .i64 n] [] ⟨.bool (vH n),[],[]⟩:=by
 refine a6 (Zw n) ?_;simp only [sz];rintro y rfl;exact ⟨rE _ _ _,aH⟩
theorem MM (n:Int):au Pz Ew [.int .i64 n] [] ⟨.bool (pJ n),[],[]⟩:=by
 refine a6 (Zu n) ?_;simp only [sz];rintro y rfl;exact ⟨rE _ _ _,aH⟩
def H4 (l:List Int) (i:Int):St:=⟨ah 18 [(3,.int .i64 0),(6,ab aJ l),(7,.int .i64 l.length),(8,.int .i64 i)],[],[]⟩
def ao2:Ex->Kp:=fun ex=>match ex with
 | .normal=>{keep:=[3,6,7,8]}
 | .ret=>{keep:=[2]}
 | _=>{keep:=[3]}
theorem OD (l:List Int) (i:Int):bp fj 0 ao2 (lp Pz qm 0) (H4 l i)=(
 let q2:=af aJ (ae aJ l);
 let q:=List.getD q2 i.toNat (0:Int);
 let q1:=(l.length:Int);bif decide (i<q1) then .ai [0<=i/\i<q1,td 1 i (ae aJ l)=[aa q]] (bif List.getD q2 i.toNat (0:Int) != 0 then .done (Ex.ret,St.mk (ah 18 [(2,aa q)]) [] []) else nz (ah 18 [(3,aa 0),
  (6,ab aJ l),(7,aa q1),(8,aa (wz (i+1)))]) []) else .done (Ex.exit 0,St.mk (ah 18 [(3,aa 0)]) [] []):T _):=kz
def ac8:Nat->St->Option b8:=fun id s=>match id,s.tm.get 6 with
 | 0,.dsl _ _ cs=>some ⟨orF (af aJ cs),fun y=> .two {keep:=[3,6,7,8]} (H4 (af aJ cs) 0) (y==0) (.exit 0) ⟨ah 18 [(3,.int .i64 0)],[],[]⟩ .ret ⟨ah 18 [(2,.int .i64 y)],[],[]⟩⟩
 | _,_=>none
theorem Th (l:List Int):fnT {P:=Pz,vw:=cj,res:=vS,ls:=ac8} 0 qm [ab aJ l] []=(
 let q1:=af aJ (ae aJ l);
 let q:=ah 18 [(3,aa 0),(6,ab aJ q1),(7,aa (↑(List.length q1):Int)),(8,aa 0)];.bind (orF q1) fun y0=> .ai [St.mk (ah 18 [(3,aa 0),(6,ab aJ l),(7,aa (l.length:Int)),(8,aa 0)]) [] []=St.mk q []
  []] (bif y0==0 then .ai [aN Pz 0 (blk Pz qm 0) (St.mk q [] []) (Ex.exit 0) (St.mk (ah 18 [(3,aa 0)]) [] [])] (dz (aa 0) [] []) else .ai [aN Pz 0 (blk Pz qm 0) (St.mk q [] []) Ex.ret (St.mk (ah 18 [(2,aa
  y0)]) [] [])] (dz (aa y0) [] [])):T _):=fz
def G7 (c:Int):St:=bif c==0 then ⟨ah 18 [(3,.int .i64 0)],[],[]⟩ else ⟨ah 18 [(2,.int .i64 c)],[],[]⟩
theorem JF (l:List Int) (hl:l.length<=1048576):∀(k i:Nat),i+k=l.length->aT Pz 0 (lp Pz qm 0) (H4 l i) (nH (orF (l.drop i))) (G7 (orF (l.drop i)))
 | 0,i,hi=>by
  have hi:i=l.length:=hi;subst hi;rw [List.drop_length];refine bt (OD l (l.length:Nat)) ?_;simp only [sz];exact ⟨fun h=>ag,fun _=>⟨rfl,rfl⟩⟩
 | k+1,i,hi=>by
  have bA:i<l.length:=ag;have aD:=fa.at l 0 i 1 bA rfl;have w1:=cX i;have ih:=JF l hl k (i+1) ag;rw [iE 0 bA,orF];refine bt (OD l (i:Nat)) ?_;simp only [sz,w1,fa.af,Int.toNat_natCast];refine ⟨fun _=>⟨⟨aB,aD⟩,fun h => ?_,fun h => ?_⟩,fun h=>ag⟩
  ·have h':l.getD i 0≠0:=dT;rw [show (l.getD i 0 != 0)=true by simpa using h',cond_true];unfold nH G7;rw [show (l.getD i 0==0)=false by simpa using h'];exact ⟨rfl,rfl⟩
  ·rw [(dT:(l.getD i 0 != 0)=false),cond_false];exact ih
theorem Ti (l:List Int) (hl:l.length<=1048576):au Pz qm [ab aJ l] [] ⟨.int .i64 (orF l),[],[]⟩:=by
 have h:=JF l hl l.length 0 ag;rw [List.drop_zero] at h;refine a6 (Th l) ?_;simp only [sz,fa.af];rintro y e;rw [<- e] at h ⊢;unfold nH G7 at h;refine ⟨a8,fun h1=>⟨.aV ?_,?_⟩,fun h1=>⟨.aV ?_,?_⟩⟩
 ·rw [(cR:(y==0)=true)] at h;exact h
 ·rw [(cR:y=0)];exact aH
 ·rw [(cR:(y==0)=false)] at h;exact h
 ·exact aH
theorem az1 (a b c:Int):au Pz qm [.sl 0 0 3 true] [some ([.int .i64 a,.int .i64 b,.int .i64 c],ld)] ⟨.int .i64 (orF [a,b,c]),[some ([.int .i64 a,.int .i64 b,.int .i64 c],ld)],[]⟩:=
 au.Bf 3 (cM:=[ab aJ [a,b,c]]) rfl (Ti [a,b,c] (by simp)) rfl
theorem JW (a b:At):au Pz Eh [.agg (aj a),.agg (aj b)] [] ⟨.int .i64 (kG a b),[],[]⟩:=by
 refine a6 (TS a b) ?_;simp only [sz];rintro y0 rfl;refine ⟨DT _ _,?_⟩;rintro y1 rfl;refine ⟨DT _ _,?_⟩;rintro y2 rfl;refine ⟨TX _ _,?_⟩;rintro y3 rfl;exact ⟨az1 _ _ _,aH⟩
theorem JX:∀ {a b:List UInt8},a<b->Lib.compareBytes a b= -1
 | [],[],h=>absurd h (List.lt_irrefl _)
 | [],_::_,_=>rfl
 | _::_,[],h=>absurd h (List.not_lt_nil _)
 | a::x,b::y,h=>by
  rw [Lib.compareBytes];rcases List.cons_lt_cons_iff.1 h with h2 | ⟨e,h2⟩
  ·rw [if_pos h2]
  ·subst e;rw [if_neg (UInt8.lt_irrefl _),if_neg (UInt8.lt_irrefl _)];exact JX h2
theorem TU {a b:At} (h:gH a b):kG a b<0:=by
 unfold gH at h;unfold kG;have c1:∀ {x y:Int},x<y->cI x y= -1:=fun h=>by unfold cI;rw [decide_eq_true h];rfl
 have c0:∀(x:Int),cI x x=0:=fun x=>by unfold cI;simp
 rcases h with h | ⟨e,h | ⟨e2,h⟩⟩
 ·rw [c1 h];exact (by decide:(-1:Int)<0)
 ·rw [e,c0,c1 h];exact (by decide:(-1:Int)<0)
 ·rw [e,e2,c0,c0,JX h];exact (by decide:(-1:Int)<0)
def pT (c:UInt8):Bool:=decide (32<=c.toNat)&&decide (c.toNat<=126)
def yQ (t:List UInt8) (i:Int):St:=⟨ah 23 [(0,.str t),(5,.int .i64 t.length),(6,.int .i64 i)],[],[]⟩
def NF:Ex->Kp:=fun ex=>match ex with
 | .normal=>{keep:=[0,5,6]}
 | .ret=>{keep:=[2]}
 | .exit _=>{keep:=[0]}
theorem pnL (t:List UInt8) (i:Int):bp fj 0 NF (lp Pz qu 0) (yQ t i)=(
 let q:=(↑(UInt8.toNat (List.getD t i.toNat (0:UInt8))):Int);
 let q1:=(t.length:Int);
 let q2:=ah 23 [(2,.bool false)];bif decide (i<q1) then .ai [0<=i/\i<q1] (bif decide (q<32) then .done (Ex.ret,St.mk q2 [] []) else .ai [0<=i/\i<q1] (bif decide (q>126) then .done (Ex.ret,St.mk q2 [] []) else nz
  (ah 23 [(0,.str t),(5,aa q1),(6,aa (wz (i+1)))]) [])) else .done (Ex.exit 0,St.mk (ah 23 [(0,.str t)]) [] []):T _):=kz
theorem Pb (t:List UInt8) (ht:t.length<=4294967296):
  (t.all pT=true->aT Tryz.prog 0 (lp Tryz.prog qu 0) (yQ t 0) (.exit 0) ⟨ah 23 [(0,.str t)],[],[]⟩) /\
  (t.all pT=false->aT Tryz.prog 0 (lp Tryz.prog qu 0) (yQ t 0) .ret ⟨ah 23 [(2,.bool false)],[],[]⟩):=by
 rw [<- qf pT 0 t]
 refine ju (E:=fj) (nf:=NF) (st:=fun i=>yQ t (i:Nat)) (n:=t.length) _ follows named (by simp) (by simp) (fun i=>pnL t (i:Nat)) (fun i hi => ?_) ?_ t.length 0 (by simp)
 ·have hc:=(t.getD i 0).toNat_lt
  simp only [ba,T.WP,All,bh,bl,bg,Int.toNat_natCast,bW (show i<9223372036854775807 by omega)]
  cases hg:pT (t.getD i 0) <;> simp only [pT,Bool.and_eq_true,Bool.and_eq_false_iff,decide_eq_true_eq,decide_eq_false_iff_not] at hg
  all_goals ((repeat' with_reducible first | intro _ | apply And.intro) <;> first | omega | rfl | (exfalso;omega) | (simp;done))
 ·simp only [ba,T.WP,All,bh,bl,bg]
  ((repeat' with_reducible first | intro _ | apply And.intro) <;> first | omega | rfl | (exfalso;omega) | (simp;done))
def ad3:Nat->St->Option b8:=fun id s=>match id,s.tm.get 0 with
 | 0,.str t=>some ⟨t.all pT,fun y=> .two {keep:=[0,5,6]} (yQ t 0) y (.exit 0) ⟨ah 23 [(0,.str t)],[],[]⟩ .ret ⟨ah 23 [(2,.bool false)],[],[]⟩⟩
 | _,_=>none
theorem pnT (t:List UInt8):fnT {P:=Pz,vw:=cj,res:=vS,ls:=ad3} 0 qu [.str t] []=(
 let q:=ah 23 [(0,.str t),(5,aa (t.length:Int)),(6,aa 0)];.bind (List.all t pT) fun y0=> .ai [St.mk q [] []=St.mk q [] []] (bif y0 then .ai [aN Pz 0 (blk Pz qu 0) (St.mk q [] []) (Ex.exit 0) (St.mk (ah 23
  [(0,.str t)]) [] [])] (dz (.bool (decide ((t.length:Int)<=200))) [] []) else .ai [aN Pz 0 (blk Pz qu 0) (St.mk q [] []) Ex.ret (St.mk (ah 23 [(2,.bool false)]) [] [])] (dz (.bool false) [] [])):T _):=fz
theorem Zy (t:List UInt8) (ht:t.length<=4294967296):au Pz qu [.str t] [] ⟨.bool (qX t),[],[]⟩:=by
 refine a6 (pnT t) ?_;simp only [sz];rintro y rfl;refine ⟨a8,fun h=>⟨.aV ((Pb t ht).1 h),?_,rfl,by simp⟩,fun h=>⟨.aV ((Pb t ht).2 h),?_,rfl,by simp⟩⟩
 ·exact congrArg V.bool (show _=(t.all pT&&decide (t.length<=200)) by rw [h,Bool.true_and];congr 1;exact propext ag)
 ·exact congrArg V.bool (show _=(t.all pT&&decide (t.length<=200)) by rw [h];rfl)
theorem S4 (a:At) (ht:a.t.length<=4294967296):au Pz Ec [.agg (aj a)] [] ⟨.bool (fV a),[],[]⟩:=by
 refine a6 (S3 a) ?_;have he:∀l:List UInt8,(l==[])=l.isEmpty:=fun l=>by cases l <;> rfl
 simp only [sz,he];unfold fV;refine ⟨fun h1 => ?_,fun h1=>⟨fun h2=>⟨fun h0 => ?_,fun h0 => ?_⟩,fun h2=>⟨fun h3 => ?_,fun h3=>⟨fun h4 => ?_,fun h4 => ?_⟩⟩⟩⟩
 ·rw [(cR:(a.kind==1)=true),cond_true];rintro y rfl;refine ⟨Zx _,fun h => ?_,fun h => ?_⟩
  ·rw [h];exact aH
  ·rw [h];exact aH
 ·rw [(cR:(a.kind==1)=false),(iu:(a.kind==2)=true),cond_true,cond_false,(eo:(a.n==0)=true)];rintro y rfl;exact ⟨Zy _ ht,aH⟩
 ·rw [(cR:(a.kind==1)=false),(iu:(a.kind==2)=true),cond_true,cond_false,(eo:(a.n==0)=false)];exact aH
 ·rw [(cR:(a.kind==1)=false),(iu:(a.kind==2)=false),show (a.kind==3)=true by simpa using h3];simp only [cond_true,cond_false];rintro y rfl;refine ⟨rE _ _ _,fun h => ?_,fun h => ?_⟩
  ·rw [h];exact aH
  ·rw [h];exact aH
 ·rw [(cR:(a.kind==1)=false),(iu:(a.kind==2)=false),show (a.kind==3)=false by simpa using h3,show (a.kind==4)=true by simpa using h4];simp only [cond_true,cond_false];rintro y rfl;refine ⟨MM _,fun h => ?_,fun h => ?_⟩
  ·rw [h];exact aH
  ·rw [h];exact aH
 ·rw [(cR:(a.kind==1)=false),(iu:(a.kind==2)=false),show (a.kind==3)=false by simpa using h3,show (a.kind==4)=false by simpa using h4];exact aH
def HQ (d:aQ) (i:Int):St:=⟨ah 42 [(0,ab aj d),(5,ab aj d),(6,.int .i64 d.length),(7,.int .i64 i)],[],[]⟩
def am1:Ex->Kp:=fun ex=>match ex with
 | .normal=>{keep:=[0,5,6,7]}
 | .ret=>{keep:=[2]}
 | .exit _=>{keep:=[0]}
theorem KD (d:aQ) (i:Int):bp fj 0 am1 (lp Tryz.prog uA 0) (HQ d i)=(
 let q3:=ae aj d;
 let q7:=af aj q3;
 let q4:=At.mk (0:Int) (0:Int) [];
 let q:=List.getD q7 (Int.toNat i) q4;
 let q9:=IntKind.wrap IntKind.i64 (i - 1);
 let q1:=List.getD q7 (Int.toNat q9) q4;
 let q5:=(↑d.length:Int);
 let q2:=ah 42 [(0,.dsl d.length false q3),(5,.dsl d.length false q3),(6,.int .i64 q5),(7,.int .i64 (IntKind.wrap IntKind.i64 (i+1)))];
 let q6:=ah 42 [(2,.bool false)];
 let q8:=At.mk (At.kind q) (At.n q) (At.t q);bif decide (i<q5) then .ai [0<=i/\i<q5,List.take 3 (List.drop (Int.toNat i*3) q3)=aj q] (.bind (fV q8) fun y0=> .ai [au (Env.P fj) 197 [.agg (aj q)] [] (aF.mk
  (.bool y0) [] [])] (bif !y0 then .done (Ex.ret,St.mk q6 [] []) else .ai [(0:Int)<=0/\(0:Int)<q5,List.take 3 (List.drop 0 q3)=aj (List.getD q7 0 q4)] (bif At.kind q != At.kind (List.getD q7 0 q4) then .done (Ex.ret,
  St.mk q6 [] []) else bif decide (i>0) then .ai [0<=IntKind.wrap IntKind.i64 (i - 1)/\IntKind.wrap IntKind.i64 (i - 1)<q5,List.take 3 (List.drop (Int.toNat q9*3) q3)=aj q1] (.bind (kG (At.mk (At.kind q1) (At.n q1)
  (At.t q1)) q8) fun y1=> .ai [au (Env.P fj) 198 [.agg (aj q1),.agg (aj q)] [] (aF.mk (.int .i64 y1) [] [])] (bif decide (y1>=0) then .done (Ex.ret,St.mk q6 [] []) else .done (Ex.normal,St.mk q2 [] []))) else .done
  (Ex.normal,St.mk q2 [] [])))) else .done (Ex.exit 0,St.mk (ah 42 [(0,.dsl d.length false q3)]) [] []):T _):=by kernel_rfl
def M7:Nat->St->Option b8:=fun id s=>match id,s.tm.get 0 with
 | 0,.dsl _ _ cs=>some ⟨(),fun _=> .one {keep:=[0,5,6,7]} (HQ (af aj cs) 0) (.exit 0) ⟨ah 42 [(0,ab aj (af aj cs))],[],[]⟩⟩
 | _,_=>none
theorem Vu (d:aQ):fnT {P:=Pz,vw:=cj,res:=vS,ls:=M7} 0 uA [ab aj d] []=(
 let q:=af aj (ae aj d);
 let q1:=ah 42 [(0,ab aj q),(5,ab aj q),(6,aa (↑(List.length q):Int)),(7,aa 0)];.bind PUnit.unit fun _=> .ai [St.mk (ah 42 [(0,ab aj d),(5,ab aj d),(6,aa (d.length:Int)),(7,aa 0)]) [] [] =
  St.mk q1 [] [],aN Pz 0 (blk Pz uA 0) (St.mk q1 [] []) (Ex.exit 0) (St.mk (ah 42 [(0,ab aj q)]) [] [])] (dz (.bool (decide ((↑(List.length q):Int)<=8))) [] []):T _):=fz
theorem S0 {a:At} (h:fV a=true):a.t.length<=200:=by
 unfold fV at h;have he:∀l:List UInt8,l.isEmpty=true->l.length<=200:=fun l h=>by
  rw [List.isEmpty_iff] at h;rw [h];simp
 cases h1:a.kind==1 <;> rw [h1] at h <;> simp only [cond_true,cond_false] at h
 ·cases h2:a.kind==2 <;> rw [h2] at h <;> simp only [cond_true,cond_false] at h
  ·cases h3:a.kind==3 <;> rw [h3] at h <;> simp only [cond_true,cond_false] at h
   ·cases h4:a.kind==4 <;> rw [h4] at h <;> simp only [cond_true,cond_false] at h
    ·cases h
    ·exact he _ (Bool.and_eq_true_iff.1 h).2
   ·exact he _ (Bool.and_eq_true_iff.1 h).2
  ·have:=(Bool.and_eq_true_iff.1 h).2;unfold qX at this;simpa using (Bool.and_eq_true_iff.1 this).2
 ·exact he _ (Bool.and_eq_true_iff.1 h).2
theorem cq.lt {k:Int} {d:aQ} (h:cq k d) {i:Nat} (hi:i+1<d.length) (z:At):gH (d.getD i z) (d.getD (i+1) z):=by
 have:=List.pairwise_iff_getElem.1 h.pw i (i+1) (by omega) hi (by omega);rw [List.getD_eq_getElem?_getD,List.getD_eq_getElem?_getD,List.getElem?_eq_getElem hi,List.getElem?_eq_getElem (show i<d.length by omega)];exact this
theorem KE {k:Int} {d:aQ} (h:cq k d) (hl:d.length<=1048576):∀(m i:Nat),i+m=d.length->aT Tryz.prog 0 (lp Tryz.prog uA 0) (HQ d i) (.exit 0) ⟨ah 42 [(0,ab aj d)],[],[]⟩
 | 0,i,hi=>by
  have hi:i=d.length:=hi
  subst hi
  refine bZ (E:=fj) follows named (KD d (d.length:Nat)) ?_
  simp only [ba,T.WP,All,bh,bl,bg]
  exact ⟨fun h=>by omega,fun _=>⟨rfl,rfl⟩⟩
 | m+1,i,hi=>by
  have bA:i<d.length:=by omega
  have aD:=bu.at d ⟨0,0,[]⟩ i 3 bA rfl
  have xo:=bu.at d ⟨0,0,[]⟩ 0 3 (by omega) rfl
  have eW:=h.ok _ (bH ⟨0,0,[]⟩ bA)
  have FT:=h.ok _ (bH ⟨0,0,[]⟩ (show 0<d.length by omega))
  have hA:=S4 (d.getD i ⟨0,0,[]⟩) (by have:=S0 eW.1;omega)
  have w1:IntKind.i64.wrap ((i:Int)+1)=((i+1:Nat):Int):=bW (by omega)
  have ih:=KE h hl m (i+1) (by omega)
  rw [Nat.zero_mul] at xo
  refine bZ (E:=fj) follows named (KD d (i:Nat)) ?_
  simp only [ba,T.WP,All,bh,bl,bg,w1,bu.af,Int.toNat_natCast]
  refine ⟨fun _=>⟨⟨aB,aD⟩,?_⟩,fun h=>by omega⟩
  rintro y0 e0
  have e0:y0=fV (d.getD i ⟨0,0,[]⟩):=e0
  rw [<- e0] at hA
  have hy:y0=true:=by rw [e0];exact eW.1
  refine ⟨hA,fun hn => ?_,fun _=>⟨⟨aB,xo⟩,fun hn => ?_,fun _=>⟨fun hp => ?_,fun _=>ih⟩⟩⟩
  ·rw [hy] at hn;cases hn
  ·exfalso
   rw [eW.2,FT.2] at hn
   simp at hn
  ·have LW:1<=i:=by omega
   have w2:IntKind.i64.wrap ((i:Int) - 1)=((i - 1:Nat):Int):=by rw [du (by omega)];omega
   have cB:=bu.at d ⟨0,0,[]⟩ (i - 1) 3 (by omega) rfl
   have bQ:=h.lt (i:=i - 1) (by omega) ⟨0,0,[]⟩
   rw [show i - 1+1=i by omega] at bQ
   rw [w2]
   simp only [Int.toNat_natCast]
   refine ⟨⟨aB,cB⟩,?_⟩
   rintro y1 rfl
   refine ⟨JW _ _,fun hg => ?_,fun _=>ih⟩
   have hc:kG (d.getD (i - 1) ⟨0,0,[]⟩) (d.getD i ⟨0,0,[]⟩)>=0:=hg
   have:=TU bQ
   exact absurd hc (by omega)
theorem Kd {k:Int} {d:aQ} (h:cq k d) (hl:d.length<=8):au Tryz.prog uA [ab aj d] [] ⟨.bool true,[],[]⟩:=by
 have dy:=KE h (by omega) d.length 0 (by omega);refine iG (E:={P:=Tryz.prog,vw:=cj,res:=vS,ls:=M7}) follows named (Vu d) (by simp) ?_;simp only [T.WP,All,bg,bu.af];rintro _ -;refine ⟨⟨a8,.aV dy⟩,?_⟩;rw [decide_eq_true (show (d.length:Int)<=8 by omega)];exact ⟨rfl,rfl,by simp⟩
abbrev Ei:Nat:=120
abbrev sb:Nat:=196
abbrev qq:Nat:=195
abbrev Ar:Nat:=123
abbrev Aj:Nat:=125
abbrev El:Nat:=56
abbrev sc:Nat:=46
def fh (nm:List UInt8):Option bM:=some ([.str nm],ni)
def Tj:aL:=⟨jw,4,0,1,0,0,[],false⟩
def kT (t:Tb) (nm:List UInt8):aL×Bool:=bif decide (0<=bf t nm) then (t.av.getD (bf t nm).toNat .zero,true) else bif nm==jw then (Tj,true) else (.zero,false)
def z8 (y:aL×Bool) (c:aZ):Int:=
 bif !y.2 then 11
 else bif decide ((c.val.length:Int)>0)&&(c.val.getD 0 .zero).kind != y.1.kind then 9
 else bif bC c.func 3 6&&(y.1.kind != 1||(y.1.max != 1||(c.val.length:Int) != 1)) then 9 else 0
def kR (t:Tb) (c:aZ):Int:=z8 (kT t c.aC) c
def rh:cy:=fun f vs hp=>match vs,hp with
 | [.agg [.str a,.int _ _,.int _ _,.int _ _,.int _ _,.int _ _,.str _,.bool _],.ptr 0 0],[some ([.str nm],T)]=>bif Nat.beq f sb then some ⟨a==nm,fun y=>⟨.bool y,[some ([.str nm],T)],[]⟩⟩ else none
 | [.dsl _ _ cs,.fn g [.ptr 0 0]],[some ([.str nm],T)]=>bif Nat.beq f qq&&Nat.beq g sb then some ⟨fidx (fun c:aL=>c.name==nm) (af aY cs) 0,fun y=>⟨.int .i64 y,[some ([.str nm],T)],[]⟩⟩ else none
 | [.agg [.str tn,.dsl _ _ cc,.dsl _ _ uu,.bool r],.str nm],[]=>bif Nat.beq f Ei then some ⟨bf (bw tn cc uu r) nm,fun y=>⟨.int .i64 y,[],[]⟩⟩ else bif Nat.beq f Ar then some ⟨kT (bw tn cc uu r) nm,fun y=>⟨.tup [.agg (aY y.1),.bool y.2],[],[]⟩⟩ else none
 | [.agg [.str tn,.dsl _ _ cc,.dsl _ _ uu,.bool r],.agg [.int _ d,.dsl _ _ cs],.str nm],[]=>bif Nat.beq f Aj then some ⟨dw (bw tn cc uu r) ⟨d,af aG cs⟩ nm,fun y=>⟨ab aj y,[],[]⟩⟩ else none
 | [.agg [.str tn,.dsl _ _ cc,.dsl _ _ uu,.bool r],.agg [.str cn,.int _ fn,.dsl _ _ va]],[]=>bif Nat.beq f El then some ⟨kR (bw tn cc uu r) ⟨cn,fn,af aj va⟩,fun y=>⟨.int .i64 y,[],[]⟩⟩ else none
 | _,_=>vS f vs hp
def iC:Env:={P:=Pz,vw:=cj,res:=rh}
def yE (l:List aL) (nm:List UInt8) (i:Int):St:=⟨ah 19 [(0,ab aY l),(1,.fn sb [.ptr 0 0]),(7,.int .i64 l.length),(8,.int .i64 i)],[fh nm],[]⟩
def kr:Ex->Kp:=fun ex=>match ex with
 | .normal=>{keep:=[0,1,7,8]}
 | .ret=>{keep:=[4]}
 | _=>{keep:=[]}
theorem TI (c:aL) (nm:List UInt8):fnT iC 0 sb [.agg (aY c),.ptr 0 0] [fh nm]=(
 dz (.bool (c.name==nm)) [fh nm] []:T _):=fz
theorem Y4 (l:List aL) (nm:List UInt8) (i:Int):bp iC 1 kr (lp Pz qq 0) (yE l nm i)=(
 let q:=List.getD (af aY (ae aY l)) i.toNat (aL.mk [] (0:Int) (0:Int) (0:Int) (0:Int) (0:Int) [] false);
 let q1:=(l.length:Int);bif decide (i<q1) then .ai [0<=i/\i<q1,td 8 i (ae aY l)=aY q] (.bind (aL.name q==nm) fun y0=> .ai [au (Env.P iC) 196 [.agg (aY q),pp 0] [fh nm] (aF.mk (.bool y0) [fh nm]
  [])] (bif y0 then .done (Ex.ret,St.mk (ah 19 [(4,aa i)]) [fh nm] []) else nz (ah 19 [(0,ab aY l),(1,.fn 196 [pp 0]),(7,aa q1),(8,aa (wz (i+1)))]) [fh nm])) else .done (Ex.exit 0,St.mk (ah 19 []) [fh nm] []):T _):=kz
def aa9:Nat->St->Option b8:=fun id s=>match id,s.tm.get 0,s.hp with
 | 0,.dsl _ _ cs,some ([.str nm],_)::_=>some ⟨fidx (fun c:aL=>c.name==nm) (af aY cs) 0,fun y=> .two {keep:=[0,1,7,8]} (yE (af aY cs) nm 0) (decide (y<0)) (.exit 0) ⟨ah 19 [],[fh nm],[]⟩ .ret ⟨ah 19 [(4,.int .i64 y)],[fh nm],[]⟩⟩
 | _,_,_=>none
def CY:Env:={P:=Pz,vw:=cj,res:=rh,ls:=aa9}
theorem Y5 (l:List aL) (nm:List UInt8):fnT CY 0 qq [ab aY l,.fn sb [.ptr 0 0]] [fh nm]=(
 let q1:=af aY (ae aY l);
 let q:=ah 19 [(0,ab aY q1),(1,.fn 196 [pp 0]),(7,aa (↑(List.length q1):Int)),(8,aa 0)];.bind (fidx (fun c=>c.name==nm) q1 0) fun y0=> .ai [St.mk (ah 19 [(0,ab aY l),(1,.fn 196 [pp 0]),(7,aa
  (l.length:Int)),(8,aa 0)]) [fh nm] []=St.mk q [fh nm] []] (bif decide (y0<0) then .ai [aN (Env.P CY) 1 (blk Pz qq 0) (St.mk q [fh nm] []) (Ex.exit 0) (St.mk (ah 19 []) [fh nm] [])] (dz (aa (-1:Int)) [fh nm]
  []) else .ai [aN (Env.P CY) 1 (blk Pz qq 0) (St.mk q [fh nm] []) Ex.ret (St.mk (ah 19 [(4,aa y0)]) [fh nm] [])] (dz (aa y0) [fh nm] [])):T _):=fz
theorem Ui (t:Tb) (nm:List UInt8):fnT iC 0 Ei [.agg (ao t),.str nm] []=(
 .bind (fidx (fun c=>c.name==nm) (af aY (ae aY t.av)) 0) fun y0=> .ai [au (Env.P iC) 195 [ab aY t.av,.fn 196 [pp 0]] [fh nm] (aF.mk (aa y0) [fh nm] [])] (dz (aa y0) [] []):T _):=fz
theorem ak0 (t:Tb) (nm:List UInt8):fnT iC 0 Ar [.agg (ao t),.str nm] []=(
 let q:=aL.mk [] (0:Int) (0:Int) (0:Int) (0:Int) (0:Int) [] false;
 let q1:=ae aY t.av;.bind (bf (bw t.name q1 (ae aJ t.uniq) t.root) nm) fun y0=>
 let q2:=List.getD (af aY q1) y0.toNat q;.ai [au (Env.P iC) 120 [.agg (ao t),.str nm] [] (aF.mk (aa y0) [] [])] (bif decide (y0>=0) then .ai [0<=y0/\y0<(t.av.length:Int),td 8 y0 q1=aY q2] (dz (.tup
  [.agg (aY q2),.bool true]) [] []) else bif nm==[(95:UInt8),117,117,105,100] then dz (.tup [.agg [.str [95,117,117,105,100],aa 4,aa 0,aa 1,aa 0,aa 0,.str [],.bool false],.bool true]) [] [] else dz (.tup
  [.agg [.str [],aa 0,aa 0,aa 0,aa 0,aa 0,.str [],.bool false],.bool false]) [] []):T _):=fz
theorem Tv (t:Tb) (r:Rw) (nm:List UInt8):fnT iC 0 Aj [.agg (ao t),.agg (aq r),.str nm] []=(
 let q:=ae aG r.cells;.bind (bf (bw t.name (ae aY t.av) (ae aJ t.uniq) t.root) nm) fun y0=>
 let q1:=List.getD (af aG q) y0.toNat [];.ai [au (Env.P iC) 120 [.agg (ao t),.str nm] [] (aF.mk (aa y0) [] [])] (bif decide (y0>=0) then .ai [0<=y0/\y0<(r.cells.length:Int),td 1 y0 q=[ab aj q1]] (dz
  (ab aj q1) [] []) else dz (.dsl 1 false [aa 4,aa r.id,.str []]) [] []):T _):=fz
theorem Uq (t:Tb) (c:aZ):fnT iC 0 El [.agg (ao t),.agg (aE c)] []=(
 let q:=List.getD (af aj (ae aj c.val)) 0 (At.mk (0:Int) (0:Int) []);
 let q1:=(c.val.length:Int);
 let q2:=bC c.func (3:Int) (6:Int);.bind (kT (bw t.name (ae aY t.av) (ae aJ t.uniq) t.root) c.aC) fun y0=> .ai [au (Env.P iC) 123 [.agg (ao t),.str c.aC] [] (aF.mk (.tup [.agg (aY y0.1),.bool
  y0.2]) [] [])] (bif !y0.2 then dz (aa 11) [] [] else bif decide (q1>0) then .ai [(0:Int)<=0/\(0:Int)<q1,List.take 3 (List.drop 0 (ae aj c.val))=(aj q)] (bif At.kind q != y0.1.kind then dz (aa 9) [] [] else
  .bind q2 fun y1=> .ai [au (Env.P iC) 45 [aa c.func,aa 3,aa 6] [] (aF.mk (.bool y1) [] [])] (bif y1 then bif y0.1.kind != 1 then dz (aa 9) [] [] else bif y0.1.max != 1 then dz (aa 9) [] [] else bif q1 != 1 then dz (aa 9)
  [] [] else dz (aa 0) [] [] else dz (aa 0) [] [])) else .bind q2 fun y2=> .ai [au (Env.P iC) 45 [aa c.func,aa 3,aa 6] [] (aF.mk (.bool y2) [] [])] (bif y2 then bif y0.1.kind != 1 then dz (aa 9) [] [] else bif y0.1.max !=
  1 then dz (aa 9) [] [] else bif q1 != 1 then dz (aa 9) [] [] else dz (aa 0) [] [] else dz (aa 0) [] [])):T _):=fz
theorem TJ (c:aL) (nm:List UInt8):au Pz sb [.agg (aY c),.ptr 0 0] [fh nm] ⟨.bool (c.name==nm),[fh nm],[]⟩:=by
 refine a6 (TI c nm) ?_;simp only [sz];exact aH
theorem Y6 (l:List aL) (nm:List UInt8) (h:l.length<=1048576):
  (fidx (fun c:aL=>c.name==nm) l 0<0->aT Tryz.prog 1 (lp Tryz.prog qq 0) (yE l nm 0) (.exit 0) ⟨ah 19 [],[fh nm],[]⟩) /\
  (0<=fidx (fun c:aL=>c.name==nm) l 0->aT Tryz.prog 1 (lp Tryz.prog qq 0) (yE l nm 0) .ret ⟨ah 19 [(4,.int .i64 (fidx (fun c:aL=>c.name==nm) l 0))],[fh nm],[]⟩):=by
 refine mN (E:=iC) (m:=1) (nf:=kr) (st:=fun i=>yE l nm (i:Nat)) (sr:=fun j=>⟨ah 19 [(4,.int .i64 j)],[fh nm],[]⟩) (fun c:aL=>c.name==nm) l ⟨[],0,0,0,0,0,[],false⟩ follows named (by simp) (by simp) (fun i=>Y4 l nm (i:Nat)) (fun i hi => ?_) ?_ l.length 0 (by simp)
 ·have aD:=db.at l ⟨[],0,0,0,0,0,[],false⟩ i 8 hi rfl
  simp only [ba,T.WP,All,bh,bl,bg,Int.toNat_natCast,db.af,bW (show i<9223372036854775807 by omega)]
  refine ⟨fun _=>⟨⟨aB,aD⟩,?_⟩,fun h=>by omega⟩
  rintro y rfl
  refine ⟨TJ _ nm,fun h => ?_,fun h => ?_⟩
  ·rw [h];rfl
  ·rw [h];rfl
 ·simp only [ba,T.WP,All,bh,bl,bg]
  exact ⟨fun h=>by omega,fun _=>trivial⟩
theorem Y7 (l:List aL) (nm:List UInt8) (h:l.length<=1048576):au Pz qq [ab aY l,.fn sb [.ptr 0 0]] [fh nm] ⟨.int .i64 (fidx (fun c:aL=>c.name==nm) l 0),[fh nm],[]⟩:=by
 have hl:=Y6 l nm h;refine a6 (Y5 l nm) ?_;simp only [sz,db.af];rintro y rfl;refine ⟨a8,fun h0=>⟨.aV (hl.1 h0),?_⟩,fun h0=>⟨.aV (hl.2 ag),aH⟩⟩;have e:fidx (fun c:aL=>c.name==nm) l 0= -1:=by
  rcases kK (fun c:aL=>c.name==nm) l 0 with h2 | h2 <;> omega
 rw [e];exact aH
theorem J5 (t:Tb) (nm:List UInt8) (h:t.av.length<=1048576):au Pz Ei [.agg (ao t),.str nm] [] ⟨.int .i64 (bf t nm),[],[]⟩:=by
 refine a6 (Ui t nm) ?_;simp only [sz,db.af];rintro y rfl;exact ⟨Y7 _ nm h,aH⟩
theorem No (t:Tb) (nm:List UInt8) (h:t.av.length<=1048576):au Tryz.prog Ar [.agg (ao t),.str nm] [] ⟨.tup [.agg (aY (kT t nm).1),.bool (kT t nm).2],[],[]⟩:=by
 refine iG (E:=iC) follows named (ak0 t nm) (by simp) ?_;have bQ:=@nI t nm;unfold kT;simp only [ba,T.WP,All,bh,bl,bg,bm,bn,bo,db.af,cH];rintro y rfl;refine ⟨J5 t nm h,fun h0=>⟨⟨by have:=bQ h0;omega,db.at t.av ⟨[],0,0,0,0,0,[],false⟩ _ 8 (bQ h0) rfl⟩,?_⟩,fun h0=>⟨fun h1 => ?_,fun h1 => ?_⟩⟩
 ·rw [decide_eq_true (show 0<=bf t nm from h0),cond_true];exact ⟨rfl,rfl,by simp⟩
 ·rw [decide_eq_false (show ¬0<=bf t nm by omega),cond_false,show (nm==jw)=true by simpa [jw] using h1,cond_true];exact ⟨rfl,rfl,by simp⟩
 ·rw [decide_eq_false (show ¬0<=bf t nm by omega),cond_false,show (nm==jw)=false by simpa [jw] using h1,cond_false];exact ⟨rfl,rfl,by simp⟩
theorem DP {t:Tb} {r:Rw} (hr:iX t r) (nm:List UInt8):au Tryz.prog Aj [.agg (ao t),.agg (aq r),.str nm] [] ⟨ab aj (dw t r nm),[],[]⟩:=by
 refine iG (E:=iC) follows named (Tv t r nm) (by simp) ?_;have bQ:=hr.at nm;unfold dw;simp only [ba,T.WP,All,bh,bl,bg,bP.af,cH];rintro y rfl;refine ⟨J5 t nm hr.k,fun h0=>⟨⟨by have:=bQ h0;omega,bP.at r.cells [] _ 1 (bQ h0) rfl⟩,?_⟩,fun h0 => ?_⟩
 ·rw [decide_eq_false (show ¬bf t nm<0 by omega),cond_false];exact ⟨rfl,rfl,by simp⟩
 ·rw [decide_eq_true (show bf t nm<0 by omega),cond_true];exact ⟨rfl,rfl,by simp⟩
theorem Ur (t:Tb) (c:aZ) (h:t.av.length<=1048576):au Pz El [.agg (ao t),.agg (aE c)] [] ⟨.int .i64 (kR t c),[],[]⟩:=by
 refine a6 (Uq t c) ?_;have eI:=No t c.aC h;unfold kR;simp only [sz,bu.af,cH];rintro y e;rw [<- e] at eI ⊢;clear e;unfold z8;simp only [At.zero];have aD:0<c.val.length->List.take 3 (List.drop 0 (ae aj c.val))=aj (c.val.getD 0 ⟨0,0,[]⟩):=fun h=>by
  have:=bu.at c.val ⟨0,0,[]⟩ 0 3 h rfl;rwa [Nat.zero_mul] at this
 have tail:∀z:Bool,z=bC c.func 3 6->(au iC.P 45 [V.int IntKind.i64 c.func,V.int IntKind.i64 3,V.int IntKind.i64 6] [] ⟨V.bool z,[],[]⟩):=by
  rintro z rfl;exact rE _ _ _
 refine ⟨eI,fun h1 => ?_,fun h1=>⟨fun h2=>⟨⟨ag,aD ag⟩,fun h3 => ?_,fun h3 => ?_⟩,fun h2 => ?_⟩⟩
 ·refine ⟨?_,rfl,by simp⟩;simp_all [Bool.cond_eq_ite]
 ·refine ⟨?_,rfl,by simp⟩;simp_all [Bool.cond_eq_ite]
 ·rintro z e;refine ⟨tail z e,fun h4=>⟨fun h5 => ?_,fun h5=>⟨fun h6 => ?_,fun h6=>⟨fun h7 => ?_,fun h7 => ?_⟩⟩⟩,fun h4 => ?_⟩;all_goals
   refine ⟨?_,rfl,by simp⟩;simp_all [Bool.cond_eq_ite]
 ·rintro z e;refine ⟨tail z e,fun h4=>⟨fun h5 => ?_,fun h5=>⟨fun h6 => ?_,fun h6=>⟨fun h7 => ?_,fun h7 => ?_⟩⟩⟩,fun h4 => ?_⟩;all_goals
   refine ⟨?_,rfl,by simp⟩;simp_all [Bool.cond_eq_ite]
abbrev Em:Nat:=55
abbrev Al:Nat:=43
abbrev nM:Nat:=109
abbrev sv:Nat:=122
abbrev nU:Nat:=200
abbrev Ep:Nat:=199
abbrev qt:Nat:=247
abbrev uy:Nat:=108
abbrev kI:Nat:=187
def HX (t:Tb) (l:List aZ) (i:Int):St:=⟨ah 21 [(2,.ptr 0 0),(8,ab aE l),(9,.int .i64 l.length),(10,.int .i64 i)],[some (ao t,gp)],[]⟩
def an0:Ex->Kp:=fun ex=>match ex with
 | .normal=>{keep:=[2,8,9,10]}
 | .ret=>{keep:=[4]}
 | _=>{keep:=[]}
theorem MU (t:Tb) (l:List aZ) (i:Int):bp iC 0 an0 (lp Pz sc 0) (HX t l i)=(
 let q:=List.getD (af aE (ae aE l)) i.toNat (aZ.mk [] (0:Int) []);
 let q1:=(l.length:Int);bif decide (i<q1) then .ai [0<=i/\i<q1,td 3 i (ae aE l)=(aE q)] (.bind (kR (bw t.name (ae aY t.av) (ae aJ t.uniq) t.root) (aZ.mk (aZ.aC q) (aZ.func q) (af aj
  (ae aj (aZ.val q))))) fun y0=> .ai [au (Env.P iC) 56 [.agg (ao t),.agg (aE q)] [] (aF.mk (aa y0) [] [])] (bif y0 != 0 then .done (Ex.ret,St.mk (ah 21 [(4,aa y0)]) [] []) else nz (ah 21 [(2,pp 0),(8,ab
  aE l),(9,aa q1),(10,aa (wz (i+1)))]) [some ((ao t),44)])) else .done (Ex.exit 0,St.mk (ah 21 []) [] []):T _):=kz
def ab6:Nat->St->Option b8:=fun id s=>match id,s.tm.get 8,s.hp with
 | 0,.dsl _ _ cs,some ([.str tn,.dsl _ _ cc,.dsl _ _ uu,.bool q],_)::_=>some ⟨firstC (kR (bw tn cc uu q)) (af aE cs),fun y=> .two {keep:=[2,8,9,10]} (HX (bw tn cc uu q) (af aE cs) 0) (y==0) (.exit 0) ⟨ah 21 [],[],[]⟩ .ret ⟨ah 21 [(4,.int .i64 y)],[],[]⟩⟩
 | _,_,_=>none
def C4:Env:={P:=Pz,vw:=cj,res:=rh,ls:=ab6}
theorem ZN (t:Tb) (l:List aZ):fnT C4 0 sc [.agg (ao t),ab aE l] []=(
 let q2:=af aE (ae aE l);
 let q:=ah 21 [(2,pp 0),(8,ab aE q2),(9,aa (↑(List.length q2):Int)),(10,aa 0)];
 let q1:=bw t.name (ae aY t.av) (ae aJ t.uniq) t.root;
 let q3:Hp:=[some ((ao q1),44)];.bind (firstC (kR q1) q2) fun y0=> .ai [St.mk (ah 21 [(2,pp 0),(8,ab aE l),(9,aa (l.length:Int)),(10,aa 0)]) [some ((ao t),44)] []=St.mk q q3 []] (bif y0==0 then
  .ai [aN (Env.P C4) 0 (blk Pz sc 0) (St.mk q q3 []) (Ex.exit 0) (St.mk (ah 21 []) [] [])] (dz (aa 0) [] []) else .ai [aN (Env.P C4) 0 (blk Pz sc 0) (St.mk q q3 []) Ex.ret (St.mk (ah 21 [(4,aa y0)]) [] [])]
  (dz (aa y0) [] [])):T _):=fz
def Gs (c:Int):St:=bif c==0 then ⟨ah 21 [],[],[]⟩ else ⟨ah 21 [(4,.int .i64 c)],[],[]⟩
theorem MV (t:Tb) (l:List aZ) (ht:t.av.length<=1048576) (hl:l.length<=1048576):∀(k i:Nat),i+k=l.length->aT Pz 0 (lp Pz sc 0) (HX t l i) (nH (firstC (kR t) (l.drop i))) (Gs (firstC (kR t) (l.drop i)))
 | 0,i,hi=>by
  have hi:i=l.length:=hi;subst hi;rw [List.drop_length];refine bt (MU t l (l.length:Nat)) ?_;simp only [sz];exact ⟨fun h=>ag,fun _=>⟨rfl,rfl⟩⟩
 | k+1,i,hi=>by
  have bA:i<l.length:=ag;have aD:=cp.at l ⟨[],0,[]⟩ i 3 bA rfl;have w1:=cX i;have ih:=MV t l ht hl k (i+1) ag;have hc:=Ur t (l.getD i ⟨[],0,[]⟩) ht;rw [iE ⟨[],0,[]⟩ bA,firstC];refine bt (MU t l (i:Nat)) ?_;simp only [sz,w1,cp.af,bu.af,cH,Int.toNat_natCast];refine ⟨fun _=>⟨⟨aB,aD⟩,?_⟩,fun h=>ag⟩;rintro y e;have e:y=kR t (l.getD i ⟨[],0,[]⟩):=e;rw [<- e] at hc ⊢;refine ⟨hc,fun h => ?_,fun h => ?_⟩
  ·have h':y≠0:=dT;rw [show (y != 0)=true by simpa using h',cond_true];unfold nH Gs;rw [show (y==0)=false by simpa using h'];exact ⟨rfl,rfl⟩
  ·rw [(dT:(y != 0)=false),cond_false];exact ih
theorem Uw (t:Tb) (l:List aZ) (ht:t.av.length<=1048576) (hl:l.length<=1048576):au Pz sc [.agg (ao t),ab aE l] [] ⟨.int .i64 (firstC (kR t) l),[],[]⟩:=by
 have h:=MV t l ht hl l.length 0 ag;rw [List.drop_zero] at h;refine a6 (ZN t l) ?_;simp only [sz,cp.af,cH];rintro y e;have e:y=firstC (kR t) l:=e;rw [<- e] at h ⊢;unfold nH Gs at h;refine ⟨a8,fun h1=>⟨.aV ?_,?_⟩,fun h1=>⟨.aV ?_,?_⟩⟩
 ·rw [(cR:(y==0)=true)] at h;exact h
 ·rw [(cR:y=0)];exact aH
 ·rw [(cR:(y==0)=false)] at h;exact h
 ·exact aH
def tk:cy:=fun f vs hp=>match vs,hp with
 | [.str t],[]=>bif Nat.beq f nU then some ⟨decide (40<t.length),fun y=>⟨.bool y,[],[]⟩⟩ else rh f vs hp
 | [.dsl _ _ cs,.fn g []],[]=>
  bif Nat.beq f qt&&Nat.beq g nU then some ⟨fidx (fun t:List UInt8=>decide (40<t.length)) (af encStr cs) 0,fun y=>⟨.int .i64 y,[],[]⟩⟩ else
  bif Nat.beq f Ep&&Nat.beq g nU then some ⟨decide (0<=fidx (fun t:List UInt8=>decide (40<t.length)) (af encStr cs) 0),fun y=>⟨.bool y,[],[]⟩⟩ else
  bif Nat.beq f kI&&Nat.beq g nM then some ⟨(),fun _=>⟨.int .i64 (-1),[],[]⟩⟩ else
  bif Nat.beq f uy&&Nat.beq g nM then some ⟨(),fun _=>⟨.bool false,[],[]⟩⟩ else none
 | [.sl 0 0 1 _],[some ([.str t],T)]=>bif Nat.beq f sv then some ⟨decide (t.length<=40),fun y=>⟨.bool y,[some ([.str t],T)],[]⟩⟩ else rh f vs hp
 | [.agg [.str _,.int _ _,.dsl _ _ _]],[]=>bif Nat.beq f Em then some ⟨(),fun _=>⟨.bool true,[],[]⟩⟩ else bif Nat.beq f nM then some ⟨(),fun _=>⟨.bool false,[],[]⟩⟩ else rh f vs hp
 | [.dsl _ _ _],[]=>bif Nat.beq f uA then some ⟨(),fun _=>⟨.bool true,[],[]⟩⟩ else bif Nat.beq f Al then some ⟨(),fun _=>⟨.bool true,[],[]⟩⟩ else rh f vs hp
 | _,_=>rh f vs hp
def gY:Env:={P:=Pz,vw:=cj,res:=tk}
theorem aM0 (t:List UInt8):fnT gY 0 nU [.str t] []=(
 dz (.bool (decide ((t.length:Int)>40))) [] []:T _):=fz
def yJ (l:List (List UInt8)) (i:Int):St:=⟨ah 19 [(0,ab encStr l),(1,.fn nU []),(7,.int .i64 l.length),(8,.int .i64 i)],[],[]⟩
theorem Zv (l:List (List UInt8)) (i:Int):bp gY 0 kr (lp Pz qt 0) (yJ l i)=(
 let q:=List.getD (af encStr (ae encStr l)) i.toNat [];
 let q1:=(l.length:Int);bif decide (i<q1) then .ai [0<=i/\i<q1,td 1 i (ae encStr l)=[.str q]] (.bind (decide (40<List.length q)) fun y0=> .ai [au (Env.P gY) 200 [.str q] [] (aF.mk (.bool y0) [] [])] (bif y0 then
  .done (Ex.ret,St.mk (ah 19 [(4,aa i)]) [] []) else nz (ah 19 [(0,ab encStr l),(1,.fn 200 []),(7,aa q1),(8,aa (wz (i+1)))]) [])) else .done (Ex.exit 0,St.mk (ah 19 []) [] []):T _):=kz
def ab4:Nat->St->Option b8:=fun id s=>match id,s.tm.get 0 with
 | 0,.dsl _ _ cs=>some ⟨fidx (fun t:List UInt8=>decide (40<t.length)) (af encStr cs) 0,fun y=> .two {keep:=[0,1,7,8]} (yJ (af encStr cs) 0) (decide (y<0)) (.exit 0) ⟨ah 19 [],[],[]⟩ .ret ⟨ah 19 [(4,.int .i64 y)],[],[]⟩⟩
 | _,_=>none
def C3:Env:={P:=Pz,vw:=cj,res:=tk,ls:=ab4}
theorem Zz (l:List (List UInt8)):fnT C3 0 qt [ab encStr l,.fn nU []] []=(
 let q1:=af encStr (ae encStr l);
 let q:=ah 19 [(0,ab encStr q1),(1,.fn 200 []),(7,aa (↑(List.length q1):Int)),(8,aa 0)];.bind (fidx (fun t=>decide (40<t.length)) q1 0) fun y0=> .ai [St.mk (ah 19 [(0,ab encStr l),(1,.fn 200 []),(7,aa
  (l.length:Int)),(8,aa 0)]) [] []=St.mk q [] []] (bif decide (y0<0) then .ai [aN (Env.P C3) 0 (blk Pz qt 0) (St.mk q [] []) (Ex.exit 0) (St.mk (ah 19 []) [] [])] (dz (aa (-1:Int)) [] []) else .ai [aN (Env.P
  C3) 0 (blk Pz qt 0) (St.mk q [] []) Ex.ret (St.mk (ah 19 [(4,aa y0)]) [] [])] (dz (aa y0) [] [])):T _):=fz
theorem UF (l:List (List UInt8)):fnT gY 0 Ep [ab encStr l,.fn nU []] []=(
 .bind (fidx (fun t=>decide (40<t.length)) (af encStr (ae encStr l)) 0) fun y0=> .ai [au (Env.P gY) 247 [ab encStr l,.fn 200 []] [] (aF.mk (aa y0) [] [])] (dz (.bool (decide (y0>=0))) [] []):T _):=fz
theorem Qy (l:List (List UInt8)):fnT gY 0 sv [ab encStr l] []=(
 .bind (decide (0<=fidx (fun t=>decide (40<t.length)) (af encStr (ae encStr l)) 0)) fun y0=> .ai [au (Env.P gY) 199 [ab encStr l,.fn 200 []] [] (aF.mk (.bool y0) [] [])] (dz (.bool !y0) [] []):T _):=fz
theorem Us (c:aZ):fnT gY 0 Em [.agg (aE c)] []=(
 .bind (bC c.func (1:Int) (8:Int)) fun y0=> .ai [au (Env.P gY) 45 [aa c.func,aa 1,aa 8] [] (aF.mk (.bool y0) [] [])] (bif y0 then .bind PUnit.unit fun _=> .ai [au (Env.P gY) 121 [ab aj c.val] [] (aF.mk (.bool
  true) [] [])] (.bind (decide (c.aC.length<=40)) fun y2=> .ai [au (Env.P gY) 122 [.sl 0 0 1 true] [some ([.str c.aC],9)] (aF.mk (.bool y2) [some ([.str c.aC],9)] [])] (dz (.bool y2) [] [])) else dz (.bool false) [] []):T _):=fz
theorem Uu (c:aZ):fnT gY 0 nM [.agg (aE c)] []=(
 .bind PUnit.unit fun _=> .ai [au (Env.P gY) 55 [.agg (aE c)] [] (aF.mk (.bool true) [] [])] (dz (.bool false) [] []):T _):=fz
def HV (l:List aZ) (i:Int):St:=⟨ah 19 [(0,ab aE l),(1,.fn nM []),(7,.int .i64 l.length),(8,.int .i64 i)],[],[]⟩
theorem MK (l:List aZ) (i:Int):bp gY 0 kr (lp Pz kI 0) (HV l i)=(
 let q:=aE (List.getD (af aE (ae aE l)) i.toNat (aZ.mk [] (0:Int) []));
 let q1:=(l.length:Int);bif decide (i<q1) then .ai [0<=i/\i<q1,td 3 i (ae aE l)=q] (.bind PUnit.unit fun _=> .ai [au (Env.P gY) 109 [.agg q] [] (aF.mk (.bool false) [] [])] (nz (ah 19 [(0,ab aE l),
  (1,.fn 109 []),(7,aa q1),(8,aa (wz (i+1)))]) [])) else .done (Ex.exit 0,St.mk (ah 19 []) [] []):T _):=kz
def ab3:Nat->St->Option b8:=fun id s=>match id,s.tm.get 0 with
 | 0,.dsl _ _ cs=>some ⟨(),fun _=> .one {keep:=[0,1,7,8]} (HV (af aE cs) 0) (.exit 0) ⟨ah 19 [],[],[]⟩⟩
 | _,_=>none
def IT:Env:={P:=Pz,vw:=cj,res:=tk,ls:=ab3}
theorem Zt (l:List aZ):fnT IT 0 kI [ab aE l,.fn nM []] []=(
 let q1:=af aE (ae aE l);
 let q:=ah 19 [(0,ab aE q1),(1,.fn 109 []),(7,aa (↑(List.length q1):Int)),(8,aa 0)];.bind PUnit.unit fun _=> .ai [St.mk (ah 19 [(0,ab aE l),(1,.fn 109 []),(7,aa (l.length:Int)),(8,aa 0)]) [] [] =
  St.mk q [] [],aN (Env.P IT) 0 (blk Pz kI 0) (St.mk q [] []) (Ex.exit 0) (St.mk (ah 19 []) [] [])] (dz (aa (-1:Int)) [] []):T _):=fz
theorem UE (l:List aZ):fnT gY 0 uy [ab aE l,.fn nM []] []=(
 .bind PUnit.unit fun _=> .ai [au (Env.P gY) 187 [ab aE l,.fn 109 []] [] (aF.mk (aa (-1:Int)) [] [])] (dz (.bool false) [] []):T _):=fz
theorem Ux (l:List aZ):fnT gY 0 Al [ab aE l] []=(
 bif decide ((l.length:Int)<=8) then .bind PUnit.unit fun _=> .ai [au (Env.P gY) 108 [ab aE l,.fn 109 []] [] (aF.mk (.bool false) [] [])] (dz (.bool true) [] []) else dz (.bool false) [] []:T _):=kz
theorem aM1 (t:List UInt8):au Pz nU [.str t] [] ⟨.bool (decide (40<t.length)),[],[]⟩:=by
 refine a6 (aM0 t) ?_;simp only [sz];refine ⟨?_,rfl,by simp⟩;exact congrArg V.bool (decide_eq_decide.2 ag)
theorem ZA (l:List (List UInt8)) (h:l.length<=1048576):
  (fidx (fun t:List UInt8=>decide (40<t.length)) l 0<0->aT Tryz.prog 0 (lp Tryz.prog qt 0) (yJ l 0) (.exit 0) ⟨ah 19 [],[],[]⟩) /\
  (0<=fidx (fun t:List UInt8=>decide (40<t.length)) l 0->aT Tryz.prog 0 (lp Tryz.prog qt 0) (yJ l 0) .ret ⟨ah 19 [(4,.int .i64 (fidx (fun t:List UInt8=>decide (40<t.length)) l 0))],[],[]⟩):=by
 refine mN (E:=gY) (m:=0) (nf:=kr) (st:=fun i=>yJ l (i:Nat)) (sr:=fun j=>⟨ah 19 [(4,.int .i64 j)],[],[]⟩) (fun t:List UInt8=>decide (40<t.length)) l [] follows named (by simp) (by simp) (fun i=>Zv l (i:Nat)) (fun i hi => ?_) ?_ l.length 0 (by simp)
 ·have aD:=cx.at l [] i 1 hi rfl
  simp only [ba,T.WP,All,bh,bl,bg,Int.toNat_natCast,cx.af,bW (show i<9223372036854775807 by omega)]
  refine ⟨fun _=>⟨⟨aB,aD⟩,?_⟩,fun h=>by omega⟩
  rintro y e
  have e:y=decide (40<(l.getD i []).length):=e
  refine ⟨by rw [e];exact aM1 _,fun h => ?_,fun h => ?_⟩
  ·rw [<- e,h];rfl
  ·rw [<- e,h];rfl
 ·simp only [ba,T.WP,All,bh,bl,bg]
  exact ⟨fun h=>by omega,fun _=>trivial⟩
theorem ZB (l:List (List UInt8)) (h:l.length<=1048576):au Pz qt [ab encStr l,.fn nU []] [] ⟨.int .i64 (fidx (fun t:List UInt8=>decide (40<t.length)) l 0),[],[]⟩:=by
 have hl:=ZA l h;refine a6 (Zz l) ?_;simp only [sz,cx.af];rintro y rfl;refine ⟨a8,fun h0=>⟨.aV (hl.1 h0),?_⟩,fun h0=>⟨.aV (hl.2 ag),aH⟩⟩;have e:fidx (fun t:List UInt8=>decide (40<t.length)) l 0= -1:=by
  rcases kK (fun t:List UInt8=>decide (40<t.length)) l 0 with h2 | h2 <;> omega
 rw [e];exact aH
theorem J7 (l:List (List UInt8)) (h:l.length<=1048576):au Pz Ep [ab encStr l,.fn nU []] [] ⟨.bool (decide (0<=fidx (fun t:List UInt8=>decide (40<t.length)) l 0)),[],[]⟩:=by
 refine a6 (UF l) ?_;simp only [sz,cx.af];rintro y rfl;exact ⟨ZB l h,aH⟩
theorem aM5 (t:List UInt8):au Pz sv [ab encStr [t]] [] ⟨.bool (decide (t.length<=40)),[],[]⟩:=by
 refine a6 (Qy [t]) ?_;simp only [sz,cx.af];rintro y rfl;refine ⟨J7 [t] (by simp),?_,rfl,by simp⟩;refine congrArg V.bool ?_;rw [fidx,fidx];by_cases h:40<t.length
 ·rw [decide_eq_true h,cond_true];simp;omega
 ·rw [decide_eq_false h,cond_false];simp;omega
theorem Qx (t:List UInt8):au Pz sv [.sl 0 0 1 true] [some ([.str t],ni)] ⟨.bool (decide (t.length<=40)),[some ([.str t],ni)],[]⟩:=
 au.Bf 3 (cM:=[ab encStr [t]]) rfl (aM5 t) rfl
structure nu (c:aZ):Prop where
 f:1<=c.func/\c.func<=8
 d:∃k,cq k c.val
 l:c.val.length<=8
 n:c.aC.length<=40
theorem Ut {c:aZ} (h:nu c):au Pz Em [.agg (aE c)] [] ⟨.bool true,[],[]⟩:=by
 obtain ⟨k,hd⟩:=h.d;refine a6 (Us c) ?_;simp only [sz];rintro y rfl;have hy:bC c.func 1 8=true:=by unfold bC;simp [h.f]
 refine ⟨rE _ _ _,fun _ => ?_,fun hn => ?_⟩
 ·rintro _ -;refine ⟨Kd hd h.l,?_⟩;rintro y2 e2;refine ⟨by rw [e2];exact Qx c.aC,?_⟩;rw [e2,decide_eq_true h.n];exact aH
 ·rw [hy] at hn;cases hn
theorem Uv {c:aZ} (h:nu c):au Pz nM [.agg (aE c)] [] ⟨.bool false,[],[]⟩:=by
 refine a6 (Uu c) ?_;simp only [sz];rintro _ -;exact ⟨Ut h,aH⟩
theorem ML (l:List aZ) (hc:∀c∈l,nu c) (hl:l.length<=1048576):∀(k i:Nat),i+k=l.length->aT Pz 0 (lp Pz kI 0) (HV l i) (.exit 0) ⟨ah 19 [],[],[]⟩
 | 0,i,hi=>by
  have hi:i=l.length:=hi;subst hi;refine bt (MK l (l.length:Nat)) ?_;simp only [sz];exact ⟨fun h=>ag,fun _=>⟨rfl,rfl⟩⟩
 | k+1,i,hi=>by
  have bA:i<l.length:=ag;have aD:=cp.at l ⟨[],0,[]⟩ i 3 bA rfl;have w1:=cX i;have ih:=ML l hc hl k (i+1) ag;refine bt (MK l (i:Nat)) ?_;simp only [sz,w1,cp.af,Int.toNat_natCast];refine ⟨fun _=>⟨⟨aB,aD⟩,?_⟩,fun h=>ag⟩;rintro _ -;exact ⟨Uv (hc _ (bH _ bA)),ih⟩
theorem Uy {l:List aZ} (hc:∀c∈l,nu c) (hl:l.length<=8):au Pz Al [ab aE l] [] ⟨.bool true,[],[]⟩:=by
 have hq:au Pz kI [ab aE l,.fn nM []] [] ⟨.int .i64 (-1),[],[]⟩:=by
  have h:=ML l hc ag l.length 0 ag;refine a6 (Zt l) ?_;simp only [sz,cp.af];rintro _ -;exact ⟨⟨a8,.aV h⟩,aH⟩
 have W9:au Pz uy [ab aE l,.fn nM []] [] ⟨.bool false,[],[]⟩:=by
  refine a6 (UE l) ?_;simp only [sz];rintro _ -;exact ⟨hq,aH⟩
 refine a6 (Ux l) ?_;simp only [sz];refine ⟨fun _ => ?_,fun h=>ag⟩;rintro _ -;exact ⟨W9,aH⟩
abbrev lv:Nat:=126
abbrev qp:Nat:=219
abbrev En:Nat:=149
abbrev gJ:Nat:=206
abbrev nL:Nat:=201
abbrev oW:Nat:=135
abbrev Ap:Nat:=127
abbrev kb:Nat:=202
abbrev Ek:Nat:=128
abbrev ED:Nat:=61
abbrev Q0:Nat:=143
abbrev aQ5:Nat:=32
def SX (a:At):Option bM:=some (aj a,Q0)
def ct (d:aQ):Option bM:=some ([ab aj d],aQ5)
def yh:cy:=fun f vs hp=>match vs,hp with
 | [.dsl _ _ cs,.agg [.int _ k,.int _ n,.str t]],[]=>bif Nat.beq f qp then some ⟨fidx (fun x=>dM x ⟨k,n,t⟩) (af aj cs) 0,fun y=>⟨.int .i64 y,[],[]⟩⟩ else bif Nat.beq f En then some ⟨cu (af aj cs) ⟨k,n,t⟩,fun y=>⟨.bool y,[],[]⟩⟩ else tk f vs hp
 | [.agg [.int _ k,.int _ n,.str t],.ptr 0 0],[some ([.dsl _ _ cs],_)]=>bif Nat.beq f kb then some ⟨cu (af aj cs) ⟨k,n,t⟩,fun y=>⟨.bool y,[ct (af aj cs)],[]⟩⟩ else tk f vs hp
 | [.dsl _ _ cs,.dsl _ _ ds],[]=>bif Nat.beq f lv then some ⟨decide (af aj cs=af aj ds),fun y=>⟨.bool y,[],[]⟩⟩ else bif Nat.beq f Ap then some ⟨dP (af aj cs) (af aj ds),fun y=>⟨ab aj y,[],[]⟩⟩ else tk f vs hp
 | _,_=>tk f vs hp
def nA:Env:={P:=Pz,vw:=cj,res:=yh}
def yD (d:aQ) (a:At) (i:Int):St:=⟨ah 19 [(0,ab aj d),(3,.ptr 0 0),(7,.int .i64 d.length),(8,.int .i64 i)],[SX a],[]⟩
def Nv:Ex->Kp:=fun ex=>match ex with
 | .normal=>{keep:=[0,3,7,8]}
 | .ret=>{keep:=[4]}
 | _=>{keep:=[]}
theorem Y0 (d:aQ) (a:At) (i:Int):bp nA 0 Nv (lp Pz qp 0) (yD d a i)=(
 let q:=List.getD (af aj (ae aj d)) i.toNat (At.mk (0:Int) (0:Int) []);
 let q1:=(d.length:Int);bif decide (i<q1) then .ai [0<=i/\i<q1,td 3 i (ae aj d)=aj q] (bif a.kind==At.kind q&&(a.n==At.n q&&(a.t==At.t q&&true)) then .done (Ex.ret,St.mk (ah 19 [(4,aa i)]) [] [])
  else nz (ah 19 [(0,ab aj d),(3,pp 0),(7,aa q1),(8,aa (wz (i+1)))]) [some (aj a,143)]) else .done (Ex.exit 0,St.mk (ah 19 []) [] []):T _):=kz
theorem UA (d:aQ) (a:At):fnT nA 0 En [ab aj d,.agg (aj a)] []=(
 .bind (fidx (fun x=>dM x (At.mk a.kind a.n a.t)) (af aj (ae aj d)) 0) fun y0=> .ai [au (Env.P nA) 219 [ab aj d,.agg (aj a)] [] (aF.mk (aa y0) [] [])] (dz (.bool (decide (y0>=0))) [] []):T _):=fz
def yx (d e:aQ) (i:Int):St:=⟨ah 26 [(0,ab aj d),(1,ab aj e),(12,.int .i64 d.length),(13,.int .i64 i)],[],[]⟩
def Ns:Ex->Kp:=fun ex=>match ex with
 | .ret=>{keep:=[4]}
 | .normal=>{keep:=[0,1,12,13]}
 | _=>{keep:=[]}
theorem Vv (d e:aQ) (i:Int):bp nA 0 Ns (lp Pz lv 0) (yx d e i)=(
 let q2:=At.mk (0:Int) (0:Int) [];
 let q:=List.getD (af aj (ae aj d)) i.toNat q2;
 let q1:=List.getD (af aj (ae aj e)) i.toNat q2;
 let q3:=(d.length:Int);bif decide (i<q3) then .ai [0<=i/\i<q3,td 3 i (ae aj d)=aj q] (.ai [0<=i/\i<(e.length:Int),td 3 i (ae aj e)=aj q1] (bif !(At.kind q==At.kind q1&&(At.n q==At.n q1 &&
  (At.t q==At.t q1&&true))) then .done (Ex.ret,St.mk (ah 26 [(4,.bool false)]) [] []) else nz (ah 26 [(0,ab aj d),(1,ab aj e),(12,aa q3),(13,aa (wz (i+1)))]) [])) else .done (Ex.exit 0,St.mk (ah 26 []) []
  []):T _):=kz
theorem Z0 (a:At) (d:aQ):fnT nA 0 kb [.agg (aj a),.ptr 0 0] [ct d]=(
 .bind (cu (af aj (ae aj d)) (At.mk a.kind a.n a.t)) fun y0=> .ai [au (Env.P nA) 149 [ab aj d,.agg (aj a)] [] (aF.mk (.bool y0) [] [])] (dz (.bool y0) [some ([ab aj d],32)] []):T _):=fz
theorem Um (d:aQ) (c:aZ):fnT nA 0 Ek [ab aj d,.agg (aE c)] []=(
 let q2:=At.mk (0:Int) (0:Int) [];
 let q:=List.getD (af aj (ae aj c.val)) 0 q2;
 let q1:=List.getD (af aj (ae aj d)) 0 q2;bif (d.length:Int) != 1 then dz (.bool false) [] [] else .ai [(0:Int)<=0/\(0:Int)<(d.length:Int),List.take 3 (List.drop 0 (ae aj d))=aj q1] (.ai [(0:Int)
  <= 0/\(0:Int)<(c.val.length:Int),List.take 3 (List.drop 0 (ae aj c.val))=aj q] (.bind (kG (At.mk (At.kind q1) (At.n q1) (At.t q1)) (At.mk (At.kind q) (At.n q) (At.t q))) fun y0=> .ai [au (Env.P nA) 198 [.agg
  (aj q1),.agg (aj q)] [] (aF.mk (aa y0) [] [])] (bif c.func==3 then dz (.bool (decide (y0<0))) [] [] else bif c.func==4 then dz (.bool (decide (y0<=0))) [] [] else bif c.func==5 then dz (.bool (decide (y0>0))) [] []
  else dz (.bool (decide (y0>=0))) [] []))):T _):=kz
theorem KL (a x:At):(a.kind==x.kind&&(a.n==x.n&&(a.t==x.t&&true)))=dM x a:=by
 rw [Bool.eq_iff_iff,rN];obtain ⟨k,n,t⟩:=a;obtain ⟨k',n',t'⟩:=x;simp only [Bool.and_eq_true,beq_iff_eq,and_true,At.mk.injEq];constructor
 ·rintro ⟨h1,h2,h3⟩;exact ⟨h1.symm,h2.symm,h3.symm⟩
 ·rintro ⟨h1,h2,h3⟩;exact ⟨h1.symm,h2.symm,h3.symm⟩
def aa8:Nat->St->Option b8:=fun id s=>match id,s.tm.get 0,s.hp with
 | 0,.dsl _ _ cs,some ([.int _ k,.int _ n,.str t],_)::_=>some ⟨fidx (fun x=>dM x ⟨k,n,t⟩) (af aj cs) 0,fun y=> .two {keep:=[0,3,7,8]} (yD (af aj cs) ⟨k,n,t⟩ 0) (decide (y<0)) (.exit 0) ⟨ah 19 [],[],[]⟩ .ret ⟨ah 19 [(4,.int .i64 y)],[],[]⟩⟩
 | _,_,_=>none
def CX:Env:={P:=Pz,vw:=cj,res:=yh,ls:=aa8}
theorem Y1 (d:aQ) (a:At):fnT CX 0 qp [ab aj d,.agg (aj a)] []=(
 let q2:=af aj (ae aj d);
 let q:=ah 19 [(0,ab aj q2),(3,pp 0),(7,aa (↑(List.length q2):Int)),(8,aa 0)];
 let q1:Hp:=[some (aj (At.mk a.kind a.n a.t),143)];.bind (fidx (fun x=>dM x (At.mk a.kind a.n a.t)) q2 0) fun y0=> .ai [St.mk (ah 19 [(0,ab aj d),(3,pp 0),(7,aa (d.length:Int)),(8,aa 0)]) [some (aj a,
  143)] []=St.mk q q1 []] (bif decide (y0<0) then .ai [aN (Env.P CX) 0 (blk Pz qp 0) (St.mk q q1 []) (Ex.exit 0) (St.mk (ah 19 []) [] [])] (dz (aa (-1:Int)) [] []) else .ai [aN (Env.P CX) 0 (blk Pz qp 0)
  (St.mk q q1 []) Ex.ret (St.mk (ah 19 [(4,aa y0)]) [] [])] (dz (aa y0) [] [])):T _):=fz
theorem Y2 (d:aQ) (a:At) (h:d.length<=1048576):
  (fidx (fun x=>dM x a) d 0<0->aT Tryz.prog 0 (lp Tryz.prog qp 0) (yD d a 0) (.exit 0) ⟨ah 19 [],[],[]⟩) /\
  (0<=fidx (fun x=>dM x a) d 0->aT Tryz.prog 0 (lp Tryz.prog qp 0) (yD d a 0) .ret ⟨ah 19 [(4,.int .i64 (fidx (fun x=>dM x a) d 0))],[],[]⟩):=by
 refine mN (E:=nA) (m:=0) (nf:=Nv) (st:=fun i=>yD d a (i:Nat)) (sr:=fun j=>⟨ah 19 [(4,.int .i64 j)],[],[]⟩) (fun x=>dM x a) d ⟨0,0,[]⟩ follows named (by simp) (by simp) (fun i=>Y0 d a (i:Nat)) (fun i hi => ?_) ?_ d.length 0 (by simp)
 ·have aD:=bu.at d ⟨0,0,[]⟩ i 3 hi rfl
  simp only [KL,bu.af,Int.toNat_natCast]
  simp only [ba,T.WP,All,bh,bl,bg,bW (show i<9223372036854775807 by omega)]
  refine ⟨fun _=>⟨⟨aB,aD⟩,fun h => ?_,fun h => ?_⟩,fun h=>by omega⟩
  ·rw [h];rfl
  ·rw [h];rfl
 ·simp only [ba,T.WP,All,bh,bl,bg]
  exact ⟨fun h=>by omega,fun _=>trivial⟩
theorem Y3 (d:aQ) (a:At) (h:d.length<=1048576):au Pz qp [ab aj d,.agg (aj a)] [] ⟨.int .i64 (fidx (fun x=>dM x a) d 0),[],[]⟩:=by
 have hl:=Y2 d a h;refine a6 (Y1 d a) ?_;simp only [sz,bu.af];rintro y e;have e:y=fidx (fun x=>dM x a) d 0:=e;rw [<- e] at hl ⊢;refine ⟨a8,fun h0=>⟨.aV (hl.1 h0),?_⟩,fun h0=>⟨.aV (hl.2 ag),aH⟩⟩;have e1:y= -1:=by
  rcases kK (fun x=>dM x a) d 0 with h2 | h2 <;> omega
 rw [e1];exact aH
theorem UB (d:aQ) (a:At) (h:d.length<=1048576):au Pz En [ab aj d,.agg (aj a)] [] ⟨.bool (cu d a),[],[]⟩:=by
 refine a6 (UA d a) ?_;simp only [sz,bu.af];rintro y rfl;refine ⟨Y3 d a h,?_,rfl,by simp⟩;refine congrArg V.bool ?_;rw [Bool.eq_iff_iff,decide_eq_true_eq];unfold cu;rw [List.any_eq_true];exact sw (p:=fun x=>dM x a)
theorem MZ (a:At) (d:aQ) (h:d.length<=1048576):au Pz kb [.agg (aj a),.ptr 0 0] [ct d] ⟨.bool (cu d a),[ct d],[]⟩:=by
 refine a6 (Z0 a d) ?_;simp only [sz,bu.af];rintro y rfl;exact ⟨UB d a h,aH⟩
def aa3:Nat->St->Option b8:=fun id s=>match id,s.tm.get 0,s.tm.get 1 with
 | 0,.dsl _ _ cs,.dsl _ _ ds=>some ⟨allN (fun i=>dM ((af aj ds).getD i ⟨0,0,[]⟩) ((af aj cs).getD i ⟨0,0,[]⟩)) (af aj cs).length 0,fun y=> .two {keep:=[0,1,12,13]} (yx (af aj cs) (af aj ds) 0) y (.exit 0) ⟨ah 26 [],[],[]⟩ .ret ⟨ah 26 [(4,.bool false)],[],[]⟩⟩
 | _,_,_=>none
def CQ:Env:={P:=Pz,vw:=cj,res:=yh,ls:=aa3}
theorem Vx (d e:aQ):fnT CQ 0 lv [ab aj d,ab aj e] []=(
 let q1:=af aj (ae aj d);
 let q3:=af aj (ae aj e);
 let q:=ah 26 [(0,ab aj q1),(1,ab aj q3),(12,aa (↑(List.length q1):Int)),(13,aa 0)];
 let q2:=At.mk (0:Int) (0:Int) [];bif (d.length:Int) != (e.length:Int) then dz (.bool false) [] [] else .bind (allN (fun i=>dM (List.getD q3 i q2) (List.getD q1 i q2)) (List.length q1) 0) fun y0=> .ai [St.mk (ah 26
  [(0,ab aj d),(1,ab aj e),(12,aa (d.length:Int)),(13,aa 0)]) [] []=St.mk q [] []] (bif y0 then .ai [aN (Env.P CQ) 0 (blk Pz lv 0) (St.mk q [] []) (Ex.exit 0) (St.mk (ah 26 []) [] [])] (dz (.bool true) []
  []) else .ai [aN (Env.P CQ) 0 (blk Pz lv 0) (St.mk q [] []) Ex.ret (St.mk (ah 26 [(4,.bool false)]) [] [])] (dz (.bool false) [] [])):T _):=kz
theorem Vy (d e:aQ) (hl:d.length=e.length) (h:d.length<=1048576):
  (allN (fun i=>dM (e.getD i ⟨0,0,[]⟩) (d.getD i ⟨0,0,[]⟩)) d.length 0=true->aT Tryz.prog 0 (lp Tryz.prog lv 0) (yx d e 0) (.exit 0) ⟨ah 26 [],[],[]⟩) /\
  (allN (fun i=>dM (e.getD i ⟨0,0,[]⟩) (d.getD i ⟨0,0,[]⟩)) d.length 0=false->aT Tryz.prog 0 (lp Tryz.prog lv 0) (yx d e 0) .ret ⟨ah 26 [(4,.bool false)],[],[]⟩):=by
 refine ju (E:=nA) (m:=0) (nf:=Ns) (st:=fun i=>yx d e (i:Nat)) (n:=d.length) _ follows named (by simp) (by simp) (fun i=>Vv d e (i:Nat)) (fun i hi => ?_) ?_ d.length 0 (by simp)
 ·have aD:=bu.at d ⟨0,0,[]⟩ i 3 hi rfl
  have cB:=bu.at e ⟨0,0,[]⟩ i 3 (by omega) rfl
  simp only [KL,bu.af,Int.toNat_natCast]
  simp only [ba,T.WP,All,bh,bl,bg,bW (show i<9223372036854775807 by omega)]
  refine ⟨fun _=>⟨⟨aB,aD⟩,⟨aB,cB⟩,fun h => ?_,fun h => ?_⟩,fun h=>by omega⟩
  ·rw [show dM (e.getD i ⟨0,0,[]⟩) (d.getD i ⟨0,0,[]⟩)=false by simpa using h];rfl
  ·rw [show dM (e.getD i ⟨0,0,[]⟩) (d.getD i ⟨0,0,[]⟩)=true by simpa using h];rfl
 ·simp only [ba,T.WP,All,bh,bl,bg]
  exact ⟨fun h=>by omega,fun _=>trivial⟩
theorem SN {d e:aQ} (hl:d.length=e.length):allN (fun i=>dM (e.getD i ⟨0,0,[]⟩) (d.getD i ⟨0,0,[]⟩)) d.length 0=decide (d=e):=by
 rw [Bool.eq_iff_iff,nF,decide_eq_true_eq];constructor
 ·intro h;refine List.ext_getElem hl fun i h1 h2 => ?_;have:=rN.1 (h i ag ag);rw [List.getD_eq_getElem?_getD,List.getD_eq_getElem?_getD,List.getElem?_eq_getElem h1,List.getElem?_eq_getElem h2] at this;exact this.symm
 ·rintro rfl i h1 h2;exact rN.2 rfl
theorem D6 (d e:aQ) (h:d.length<=1048576):au Pz lv [ab aj d,ab aj e] [] ⟨.bool (decide (d=e)),[],[]⟩:=by
 refine a6 (Vx d e) ?_;simp only [sz,bu.af];refine ⟨fun bc => ?_,fun heq => ?_⟩
 ·rw [decide_eq_false (fun e'=>by subst e';simp at bc)];exact aH
 ·have hl:d.length=e.length:=by
   have:(d.length:Int)=(e.length:Int):=by simpa using heq
   omega
  have dy:=Vy d e hl h;rintro y e';rw [<- e'] at dy;rw [SN hl] at e';refine ⟨a8,fun h0=>⟨.aV (dy.1 h0),?_⟩,fun h0=>⟨.aV (dy.2 h0),?_⟩⟩
  ·rw [<- e',h0];exact aH
  ·rw [<- e',h0];exact aH
def uj (d:aQ) (c:aZ):Bool:=
 bif (d.length:Int) != 1 then false
 else bif c.func==3 then decide (kG (d.getD 0 ⟨0,0,[]⟩) (c.val.getD 0 ⟨0,0,[]⟩)<0)
 else bif c.func==4 then decide (kG (d.getD 0 ⟨0,0,[]⟩) (c.val.getD 0 ⟨0,0,[]⟩)<=0)
 else bif c.func==5 then decide (kG (d.getD 0 ⟨0,0,[]⟩) (c.val.getD 0 ⟨0,0,[]⟩)>0)
 else decide (kG (d.getD 0 ⟨0,0,[]⟩) (c.val.getD 0 ⟨0,0,[]⟩)>=0)
theorem Un (d:aQ) (c:aZ) (hc:c.val≠[]):au Pz Ek [ab aj d,.agg (aE c)] [] ⟨.bool (uj d c),[],[]⟩:=by
 have hv:0<c.val.length:=List.length_pos_iff.2 hc;have AJ:=bu.at c.val ⟨0,0,[]⟩ 0 3 hv rfl;rw [Nat.zero_mul] at AJ;refine a6 (Um d c) ?_;unfold uj;simp only [sz,bu.af];refine ⟨fun h1 => ?_,fun h1 => ?_⟩
 ·rw [(cR:((d.length:Int) != 1)=true)];exact aH
 ·have hd:d.length=1:=by
   have:(d.length:Int)=1:=cR;omega
  have LB:=bu.at d ⟨0,0,[]⟩ 0 3 ag rfl;rw [Nat.zero_mul] at LB;rw [(cR:((d.length:Int) != 1)=false),cond_false];refine ⟨⟨aB,LB⟩,⟨aB,AJ⟩,?_⟩;rintro y e;have e:y=kG (d.getD 0 ⟨0,0,[]⟩) (c.val.getD 0 ⟨0,0,[]⟩):=e;rw [<- e];refine ⟨by rw [e];exact JW _ _,fun h3 => ?_,fun h3=>⟨fun h4 => ?_,fun h4=>⟨fun h5 => ?_,fun h5 => ?_⟩⟩⟩
  ·rw [show (c.func==3)=true by simpa using h3];exact aH
  ·rw [show (c.func==3)=false by simpa using h3,show (c.func==4)=true by simpa using h4];exact aH
  ·rw [show (c.func==3)=false by simpa using h3,show (c.func==4)=false by simpa using h4,show (c.func==5)=true by simpa using h5];exact aH
  ·rw [show (c.func==3)=false by simpa using h3,show (c.func==4)=false by simpa using h4,show (c.func==5)=false by simpa using h5];exact aH
abbrev Ev:Nat:=188
abbrev mJ:Nat:=240
abbrev Am:Nat:=211
abbrev uv:Nat:=111
abbrev sq:Nat:=79
abbrev ET:Nat:=83
abbrev E7:Nat:=54
abbrev xd:Nat:=60
def dm (c:aL):Option bM:=some (aY c,ze)
def ri:cy:=fun f vs hp=>match vs,hp with
 | [.agg [.int _ _,.int _ n,.str _],.ptr 0 0],[some ([.str a,.int _ b,.int _ c,.int _ d,.int _ e,.int _ g,.str h,.bool q],_)]=>bif Nat.beq f mJ then some ⟨!bC n e g,fun y=>⟨.bool y,[dm ⟨a,b,c,d,e,g,h,q⟩],[]⟩⟩ else none
 | [.dsl _ _ cs,.fn w [.ptr 0 0]],[some ([.str a,.int _ b,.int _ c,.int _ d,.int _ e,.int _ g,.str h,.bool q],_)]=>
  bif Nat.beq f gJ&&Nat.beq w mJ then some ⟨fidx (fun x:At=> !bC x.n e g) (af aj cs) 0,fun y=>⟨.int .i64 y,[dm ⟨a,b,c,d,e,g,h,q⟩],[]⟩⟩ else
  bif Nat.beq f Am&&Nat.beq w mJ then some ⟨(af aj cs).any (fun x:At=> !bC x.n e g),fun y=>⟨.bool y,[dm ⟨a,b,c,d,e,g,h,q⟩],[]⟩⟩ else none
 | [.agg [.str a,.int _ b,.int _ c,.int _ d,.int _ e,.int _ g,.str h,.bool q],.dsl _ _ cs],[]=>bif Nat.beq f Ev then some ⟨dn ⟨a,b,c,d,e,g,h,q⟩ (af aj cs),fun y=>⟨.int .i64 y,[],[]⟩⟩ else none
 | [.agg [.str _,.dsl _ _ _,.dsl _ _ _,.bool _],.agg [.int _ _,.dsl _ _ _]],[]=>bif Nat.beq f uv then some ⟨(),fun _=>⟨.bool true,[],[]⟩⟩ else bif Nat.beq f xd then some ⟨(),fun _=>⟨.bool true,[],[]⟩⟩ else none
 | [.agg [.str _,.dsl _ _ _,.dsl _ _ _,.bool _]],[]=>bif Nat.beq f E7 then some ⟨(),fun _=>⟨.bool true,[],[]⟩⟩ else none
 | [.agg [.dsl _ _ _]],[]=>bif Nat.beq f ET then some ⟨(),fun _=>⟨.bool true,[],[]⟩⟩ else none
 | [.dsl _ _ _],[]=>bif Nat.beq f sq then some ⟨(),fun _=>⟨.bool true,[],[]⟩⟩ else yh f vs hp
 | _,_=>yh f vs hp
def eF:Env:={P:=Pz,vw:=cj,res:=ri}
theorem VO (a:At) (c:aL):fnT eF 0 mJ [.agg (aj a),.ptr 0 0] [dm c]=(
 .bind (bC a.n c.low c.high) fun y0=> .ai [au (Env.P eF) 45 [aa a.n,aa c.low,aa c.high] [] (aF.mk (.bool y0) [] [])] (dz (.bool !y0) [dm c] []):T _):=fz
def yG (d:aQ) (c:aL) (i:Int):St:=⟨ah 19 [(0,ab aj d),(1,.fn mJ [.ptr 0 0]),(7,.int .i64 d.length),(8,.int .i64 i)],[dm c],[]⟩
theorem Zc (d:aQ) (c:aL) (i:Int):bp eF 1 kr (lp Pz gJ 0) (yG d c i)=(
 let q:=List.getD (af aj (ae aj d)) i.toNat (At.mk (0:Int) (0:Int) []);
 let q1:=(d.length:Int);bif decide (i<q1) then .ai [0<=i/\i<q1,td 3 i (ae aj d)=aj q] (.bind (!bC (At.n q) c.low c.high) fun y0=> .ai [au (Env.P eF) 240 [.agg (aj q),pp 0] [dm c] (aF.mk (.bool y0) [dm
  (aL.mk c.name c.kind c.min c.max c.low c.high c.ref c.fF)] [])] (bif y0 then .done (Ex.ret,St.mk (ah 19 [(4,aa i)]) [dm c] []) else nz (ah 19 [(0,ab aj d),(1,.fn 240 [pp 0]),(7,aa q1),(8,aa (wz (i+1)))])
  [dm c])) else .done (Ex.exit 0,St.mk (ah 19 []) [dm c] []):T _):=kz
def ab1:Nat->St->Option b8:=fun id s=>match id,s.tm.get 0,s.hp with
 | 0,.dsl _ _ cs,some ([.str a,.int _ b,.int _ c,.int _ d,.int _ e,.int _ g,.str h,.bool q],_)::_=>some ⟨fidx (fun x:At=> !bC x.n e g) (af aj cs) 0,fun y=> .two {keep:=[0,1,7,8]} (yG (af aj cs) ⟨a,b,c,d,e,g,h,q⟩ 0) (decide (y<0)) (.exit 0) ⟨ah 19 [],[dm ⟨a,b,c,d,e,g,h,q⟩],[]⟩ .ret ⟨ah 19 [(4,.int .i64 y)],[dm ⟨a,b,c,d,e,g,h,q⟩],[]⟩⟩
 | _,_,_=>none
def CZ:Env:={P:=Pz,vw:=cj,res:=ri,ls:=ab1}
theorem Zd (d:aQ) (c:aL):fnT CZ 0 gJ [ab aj d,.fn mJ [.ptr 0 0]] [dm c]=(
 let q:=aL.mk c.name c.kind c.min c.max c.low c.high c.ref c.fF;
 let q2:=af aj (ae aj d);
 let q1:=ah 19 [(0,ab aj q2),(1,.fn 240 [pp 0]),(7,aa (↑(List.length q2):Int)),(8,aa 0)];.bind (fidx (fun x=> !bC x.n c.low c.high) q2 0) fun y0=> .ai [St.mk (ah 19 [(0,ab aj d),(1,.fn 240 [pp 0]),(7,
  aa (d.length:Int)),(8,aa 0)]) [dm c] []=St.mk q1 [dm q] []] (bif decide (y0<0) then .ai [aN (Env.P CZ) 1 (blk Pz gJ 0) (St.mk q1 [dm q] []) (Ex.exit 0) (St.mk (ah 19 []) [dm q] [])] (dz (aa (-1:Int)) [dm
  q] []) else .ai [aN (Env.P CZ) 1 (blk Pz gJ 0) (St.mk q1 [dm q] []) Ex.ret (St.mk (ah 19 [(4,aa y0)]) [dm q] [])] (dz (aa y0) [dm q] [])):T _):=fz
theorem UC (d:aQ) (c:aL):fnT eF 0 Am [ab aj d,.fn mJ [.ptr 0 0]] [dm c]=(
 .bind (fidx (fun x=> !bC x.n c.low c.high) (af aj (ae aj d)) 0) fun y0=> .ai [au (Env.P eF) 206 [ab aj d,.fn 240 [pp 0]] [dm c] (aF.mk (aa y0) [dm (aL.mk c.name c.kind c.min c.max c.low c.high c.ref c.fF)]
  [])] (dz (.bool (decide (y0>=0))) [dm c] []):T _):=fz
theorem VU (c:aL) (d:aQ):fnT eF 0 Ev [.agg (aY c),ab aj d] []=(
 let q:=af aj (ae aj d);
 let q1:=(d.length:Int);
 let q2:=aL.mk c.name c.kind c.min c.max c.low c.high c.ref c.fF;
 let q3:=List.getD q 0 (At.mk (0:Int) (0:Int) []);
 let q4:=List.any q fun x=> !bC x.n c.low c.high;bif decide (q1>0) then .ai [(0:Int)<=0/\(0:Int)<q1,List.take 3 (List.drop 0 (ae aj d))=aj q3] (bif At.kind q3 != c.kind then dz (aa 9) [] [] else .bind (bC q1
  c.min c.max) fun y0=> .ai [au (Env.P eF) 45 [aa q1,aa c.min,aa c.max] [] (aF.mk (.bool y0) [] [])] (bif !y0 then dz (aa 6) [] [] else bif c.kind==1 then .bind q4 fun y1=> .ai [au (Env.P eF) 211 [ab aj d,.fn
  240 [pp 0]] [dm c] (aF.mk (.bool y1) [dm q2] [])] (bif y1 then dz (aa 4) [] [] else dz (aa 0) [] []) else dz (aa 0) [] [])) else .bind (bC q1 c.min c.max) fun y2=> .ai [au (Env.P eF) 45 [aa q1,aa c.min,aa c.max] []
  (aF.mk (.bool y2) [] [])] (bif !y2 then dz (aa 6) [] [] else bif c.kind==1 then .bind q4 fun y3=> .ai [au (Env.P eF) 211 [ab aj d,.fn 240 [pp 0]] [dm c] (aF.mk (.bool y3) [dm q2] [])] (bif y3 then dz (aa 4) [] []
  else dz (aa 0) [] []) else dz (aa 0) [] []):T _):=kz
def Ib (rows:List Rw) (i:Int):St:=⟨ah 22 [(0,ab aq rows),(3,.int .i64 i)],[],[]⟩
def ap5:Ex->Kp:=fun ex=>match ex with
 | .normal=>{keep:=[0,3]}
 | .ret=>{keep:=[2]}
 | _=>{keep:=[]}
theorem Hu (rows:List Rw) (i:Int):bp eF 0 ap5 (lp Pz sq 0) (Ib rows i)=(
 let q2:=ae aq rows;
 let q:=List.getD (af aq q2) (Int.toNat (wz (i - 1))) (Rw.mk (0:Int) []);
 let q1:=List.getD (af aq q2) i.toNat (Rw.mk (0:Int) []);
 let q3:=(rows.length:Int);bif decide (i<q3) then .ai [0<=wz (i - 1)/\wz (i - 1)<q3,List.take 2 (List.drop (Int.toNat (wz (i - 1))*2) q2)=(aq q)] (.ai [0<=i/\i<q3,td 2 i q2=(aq q1)] (bif decide (Rw.id q >=
  Rw.id q1) then .done (Ex.ret,St.mk (ah 22 [(2,.bool false)]) [] []) else nz (ah 22 [(0,ab aq rows),(3,aa (wz (i+1)))]) [])) else .done (Ex.exit 0,St.mk (ah 22 []) [] []):T _):=kz
def ad9:Nat->St->Option b8:=fun id s=>match id,s.tm.get 0 with
 | 0,.dsl _ _ cs=>some ⟨(),fun _=> .one {keep:=[0,3]} (Ib (af aq cs) 1) (.exit 0) ⟨ah 22 [],[],[]⟩⟩
 | _,_=>none
def I9:Env:={P:=Pz,vw:=cj,res:=ri,ls:=ad9}
theorem rgT (rows:List Rw):fnT I9 0 sq [ab aq rows] []=(
 let q:=ah 22 [(0,ab aq (af aq (ae aq rows))),(3,aa 1)];.bind PUnit.unit fun _=> .ai [St.mk (ah 22 [(0,ab aq rows),(3,aa 1)]) [] []=St.mk q [] [],aN (Env.P I9) 0 (blk Pz sq 0) (St.mk q []
  []) (Ex.exit 0) (St.mk (ah 22 []) [] [])] (dz (.bool true) [] []):T _):=fz
def HM (t:Tb) (r:Rw) (i:Int):St:=⟨ah 36 [(2,.ptr 0 0),(15,ab aG r.cells),(16,.int .i64 r.cells.length),(17,.int .i64 i)],[some (ao t,gp)],[]⟩
def ak8:Ex->Kp:=fun ex=>match ex with
 | .normal=>{keep:=[2,15,16,17]}
 | .ret=>{keep:=[4]}
 | _=>{keep:=[]}
theorem JK (t:Tb) (r:Rw) (i:Int):bp eF 0 ak8 (lp Pz uv 0) (HM t r i)=(
 let q:=List.getD (af aY (ae aY t.av)) i.toNat (aL.mk [] (0:Int) (0:Int) (0:Int) (0:Int) (0:Int) [] false);
 let q1:=List.getD (af aG (ae aG r.cells)) i.toNat [];
 let q2:=(r.cells.length:Int);bif decide (i<q2) then .ai [0<=i/\i<q2,td 1 i (ae aG r.cells)=[ab aj q1]] (.bind PUnit.unit fun _=> .ai [au (Env.P eF) 121 [ab aj q1] [] (aF.mk (.bool true) [] [])]
  (.ai [0<=i/\i<(t.av.length:Int),td 8 i (ae aY t.av)=aY q] (.bind (dn (aL.mk (aL.name q) (aL.kind q) (aL.min q) (aL.max q) (aL.low q) (aL.high q) (aL.ref q) (aL.fF q)) (af aj (ae aj
  q1))) fun y1=> .ai [au (Env.P eF) 188 [.agg (aY q),ab aj q1] [] (aF.mk (aa y1) [] [])] (bif y1 != 0 then .done (Ex.ret,St.mk (ah 36 [(4,.bool false)]) [] []) else nz (ah 36 [(2,pp 0),(15,ab aG r.cells),
  (16,aa q2),(17,aa (wz (i+1)))]) [some ((ao t),44)])))) else .done (Ex.exit 0,St.mk (ah 36 []) [] []):T _):=kz
def Z6 (t:Tb) (r:Rw):Nat->St->Option b8:=fun id _=>match id with
 | 0=>some ⟨(),fun _=> .one {keep:=[2,15,16,17]} (HM t r 0) (.exit 0) ⟨ah 36 [],[],[]⟩⟩
 | _=>none
def RT (t:Tb) (r:Rw):Env:={P:=Pz,vw:=cj,res:=ri,ls:=Z6 t r}
theorem Ty (t:Tb) (r:Rw):fnT (RT t r) 0 uv [.agg (ao t),.agg (aq r)] []=(
 let q:=ah 36 [(2,pp 0),(15,ab aG r.cells),(16,aa (r.cells.length:Int)),(17,aa 0)];
 let q1:Hp:=[some ((ao t),44)];bif (r.cells.length:Int) != (t.av.length:Int) then dz (.bool false) [] [] else .bind PUnit.unit fun _=> .ai [St.mk q q1 []=St.mk q q1 [],aN Pz 0 (blk Pz uv 0) (St.mk q q1 [])
  (Ex.exit 0) (St.mk (ah 36 []) [] [])] (dz (.bool true) [] []):T _):=kz
theorem aI0 (t:Tb) (r:Rw):fnT eF 0 xd [.agg (ao t),.agg (aq r)] []=(
 let q:=aF.mk (.bool true) [] [];.bind PUnit.unit fun _=> .ai [au (Env.P eF) 54 [.agg (ao t)] [] q] (.bind (pJ r.id) fun y1=> .ai [au (Env.P eF) 110 [aa r.id] [] (aF.mk (.bool y1) [] [])] (bif y1 then .bind
  PUnit.unit fun _=> .ai [au (Env.P eF) 111 [.agg (ao t),.agg (aq r)] [] q] (dz (.bool true) [] []) else dz (.bool false) [] [])):T _):=fz
theorem VP (a:At) (c:aL):au Pz mJ [.agg (aj a),.ptr 0 0] [dm c] ⟨.bool (!bC a.n c.low c.high),[dm c],[]⟩:=by
 refine a6 (VO a c) ?_;simp only [sz];rintro y rfl;exact ⟨rE _ _ _,aH⟩
theorem Ze (d:aQ) (c:aL) (h:d.length<=1048576):
  (fidx (fun x:At=> !bC x.n c.low c.high) d 0<0->aT Tryz.prog 1 (lp Tryz.prog gJ 0) (yG d c 0) (.exit 0) ⟨ah 19 [],[dm c],[]⟩) /\
  (0<=fidx (fun x:At=> !bC x.n c.low c.high) d 0->aT Tryz.prog 1 (lp Tryz.prog gJ 0) (yG d c 0) .ret ⟨ah 19 [(4,.int .i64 (fidx (fun x:At=> !bC x.n c.low c.high) d 0))],[dm c],[]⟩):=by
 refine mN (E:=eF) (m:=1) (nf:=kr) (st:=fun i=>yG d c (i:Nat)) (sr:=fun j=>⟨ah 19 [(4,.int .i64 j)],[dm c],[]⟩) (fun x:At=> !bC x.n c.low c.high) d ⟨0,0,[]⟩ follows named (by simp) (by simp) (fun i=>Zc d c (i:Nat)) (fun i hi => ?_) ?_ d.length 0 (by simp)
 ·have aD:=bu.at d ⟨0,0,[]⟩ i 3 hi rfl
  simp only [ba,T.WP,All,bh,bl,bg,Int.toNat_natCast,bu.af,bW (show i<9223372036854775807 by omega)]
  refine ⟨fun _=>⟨⟨aB,aD⟩,?_⟩,fun h=>by omega⟩
  rintro y e
  have e:y= !bC (d.getD i ⟨0,0,[]⟩).n c.low c.high:=e
  rw [<- e]
  refine ⟨by rw [e];exact VP _ c,fun h => ?_,fun h => ?_⟩
  ·rw [h];rfl
  ·rw [h];rfl
 ·simp only [ba,T.WP,All,bh,bl,bg]
  exact ⟨fun h=>by omega,fun _=>trivial⟩
theorem Zf (d:aQ) (c:aL) (h:d.length<=1048576):au Pz gJ [ab aj d,.fn mJ [.ptr 0 0]] [dm c] ⟨.int .i64 (fidx (fun x:At=> !bC x.n c.low c.high) d 0),[dm c],[]⟩:=by
 have hl:=Ze d c h;refine a6 (Zd d c) ?_;simp only [sz,bu.af];rintro y e;have e:y=fidx (fun x:At=> !bC x.n c.low c.high) d 0:=e;rw [<- e] at hl ⊢;refine ⟨a8,fun h0=>⟨.aV (hl.1 h0),?_⟩,fun h0=>⟨.aV (hl.2 ag),aH⟩⟩;have e1:y= -1:=by
  rcases kK (fun x:At=> !bC x.n c.low c.high) d 0 with h2 | h2 <;> omega
 rw [e1];exact aH
theorem UD (d:aQ) (c:aL) (h:d.length<=1048576):au Pz Am [ab aj d,.fn mJ [.ptr 0 0]] [dm c] ⟨.bool (d.any (fun x:At=> !bC x.n c.low c.high)),[dm c],[]⟩:=by
 refine a6 (UC d c) ?_;simp only [sz,bu.af];rintro y rfl;refine ⟨Zf d c h,?_,rfl,by simp⟩;refine congrArg V.bool ?_;rw [Bool.eq_iff_iff,decide_eq_true_eq,List.any_eq_true];exact sw (p:=fun x:At=> !bC x.n c.low c.high)
theorem VV (c:aL) (d:aQ) (h:d.length<=1048576):au Pz Ev [.agg (aY c),ab aj d] [] ⟨.int .i64 (dn c d),[],[]⟩:=by
 refine a6 (VU c d) ?_;have aD:0<d.length->List.take 3 (List.drop 0 (ae aj d))=aj (d.getD 0 ⟨0,0,[]⟩):=fun h=>by
  have:=bu.at d ⟨0,0,[]⟩ 0 3 h rfl;rwa [Nat.zero_mul] at this
 have hc:=UD d c h;have hw:=rE d.length c.min c.max;unfold dn;simp only [sz,bu.af,At.zero];have tail:∀y:Bool,y=bC d.length c.min c.max->au eF.P 45 [V.int IntKind.i64 d.length,V.int IntKind.i64 c.min,V.int IntKind.i64 c.max] [] ⟨V.bool y,[],[]⟩:=by
  rintro y rfl;exact hw
 have Cs:∀y:Bool,y=d.any (fun a=> !bC a.n c.low c.high)->au eF.P Am [ab aj d,.fn mJ [.ptr 0 0]] [dm c] ⟨.bool y,[dm c],[]⟩:=by
  rintro y rfl;exact hc
 refine ⟨fun h1=>⟨⟨ag,aD ag⟩,fun h2 => ?_,fun h2 => ?_⟩,fun h1 => ?_⟩
 ·refine ⟨?_,rfl,by simp⟩;simp_all [Bool.cond_eq_ite]
 ·rintro y e;refine ⟨tail y e,fun h3 => ?_,fun h3=>⟨fun h4 => ?_,fun h4 => ?_⟩⟩
  ·refine ⟨?_,rfl,by simp⟩;simp_all [Bool.cond_eq_ite]
  ·rintro z e2;refine ⟨Cs z e2,fun h5 => ?_,fun h5 => ?_⟩;all_goals
    clear tail Cs hc hw aD
    refine ⟨congrArg _ ?_,rfl,by simp⟩;rw [<- e,<- e2,h5];simp_all [Bool.cond_eq_ite]
  ·refine ⟨?_,rfl,by simp⟩;simp_all [Bool.cond_eq_ite]
 ·rintro y e;have h0:d=[]:=by
   cases d with
   | nil=>rfl
   | cons a d=>simp at h1
  refine ⟨tail y e,fun h3 => ?_,fun h3=>⟨fun h4 => ?_,fun h4 => ?_⟩⟩
  ·refine ⟨?_,rfl,by simp⟩;simp_all [Bool.cond_eq_ite]
  ·rintro z e2;refine ⟨Cs z e2,fun h5 => ?_,fun h5 => ?_⟩;all_goals
    clear tail Cs hc hw aD
    refine ⟨congrArg _ ?_,rfl,by simp⟩;rw [<- e,<- e2,h5];simp_all [Bool.cond_eq_ite]
  ·refine ⟨?_,rfl,by simp⟩;simp_all [Bool.cond_eq_ite]
theorem P2 (rows:List Rw) (hp:iW rows) (hl:rows.length<=1048576):∀(k i:Nat),1<=i->i+k=rows.length->aT Tryz.prog 0 (lp Tryz.prog sq 0) (Ib rows i) (.exit 0) ⟨ah 22 [],[],[]⟩
 | 0,i,h1,hi=>by
  have hi:i=rows.length:=hi;subst hi;refine bZ (E:=eF) follows named (Hu rows (rows.length:Nat)) ?_;simp only [ba,T.WP,All,bh,bl,bg];exact ⟨fun h=>by omega,fun _=>⟨rfl,rfl⟩⟩
 | k+1,i,h1,hi=>by
  have bA:i<rows.length:=by omega
  have aD:=bI.at rows ⟨0,[]⟩ i 2 bA rfl;have WW:=bI.at rows ⟨0,[]⟩ (i - 1) 2 (by omega) rfl;have w1:IntKind.i64.wrap ((i:Int)+1)=((i+1:Nat):Int):=bW (by omega);have w2:IntKind.i64.wrap ((i:Int) - 1)=((i - 1:Nat):Int):=by rw [show (i:Int) - 1=((i - 1:Nat):Int) by omega];exact aV4 (by omega)
  have ih:=P2 rows hp hl k (i+1) (by omega) (by omega);have bQ:(rows.getD (i - 1) ⟨0,[]⟩).id<(rows.getD i ⟨0,[]⟩).id:=by
   have:=List.pairwise_iff_getElem.1 hp (i - 1) i (by omega) bA (by omega);rw [List.getD_eq_getElem?_getD,List.getD_eq_getElem?_getD,List.getElem?_eq_getElem bA,List.getElem?_eq_getElem (show i - 1<rows.length by omega)];exact this
  refine bZ (E:=eF) follows named (Hu rows (i:Nat)) ?_;simp only [ba,T.WP,All,bh,bl,bg,w1,w2,bI.af,Int.toNat_natCast];exact ⟨fun _=>⟨⟨aB,WW⟩,⟨aB,aD⟩,fun h=>by omega,fun _=>ih⟩,fun h=>by omega⟩
theorem aH1 (rows:List Rw) (hp:iW rows) (hl:rows.length<=1048576):au Pz sq [ab aq rows] [] ⟨.bool true,[],[]⟩:=by
 refine a6 (rgT rows) ?_;simp only [sz,bI.af];rintro _ -;cases rows with
 | nil=>
  refine ⟨⟨a8,.aV ?_⟩,aH⟩;refine bt (Hu [] 1) ?_;simp only [sz];exact ⟨fun h=>by simp at h,fun _=>⟨rfl,rfl⟩⟩
 | cons r rows=>exact ⟨⟨a8,.aV (P2 (r::rows) hp hl rows.length 1 ag (by simp;omega))⟩,aH⟩
theorem JN {t:Tb} {r:Rw} (hr:dh t r) (hn:t.av.length<=1048576) (hm:∀c∈t.av,c.max<=8):∀(k i:Nat),i+k=r.cells.length->aT Pz 0 (lp Pz uv 0) (HM t r i) (.exit 0) ⟨ah 36 [],[],[]⟩
 | 0,i,hi=>by
  have hi:i=r.cells.length:=hi;subst hi;refine bt (JK t r (r.cells.length:Nat)) ?_;simp only [sz];exact ⟨fun h=>ag,fun _=>⟨rfl,rfl⟩⟩
 | k+1,i,hi=>by
  have bA:i<r.cells.length:=ag;have sO:i<t.av.length:=by rw [<- hr.n];exact bA
  have aD:=bP.at r.cells [] i 1 bA rfl;have sH:=db.at t.av ⟨[],0,0,0,0,0,[],false⟩ i 8 sO rfl;have w1:wz ((i:Int)+1)=((i+1:Nat):Int):=bW (by rw [hr.n] at bA;omega);have ih:=JN hr hn hm k (i+1) ag;obtain ⟨hd,hf⟩:=hr.d i sO;have hlen:(r.cells.getD i []).length<=8:=by
   have h1:=(xg hf).2;have h2:=hm _ (bH aL.zero sO);omega
  refine bt (JK t r (i:Nat)) ?_;simp only [sz,w1,bP.af,bu.af,Int.toNat_natCast];refine ⟨fun _=>⟨⟨aB,aD⟩,?_⟩,fun h=>ag⟩;rintro _ -;refine ⟨Kd hd hlen,⟨aB,by rw [db.af];exact sH⟩,?_⟩;simp only [db.af];rintro y e;have e:y=dn (t.av.getD i aL.zero) (r.cells.getD i []):=e;rw [hf] at e;subst e;refine ⟨?_,fun h=>by simp at h,fun _=>ih⟩;have:=VV (t.av.getD i aL.zero) (r.cells.getD i []) ag;rw [hf] at this;exact this
theorem Tx {t:Tb} {r:Rw} (hr:dh t r) (hn:t.av.length<=1048576) (hm:∀c∈t.av,c.max<=8):au Pz uv [.agg (ao t),.agg (aq r)] [] ⟨.bool true,[],[]⟩:=by
 refine a6 (Ty t r) ?_;simp only [sz];refine ⟨fun h => ?_,fun _ => ?_⟩
 ·rw [hr.n] at h;simp at h
 ·rintro _ -;exact ⟨⟨a8,.aV (JN hr hn hm r.cells.length 0 ag)⟩,aH⟩
theorem aI1 {t:Tb} {r:Rw} (hr:dh t r) (hn:t.av.length<=1048576) (hm:∀c∈t.av,c.max<=8) (hi:1<=r.id/\r.id<1000000) (ht:au Pz E7 [.agg (ao t)] [] ⟨.bool true,[],[]⟩):au Pz xd [.agg (ao t),.agg (aq r)] [] ⟨.bool true,[],[]⟩:=by
 refine a6 (aI0 t r) ?_;simp only [sz];rintro _ -;refine ⟨ht,?_⟩;rintro y rfl;have hy:pJ r.id=true:=by unfold pJ bC;simp;omega
 refine ⟨MM _,fun _ => ?_,fun h=>by rw [hy] at h;cases h⟩;rintro _ -;exact ⟨Tx hr hn hm,aH⟩
def Bn:gv:=fun _ _ _=>none
def NZ:FuncId->Bool:=fun _=>false
theorem as1:j5 Pz Bn:=fun _ _ _ _ h=>by cases h
theorem as0:lO Pz Bn:=fun _ _ _ _ h=>by cases h
theorem jV {n d:Nat} {f:FuncId} {vs:List V} {hp:Hp} {r:aF} (h:deepC Pz Bn n NZ d f vs hp=some r):au Pz f vs hp r:=
 (Kg follows named as0 as1 d).1 _ _ _ _ h
theorem au.Vm {P:Program} {f:FuncId} {vs:List V} {dH:Hp} {wr:List Nat} (h:au P f vs [] ⟨.sl 0 0 0 true,dH,wr⟩):au P f vs [] ⟨.dsl 0 true [],[],[]⟩:=by
 obtain ⟨ht,hm⟩:=h;refine ⟨⟨Nat.le_refl _,fun b hb=>by simp at hb,fun b hb=>by simp at hb,fun b hb=>by simp at hb⟩,fun I w μ b9 hv pre dN => ?_⟩;have gR:∀b,b∉wr:=fun b hb=>by have:=ht.CE b hb;simp at this
 refine (hm I w μ b9 hv ⟨pre.dB,by simp,by simp,fun b hb je => ?_⟩ dN).mono ?_
 ·cases hμ:μ b with
  | none=>rfl
  | some g=>have:=dN b g hμ;simp at this
 rintro e w' ⟨val,μ',I',he,hR,G⟩;refine ⟨val,μ,I',he,?_,⟨G.dI,fun k hk => ?_,?_,.refl _,fun b g hg=> .inl hg,fun b _ _=>rfl,fun b hb blk h=>by simp at h,fun b hb blk h=>by simp at h,fun b c b1 b2 g bc hb hc h1=>by simp at h1⟩⟩
 ·simp only [V.R] at hR ⊢;rcases hR with ⟨g,cap,_,_,_,_,h1,h2,_,h3,_⟩ | ⟨_,_,a,h1,h2⟩
  ·exact ⟨_,cap,h1,h2,h3,.inr ⟨g,0,rfl⟩,.inl trivial⟩
  ·refine ⟨a,0,h1,Nat.le_refl _,fun _=>rfl,?_,.inl trivial⟩;rcases h2 with rfl | h2
   ·exact .inl ⟨rfl,rfl⟩
   ·exact .inr h2
 ·rcases G.eY k hk with h | h | ⟨c,hc,_⟩
  ·exact .inl h
  ·exact .inr (.inl h)
  ·exact absurd hc (gR c)
 ·exact G.cJ.mono fun k ⟨b,hb,_⟩=>absurd hb (gR b)
def isEmp (x:Option aF):Bool:=match x with
 | some ⟨.sl 0 0 0 true,_,_⟩=>true
 | _=>false
theorem U0 {n d:Nat} {f:FuncId} {vs:List V} (h:isEmp (deepC Pz Bn n NZ d f vs [])=true):au Pz f vs [] ⟨.dsl 0 true [],[],[]⟩:=by
 unfold isEmp at h;split at h
 ·rename_i hd;exact au.Vm (jV hd)
 ·cases h
theorem TO {f:FuncId} (h1:au Pz f [.lit (.slice none 0 0)] [] ⟨.dsl 0 true [],[],[]⟩) (h2:∀g off cap,au Pz f [.lit (.slice (some ⟨g,off,none⟩) 0 cap)] [] ⟨.dsl 0 true [],[],[]⟩):
  au Pz f [.dsl 0 false []] [] ⟨.dsl 0 true [],[],[]⟩:=by
 refine ⟨h1.1,fun I w μ b9 hv pre dN => ?_⟩;simp only [V.RL,V.R] at hv;obtain ⟨u,us,ko,⟨a,cap,rfl,_,hc,ha,_⟩,rfl⟩:=hv;rcases ha with ⟨rfl,rfl⟩ | ⟨g,off,rfl⟩
 ·exact h1.2 I w μ b9 (by simp only [V.RL,V.R];exact ⟨_,_,ko,rfl,rfl⟩) pre dN
 ·exact (h2 g off cap).2 I w μ b9 (by simp only [V.RL,V.R];exact ⟨_,_,ko,rfl,rfl⟩) pre dN
theorem JV:au Pz nL [.dsl 0 false []] [] ⟨.dsl 0 true [],[],[]⟩:=
 TO (jV (n:=100) (d:=1) kz) fun g off cap=>U0 (n:=100) (d:=1) kz
abbrev EU:Nat:=48
theorem aK1:au Pz ET [.agg [ab ao aI]] [] ⟨.bool true,[],[]⟩:=jV (n:=1000) (d:=30) kz
theorem aK2:au Pz EU [.agg [ab ao aI]] [] ⟨.bool true,[],[]⟩:=jV (n:=1000) (d:=30) kz
theorem aR7 {t:Nat} (ht:t<3):au Pz E7 [.agg (ao (bD t))] [] ⟨.bool true,[],[]⟩:=by
 have:t=0\/t=1\/t=2:=ag;rcases this with rfl | rfl | rfl
 ·exact jV (n:=1000) (d:=30) kz
 ·exact jV (n:=1000) (d:=30) kz
 ·exact jV (n:=1000) (d:=30) kz
def c8 (S:aO):Option bM:=some ([ab ao S],25)
def oE (x:aA):Option bM:=some (aM x,29)
theorem TP (d:aQ) (n:Nat):fnT eF 1 nL [.dsl (n+1) false (ae aj d)] []=(
 let q:=ae aj d;.ai [List.length q=(n+1)*3,List.all q V.one=true,0=0,0=0,0+(n+1)<=9223372036854775807,(0+(n+1))*32<=140737488355328] (dz (.sl 0 0 (0+(n+1)) false) [some ([.aw q],143)] []):T _):=fz
def ij (L:aQ):Option bM:=some ([.aw (ae aj L)],Q0)
def yK (L d:aQ) (i:Int):St:=⟨ah 19 [(0,.sl 0 0 L.length false),(1,.fn kb [.ptr 1 0]),(7,.int .i64 L.length),(8,.int .i64 i)],[ij L,ct d],[]⟩
theorem ZH (L d:aQ) (i:Int):bp eF 2 kr (lp Pz gJ 0) (yK L d i)=(
 let q4:=ae aj L;
 let q:=List.getD (af aj q4) ((0+i.toNat*3) / 3) (At.mk (0:Int) (0:Int) []);
 let q1:Hp:=[some ([.aw q4],143),ct d];
 let q2:=(L.length:Int);
 let q3:=af aj (ae aj d);bif decide (i<q2) then .ai [0<=i/\i<q2] (.ai [List.take 3 (List.drop (0+i.toNat*3) q4)=aj q] (.bind (cu q3 (At.mk (At.kind q) (At.n q) (At.t q))) fun y0=> .ai [au (Env.P eF)
  202 [.agg (aj q),pp 0] [ct d] (aF.mk (.bool y0) [ct q3] [])] (bif y0 then .done (Ex.ret,St.mk (ah 19 [(4,aa i)]) q1 []) else nz (ah 19 [(0,.sl 0 0 L.length false),(1,.fn 202 [pp 1]),(7,aa q2),(8,aa (wz (i +
  1)))]) q1))) else .done (Ex.exit 0,St.mk (ah 19 []) q1 []):T _):=kz
def Sc (L d:aQ):Env:={P:=Pz,vw:=cj,res:=ri,ls:=fun id _=>match id with
 | 0=>some ⟨fidx (cu d) L 0,fun y=> .two {keep:=[0,1,7,8]} (yK L d 0) (decide (y<0)) (.exit 0) ⟨ah 19 [],[ij L,ct d],[]⟩ .ret ⟨ah 19 [(4,.int .i64 y)],[ij L,ct d],[]⟩⟩
 | _=>none}
theorem ZI (L d:aQ):fnT (Sc L d) 0 gJ [.sl 0 0 L.length false,.fn kb [.ptr 1 0]] [ij L,ct d]=(
 let q:=ah 19 [(0,.sl 0 0 L.length false),(1,.fn 202 [pp 1]),(7,aa (L.length:Int)),(8,aa 0)];
 let q1:Hp:=[some ([.aw (ae aj L)],143),ct d];.bind (fidx (cu d) L 0) fun y0=> .ai [St.mk q q1 []=St.mk q q1 []] (bif decide (y0<0) then .ai [aN Pz 2 (blk Pz gJ 0) (St.mk q q1 []) (Ex.exit 0) (St.mk (ah
  19 []) q1 [])] (dz (aa (-1:Int)) q1 []) else .ai [aN Pz 2 (blk Pz gJ 0) (St.mk q q1 []) Ex.ret (St.mk (ah 19 [(4,aa y0)]) q1 [])] (dz (aa y0) q1 [])):T _):=fz
def aF0 (L d:aQ):cy:=fun f vs hp=>bif Nat.beq f gJ then some ⟨fidx (cu d) L 0,fun y=>⟨.int .i64 y,[ij L,ct d],[]⟩⟩ else ri f vs hp
def BZ (n:Nat) (L d:aQ) (i j:Int):St:=⟨ah 42 [(0,.sl 0 0 n false),(1,.fn kb [.ptr 1 0]),(5,.int .i64 i),(6,.int .i64 j)],[ij L,ct d],[0]⟩
def al6:Ex->Kp:=fun ex=>match ex with
 | .exit _=>{keep:=[0,5],wr:=[0]}
 | _=>{keep:=[0,1,5,6],wr:=[0],perm:=some ([0,1],[0])}
theorem Ke (n:Nat) (L d:aQ) (i j:Int):bp eF 2 al6 (lp Pz oW 0) (BZ n L d i j)=(
 let q1:=ae aj L;
 let q3:=At.mk (0:Int) (0:Int) [];
 let q:=List.getD (af aj q1) ((0+j.toNat*3) / 3) q3;
 let q2:=0+i.toNat*3;
 let q4:Hp:=[some ([.aw q1],143),ct d];
 let q5:=af aj (ae aj d);bif decide (j<(n:Int)) then .ai [0<=j/\j<(n:Int)] (.ai [List.take 3 (List.drop (0+j.toNat*3) q1)=aj q] (.bind (cu q5 (At.mk (At.kind q) (At.n q) (At.t q))) fun y0=> .ai
  [au (Env.P eF) 202 [.agg (aj q),pp 0] [ct d] (aF.mk (.bool y0) [ct q5] [])] (bif !y0 then .ai [0<=i/\i<(n:Int)] (.ai [List.take 3 (List.drop q2 q1)=aj (List.getD (af aj q1) (q2 / 3) q3),0+i.toNat*3 +
  3<=List.length q1] (.done (Ex.normal,St.mk (ah 42 [(0,.sl 0 0 n false),(1,.fn 202 [pp 1]),(5,aa (wz (i+1))),(6,aa (wz (j+1)))]) [some ([.aw (List.take q2 q1++aa (At.kind q)::aa (At.n q) :: .str (At.t q) ::
  List.drop (0+i.toNat*3+3) q1)],143),ct d] [0]))) else .done (Ex.normal,St.mk (ah 42 [(0,.sl 0 0 n false),(1,.fn 202 [pp 1]),(5,aa i),(6,aa (wz (j+1)))]) q4 [0])))) else .done (Ex.exit 0,St.mk (ah 42 [(0,.sl 0
  0 n false),(5,aa i)]) q4 [0]):T _):=kz
def RZ (L d L':aQ) (i':Int):Env:={P:=Pz,vw:=cj,res:=aF0 L d,ls:=fun id s=>match id,s.tm.get 5,s.tm.get 6 with
 | 0,.int _ a,.int _ b=>some ⟨(),fun _=> .one {keep:=[0,1,5,6],wr:=[0]} (BZ L.length L d a b) (.exit 0) ⟨ah 42 [(0,.sl 0 0 L.length false),(5,.int .i64 i')],[ij L',ct d],[0]⟩⟩
 | _,_,_=>none}
theorem Kf (L d L':aQ) (i':Int):fnT (RZ L d L' i') 0 oW [.sl 0 0 L.length false,.fn kb [.ptr 1 0]] [ij L,ct d]=(
 let q:Hp:=[some ([.aw (ae aj L)],143),ct d];
 let q1:List Prop:=[0<=i'/\i'<=(L.length:Int)];
 let q2:=ae aj L';
 let q3:V:= .sl 0 0 (Int.toNat i') false;
 let q4:Hp:=[some ([.aw q2],143),ct d];.bind (fidx (cu d) L 0) fun y0=>
 let q5:=ah 42 [(0,.sl 0 0 L.length false),(1,.fn 202 [pp 1]),(5,aa y0),(6,aa (wz (y0+1)))];cz 206 [.sl 0 0 L.length false,.fn 202 [pp 1]] q (aa y0) q [] (bif y0==(-1:Int) then dz (.sl 0 0 L.length false) q [] else
  .bind PUnit.unit fun _=> .ai [St.mk q5 q [0]=St.mk q5 q [0],aN Pz 2 (blk Pz oW 0) (St.mk q5 q [0]) (Ex.exit 0) (St.mk (ah 42 [(0,.sl 0 0 L.length false),(5,aa i')]) q4 [0])] (bif decide (Int.toNat i'<L.length)
  then .ai q1 (.ai [0<L.length - Int.toNat i',0+Int.toNat i'*3+(L.length - Int.toNat i')*3<=List.length q2] (.ai q1 (dz q3 [some ([.aw (List.take (0+Int.toNat i'*3) q2)],143),ct d] [0]))) else .ai q1 (.ai q1
  (dz q3 q4 [0])))):T _):=fz
def aF2 (d e:aQ):cy:=fun f _ _=>bif Nat.beq f nL then some ⟨(),fun _=>⟨.sl 0 0 d.length false,[ij d],[]⟩⟩ else bif Nat.beq f oW then some ⟨dP d e,fun y=>⟨.sl 0 0 y.length false,[ij y,ct e],[0]⟩⟩ else none
def Sd (d e:aQ):Env:={P:=Pz,vw:=cj,res:=aF2 d e}
theorem Z1 (d e:aQ):fnT (Sd d e) 0 Ap [ab aj d,ab aj e] []=(
 .bind PUnit.unit fun _=>cz 201 [ab aj d] [] (.sl 0 0 d.length false) [some ([.aw (ae aj d)],143)] [] (.bind (dP d e) fun y1=>cz 135 [.sl 0 0 d.length false,.fn 202 [pp 1]] [some ([.aw (ae aj d)],143),ct e]
  (.sl 0 0 y1.length false) [some ([.aw (ae aj y1)],143),ct e] [0] (dz (ab aj y1) [] [])):T _):=fz
def aF1 (e:aQ):cy:=fun f _ _=>bif Nat.beq f nL then some ⟨(),fun _=>⟨.dsl 0 true [],[],[]⟩⟩ else bif Nat.beq f oW then some ⟨(),fun _=>⟨.dsl 0 false [],[ct e],[]⟩⟩ else bif Nat.beq f gJ then some ⟨(),fun _=>⟨.int .i64 (-1),[ct e],[]⟩⟩ else none
def zv (e:aQ):Env:={P:=Pz,vw:=cj,res:=aF1 e,ls:=fun id _=>match id with
 | 0=>some ⟨(),fun _=> .one {keep:=[0,1,7,8]} ⟨ah 19 [(0,.dsl 0 true []),(1,.fn kb [.ptr 0 0]),(7,.int .i64 0),(8,.int .i64 0)],[ct e],[]⟩ (.exit 0) ⟨ah 19 [],[ct e],[]⟩⟩
 | _=>none}
theorem ZZ (e:aQ):fnT (zv e) 0 Ap [.dsl 0 false [],ab aj e] []=(
 .bind PUnit.unit fun _=>cz 201 [.dsl 0 false []] [] (.dsl 0 true []) [] [] (.bind PUnit.unit fun _=>cz 135 [.dsl 0 true [],.fn 202 [pp 0]] [ct e] (.dsl 0 false []) [ct e] [] (dz (.dsl 0 false []) [] [])):T _):=fz
theorem UY (e:aQ):fnT (zv e) 0 oW [.dsl 0 true [],.fn kb [.ptr 0 0]] [ct e]=(
 .bind PUnit.unit fun _=>cz 206 [.dsl 0 true [],.fn 202 [pp 0]] [ct e] (aa (-1:Int)) [ct e] [] (dz (.dsl 0 false []) [ct e] []):T _):=fz
theorem ZG (e:aQ):fnT (zv e) 0 gJ [.dsl 0 true [],.fn kb [.ptr 0 0]] [ct e]=(
 let q:=ah 19 [(0,.dsl 0 true []),(1,.fn 202 [pp 0]),(7,aa 0),(8,aa 0)];.bind PUnit.unit fun _=> .ai [St.mk q [ct e] []=St.mk q [ct e] [],aN Pz 1 (blk Pz gJ 0) (St.mk q [ct e] []) (Ex.exit 0) (St.mk (ah
  19 []) [ct e] [])] (dz (aa (-1:Int)) [ct e] []):T _):=fz
theorem ZF (e:aQ):bp (zv e) 1 kr (lp Pz gJ 0) ⟨ah 19 [(0,.dsl 0 true []),(1,.fn kb [.ptr 0 0]),(7,.int .i64 0),(8,.int .i64 0)],[ct e],[]⟩=(
 .done (Ex.exit 0,St.mk (ah 19 []) [ct e] []):T _):=fz
theorem TQ {d:aQ} (hd:d≠[]) (hl:d.length<=1048576):au Pz nL [ab aj d] [] ⟨.sl 0 0 d.length false,[ij d],[]⟩:=by
 obtain ⟨n,hn⟩:∃n,d.length=n+1:=⟨d.length - 1,by have:=List.length_pos_iff.2 hd;omega⟩;show au Pz nL [.dsl d.length false (ae aj d)] [] _;have cD:=bu.length d;rw [hn] at cD ⊢;refine a6 (TP d n) ?_;simp only [sz,Nat.zero_add];exact ⟨⟨cD,bu.all d,a8,a8,ag,ag⟩,aH⟩
theorem ZJ (L d:aQ) (h:L.length<=1048576) (hd:d.length<=1048576):
  (fidx (cu d) L 0<0->aT Tryz.prog 2 (lp Tryz.prog gJ 0) (yK L d 0) (.exit 0) ⟨ah 19 [],[ij L,ct d],[]⟩) /\
  (0<=fidx (cu d) L 0->aT Tryz.prog 2 (lp Tryz.prog gJ 0) (yK L d 0) .ret ⟨ah 19 [(4,.int .i64 (fidx (cu d) L 0))],[ij L,ct d],[]⟩):=by
 refine mN (E:=eF) (m:=2) (nf:=kr) (st:=fun i=>yK L d (i:Nat)) (sr:=fun j=>⟨ah 19 [(4,.int .i64 j)],[ij L,ct d],[]⟩) (cu d) L ⟨0,0,[]⟩ follows named (by simp) (by simp) (fun i=>ZH L d (i:Nat)) (fun i hi => ?_) ?_ L.length 0 (by simp)
 ·have aD:=bu.at L ⟨0,0,[]⟩ i 3 hi rfl
  have Fz:i*3 / 3=i:=by omega
  simp only [ba,T.WP,All,bh,bl,bg,Int.toNat_natCast,bu.af,Nat.zero_add,Fz,bW (show i<9223372036854775807 by omega)]
  refine ⟨fun _=>⟨aB,aD,?_⟩,fun h=>by omega⟩
  rintro y e
  have e:y=cu d (L.getD i ⟨0,0,[]⟩):=e
  rw [<- e]
  refine ⟨by rw [e];exact MZ _ d hd,fun h => ?_,fun h => ?_⟩
  ·rw [h];rfl
  ·rw [h];rfl
 ·simp only [ba,T.WP,All,bh,bl,bg]
  exact ⟨fun h=>by omega,fun _=>rfl⟩
theorem ZK (L d:aQ) (h:L.length<=1048576) (hd:d.length<=1048576):au Pz gJ [.sl 0 0 L.length false,.fn kb [.ptr 1 0]] [ij L,ct d] ⟨.int .i64 (fidx (cu d) L 0),[ij L,ct d],[]⟩:=by
 have hl:=ZJ L d h hd;refine a6 (ZI L d) ?_;simp only [sz];rintro y e;have e:y=fidx (cu d) L 0:=e;rw [<- e] at hl ⊢;refine ⟨a8,fun h0=>⟨.aV (hl.1 h0),?_⟩,fun h0=>⟨.aV (hl.2 ag),aH⟩⟩;have e1:y= -1:=by
  rcases kK (cu d) L 0 with h2 | h2 <;> omega
 rw [e1];exact aH
theorem DY {n:Nat} {d:aQ} (hn:n<=1048576) (hd:d.length<=1048576):∀(k j i:Nat) (L:aQ),j+k=n->L.length=n->i<j->∃(L':aQ) (i':Nat),aT Pz 2 (lp Pz oW 0) (BZ n L d i j) (.exit 0) ⟨ah 42 [(0,.sl 0 0 n false),(5,.int .i64 i')],[ij L',ct d],[0]⟩/\L'.length=n/\i'<n/\L'.take i'=L.take i++(L.drop j).filter fun x=> !cu d x
 | 0,j,i,L,hj,hL,hi=>by
  have hj:j=n:=hj;subst hj;refine ⟨L,i,?_,hL,hi,by rw [List.drop_of_length_le ag];simp⟩;refine bt (Ke j L d (i:Nat) (j:Nat)) ?_;simp only [sz];exact ⟨fun h=>ag,fun _=>⟨rfl,rfl⟩⟩
 | k+1,j,i,L,hj,hL,hi=>by
  have iK:j<L.length:=ag;have bA:i<L.length:=ag;have aD:=bu.at L ⟨0,0,[]⟩ j 3 iK rfl;have uX:=bu.at L ⟨0,0,[]⟩ i 3 bA rfl;have Fz:j*3 / 3=j:=ag;have Xn:i*3 / 3=i:=ag;have w1:=cX i;have w2:=cX j;have fJ:=MZ (L.getD j ⟨0,0,[]⟩) d hd;have L8:=bu.length L;have Gf:=Ke n L d (i:Nat) (j:Nat);simp only [Int.toNat_natCast,bu.af,Nat.zero_add,Fz,Xn,w1,w2] at Gf;rw [iE ⟨0,0,[]⟩ iK,List.filter_cons];cases hy:cu d (L.getD j ⟨0,0,[]⟩) with
  | true=>
   obtain ⟨L',i',h1,h2,h3,h4⟩:=DY hn hd k (j+1) i L ag hL ag;refine ⟨L',i',?_,h2,h3,by simpa using h4⟩;refine bt Gf ?_;simp only [sz];refine ⟨fun _=>⟨⟨ag,ag⟩,aD,?_⟩,fun h=>ag⟩;rintro y e;have e:y=true:=by rw [<- hy];exact e
   subst e;rw [hy] at fJ;exact ⟨fJ,fun h=>by simp at h,fun _=>h1⟩
  | false=>
   have og:(L.set i (L.getD j ⟨0,0,[]⟩)).length=n:=by rw [List.length_set];exact hL
   obtain ⟨L',i',h1,h2,h3,h4⟩:=DY hn hd k (j+1) (i+1) (L.set i (L.getD j ⟨0,0,[]⟩)) ag og ag;have et:(L.set i (L.getD j ⟨0,0,[]⟩)).take (i+1)=L.take i++[L.getD j ⟨0,0,[]⟩]:=by
    apply List.ext_getElem?;intro q;rw [List.getElem?_take,List.getElem?_set,List.getElem?_append,List.length_take,Nat.min_eq_left ag,List.getElem?_take];by_cases h1:q<i
    ·rw [if_pos ag,if_neg ag,if_pos h1,if_pos h1]
    ·by_cases h2:q=i
     ·subst h2;rw [if_pos ag,if_pos rfl,if_pos bA,if_neg ag,Nat.sub_self];rfl
     ·rw [if_neg ag,if_neg h1,List.getElem?_eq_none (by simp;omega)]
   have ed:(L.set i (L.getD j ⟨0,0,[]⟩)).drop (j+1)=L.drop (j+1):=by
    apply List.ext_getElem?;intro q;rw [List.getElem?_drop,List.getElem?_drop,List.getElem?_set,if_neg ag]
   rw [et,ed] at h4;refine ⟨L',i',?_,h2,h3,by simpa using h4⟩;refine bt Gf ?_;simp only [sz];refine ⟨fun _=>⟨⟨ag,ag⟩,aD,?_⟩,fun h=>ag⟩;rintro y e;have e:y=false:=by rw [<- hy];exact e
   subst e;rw [hy] at fJ;refine ⟨fJ,fun _=>⟨⟨ag,ag⟩,⟨uX,ag⟩,?_⟩,fun h=>by simp at h⟩;simp only [BZ,ij,bu.setAt L i bA] at h1;exact h1
theorem KY {α:Type} (p:α->Bool):∀(l:List α) (i:Nat),0<=fidx p l i->l.filter (fun x=> !p x)=l.take ((fidx p l i).toNat - i)++(l.drop ((fidx p l i).toNat - i+1)).filter fun x=> !p x
 | [],i,h=>by simp [fidx] at h
 | x::t,i,h=>by
  rw [fidx] at h ⊢;cases hp:p x with
  | true=>
   rw [cond_true,Int.toNat_natCast,Nat.sub_self];simp [hp]
  | false=>
   rw [hp,cond_false] at h;rw [cond_false];have ih:=KY p t (i+1) h;have gb:(i:Int)+1<=fidx p t (i+1):=by
    rcases kK p t (i+1) with h2 | h2 <;> omega
   obtain ⟨q,hq⟩:∃q,(fidx p t (i+1)).toNat - i=q+1:=⟨(fidx p t (i+1)).toNat - (i+1),by omega⟩;rw [show (fidx p t (i+1)).toNat - (i+1)=q by omega] at ih;rw [hq,List.filter_cons,hp,List.take_succ_cons,List.drop_succ_cons,ih];simp
theorem U1 {L d:aQ} (hL:L.length<=1048576) (hd:d.length<=1048576):au Pz oW [.sl 0 0 L.length false,.fn kb [.ptr 1 0]] [ij L,ct d] ⟨.sl 0 0 (dP L d).length false,[ij (dP L d),ct d],[0]⟩:=by
 have vf:=ZK L d hL hd;by_cases h0:fidx (cu d) L 0<0
 ·have hy:fidx (cu d) L 0= -1:=by
   rcases kK (cu d) L 0 with h2 | h2 <;> omega
  have em:dP L d=L:=by
   unfold dP;rw [List.filter_eq_self];intro x hx;cases hh:cu d x with
   | false=>rfl
   | true=>exact absurd ((sw (p:=cu d) (l:=L) (i:=0)).2 ⟨x,hx,hh⟩) ag
  rw [em];refine a6 (Kf L d L 0) ?_;simp only [sz];rintro y e;have e:y= -1:=by rw [<- hy];exact e
  subst e;rw [hy] at vf;exact ⟨vf,fun _=>aH,fun h=>absurd rfl h⟩
 ·obtain ⟨i0,vc⟩:∃i0:Nat,fidx (cu d) L 0=i0:=⟨(fidx (cu d) L 0).toNat,ag⟩;have bQ:=(uT (p:=cu d) (l:=L) ⟨0,0,[]⟩ ag).1;have hf:=KY (cu d) L 0 ag;rw [vc] at bQ hf;rw [Int.toNat_natCast] at bQ hf;obtain ⟨L',i',h1,h2,h3,h4⟩:=DY (n:=L.length) (d:=d) hL hd (L.length - (i0+1)) (i0+1) i0 L ag rfl ag;have em:dP L d=L'.take i':=by
   rw [h4];exact hf
  have hlen:(dP L d).length=i':=by rw [em,List.length_take];omega
  have w1:=cX i0;have L8:=bu.length L';have Ge:=bu.take L' i';rw [hlen,em];refine a6 (Kf L d L' (i':Nat)) ?_;simp only [sz,Int.toNat_natCast,Nat.zero_add];rintro y e;have e:y=(i0:Int):=by rw [<- vc];exact e
  subst e;rw [vc] at vf;refine ⟨vf,fun h=>ag,fun _ => ?_⟩;rintro _ -;rw [w1];refine ⟨⟨a8,.aV h1⟩,fun _=>⟨⟨ag,ag⟩,⟨ag,by rw [L8,h2,<- Nat.add_mul];exact Nat.mul_le_mul_right 3 ag⟩,⟨ag,ag⟩,?_⟩,fun h=>absurd h3 h⟩;rw [Ge];exact aH
theorem M0 (d e:aQ) (hd:d.length<=1048576) (he:e.length<=1048576):au Pz Ap [ab aj d,ab aj e] [] ⟨ab aj (dP d e),[],[]⟩:=by
 by_cases h0:d=[]
 ·subst h0;have vf:au Pz gJ [.dsl 0 true [],.fn kb [.ptr 0 0]] [ct e] ⟨.int .i64 (-1),[ct e],[]⟩:=by
   refine a6 (ZG e) ?_;simp only [sz];rintro _ -;refine ⟨⟨a8,.aV ?_⟩,aH⟩;refine bt (ZF e) ?_;exact ⟨rfl,rfl⟩
  have Xf:au Pz oW [.dsl 0 true [],.fn kb [.ptr 0 0]] [ct e] ⟨.dsl 0 false [],[ct e],[]⟩:=by
   refine a6 (UY e) ?_;simp only [sz];rintro _ -;exact ⟨vf,aH⟩
  refine a6 (ZZ e) ?_;simp only [sz];rintro _ -;refine ⟨JV,?_⟩;rintro _ -;exact ⟨Xf,aH⟩
 ·refine a6 (Z1 d e) ?_;simp only [sz];rintro _ -;refine ⟨TQ h0 hd,?_⟩;rintro y rfl;exact ⟨U1 hd he,aH⟩
theorem JD (a b:Int):(cI a b<0)↔a<b:=by
 unfold cI;by_cases h:a<b
 ·rw [decide_eq_true h,cond_true];simp [h]
 ·rw [decide_eq_false h,cond_false];by_cases h2:a>b
  ·rw [decide_eq_true h2,cond_true];simp [h]
  ·rw [decide_eq_false h2,cond_false];simp [h]
theorem JC (a b:Int):(cI a b<=0)↔a<=b:=by
 unfold cI;by_cases h:a<b
 ·rw [decide_eq_true h,cond_true];exact ⟨fun _=>ag,fun _=>ag⟩
 ·rw [decide_eq_false h,cond_false];by_cases h2:a>b
  ·rw [decide_eq_true h2,cond_true];exact ⟨fun h3=>ag,fun h3=>ag⟩
  ·rw [decide_eq_false h2,cond_false];exact ⟨fun _=>ag,fun _=>ag⟩
theorem TT {a b:At} (hk:a.kind=b.kind) (ha:a.t=[]) (hb:b.t=[]):kG a b=cI a.n b.n:=by
 have e:cI b.kind b.kind=0:=by unfold cI;simp
 unfold kG;rw [hk,ha,hb,e];simp only [orF];cases h:(cI a.n b.n != 0)
 ·have:cI a.n b.n=0:=dT;rw [this];rfl
 ·simp
def Gl (t:Tb) (r:Rw) (c:aZ):Bool:=
 bif c.func==1 then decide (dw t r c.aC=c.val)
 else bif c.func==2 then !decide (dw t r c.aC=c.val)
 else bif c.func==7 then (dP c.val (dw t r c.aC)).length==0
 else bif c.func==8 then (dP c.val (dw t r c.aC)).length==c.val.length
 else uj (dw t r c.aC) c
structure lP (t:Tb) (c:aZ):Prop where
 i:nu c
 n:kR t c=0
 s:fW t c=0
 m:ll c
 o:3<=c.func/\c.func<=6->c.val.length=1/\cq 1 c.val/\∃k,0<=bf t c.aC/\(bf t c.aC).toNat=k/\(t.av.getD k .zero).kind=1/\(t.av.getD k .zero).max=1
theorem Jt {a:At} (h:fV a=true) (hk:a.kind=1):a.t=[]:=by
 unfold fV at h;rw [show (a.kind==1)=true by simpa using hk,cond_true] at h;simp only [Bool.and_eq_true,List.isEmpty_iff] at h;exact h.2
theorem ag2 {t:Tb} {r:Rw} {c:aZ} (hc:lP t c) (hr:dh t r):Gl t r c=ej t r c:=by
 unfold Gl ej;cases h1:(c.func==1)
 ·cases h2:(c.func==2)
  ·cases h7:(c.func==7)
   ·cases h8:(c.func==8)
    ·simp only [cond_false];have hf:=hc.i.f;have h1:c.func≠1:=by simpa using h1
     have h2:c.func≠2:=by simpa using h2
     have h7:c.func≠7:=by simpa using h7
     have h8:c.func≠8:=by simpa using h8
     obtain ⟨hl,hv,k,vi,hk,XO,XP⟩:=hc.o (by omega);have ki:k<t.av.length:=by rw [<- hk];exact nI vi
     obtain ⟨hd,Xv⟩:=hr.d k ki;have e:dw t r c.aC=r.cells.getD k []:=by
      unfold dw;rw [decide_eq_false (show ¬bf t c.aC<0 by omega),cond_false,hk]
     have ma:=(xg Xv).2;rw [XP] at ma;rw [XO] at hd;rw [e];unfold uj;by_cases h0:(r.cells.getD k []).length=0
     ·rw [show ((r.cells.getD k []).length==0)=true by simpa using h0,cond_true,h0];rfl
     ·have Ww:(r.cells.getD k []).length=1:=by omega
      have ha:=hd.ok _ (bH ⟨0,0,[]⟩ (show 0<(r.cells.getD k []).length by omega));have hb:=hv.ok _ (bH ⟨0,0,[]⟩ (show 0<c.val.length by omega));rw [show ((r.cells.getD k []).length==0)=false by simpa using h0,cond_false,show (((r.cells.getD k []).length:Int) != 1)=false by rw [Ww];rfl,cond_false,
       TT (ha.2.trans hb.2.symm) (Jt ha.1 ha.2) (Jt hb.1 hb.2)]
      have g1:∀x y:Int,decide (cI x y<0)=decide (x<y):=fun x y=>decide_eq_decide.2 (JD x y);have g2:∀x y:Int,decide (cI x y<=0)=decide (x<=y):=fun x y=>decide_eq_decide.2 (JC x y);have g3:∀x y:Int,decide (cI x y>0)=decide (x>y):=fun x y=>decide_eq_decide.2 (by have:=JC x y;omega);have g4:∀x y:Int,decide (cI x y>=0)=decide (x>=y):=fun x y=>decide_eq_decide.2 (by have:=JD x y;omega);rw [g1,g2,g3,g4];rfl
    ·rfl
   ·rfl
  ·rfl
 ·rfl
theorem gE.X {t:Nat} (ht:t<3) {c:aZ} (h:gE (bD t) c):lP (bD t) c:=by
 have hG:=jM ht;have hu:bf (bD t) mz<0:=by
  have:t=0\/t=1\/t=2:=by omega
  rcases this with rfl | rfl | rfl <;> decide
 have XY:∀c∈(bD t).av,(c.kind=1->c.max=1)/\c.name.length<=40:=by
  have:t=0\/t=1\/t=2:=by omega
  rcases this with rfl | rfl | rfl <;> decide
 have L6:∀ {k:Int},cq k c.val->0<c.val.length->(c.val.getD 0 .zero).kind=k:=fun hd hl=>(hd.ok _ (bH At.zero hl)).2;rcases h.aC with ⟨h1,h2,h3,h4⟩ | ⟨cc,eC,h1,h2,h3⟩
 ·have dp:bC c.func 3 6=false:=by unfold bC;simp;omega
  have hk:=L6 h2 (by omega);refine ⟨⟨h.fn,⟨_,h2⟩,h.len,by rw [h1];decide⟩,?_,?_,h.s,fun ho=>absurd ho h4⟩
  ·unfold kR z8 kT;rw [h1,decide_eq_false (show ¬0<=bf (bD t) mz by omega),cond_false,show (mz==jw)=true by decide,cond_true,dp,hk,h3];rfl
  ·unfold fW;simp only;rw [h1,decide_eq_false (show ¬0<=bf (bD t) mz by omega),cond_false,show (mz != jw)=false by decide,Bool.and_false,cond_false,dp,hk];simp
 ·obtain ⟨br,dY⟩:=hG.pl cc eC;have hm:=XY cc eC;rw [<- h1] at br dY;have dp:bC c.func 3 6=true->cc.kind=1/\c.val.length=1:=fun hi=>h3 (by unfold bC at hi;simpa using hi);have hk:=fun hl=>L6 h2 hl;have hv:(decide (0<c.val.length)&&(c.val.getD 0 .zero).kind != cc.kind)=false:=by
   by_cases hl:0<c.val.length
   ·rw [hk hl];simp
   ·simp [hl]
  have ho:(bC c.func 3 6&&(cc.kind != 1||(cc.max != 1||(c.val.length:Int) != 1)))=false:=by
   cases hi:bC c.func 3 6
   ·rfl
   ·obtain ⟨e1,e2⟩:=dp hi;rw [e1,hm.1 e1,e2];rfl
  refine ⟨⟨h.fn,⟨_,h2⟩,h.len,by rw [h1];exact hm.2⟩,?_,?_,h.s,fun Wy => ?_⟩
  ·unfold kR z8 kT;rw [decide_eq_true br,cond_true,dY];have YJ:(decide ((c.val.length:Int)>0)&&(c.val.getD 0 .zero).kind != cc.kind)=false:=by
    rw [<- hv];congr 1;exact decide_eq_decide.2 (by omega)
   simp only [YJ,ho];rfl
  ·unfold fW;simp only;rw [decide_eq_true br,cond_true,decide_eq_false (show ¬bf (bD t) c.aC<0 by omega),Bool.false_and,cond_false,dY,hv,cond_false];have FP:(bC c.func 3 6&&(cc.kind != 1||cc.max != 1||c.val.length != 1))=false:=by
    cases hi:bC c.func 3 6
    ·rfl
    ·obtain ⟨e1,e2⟩:=dp hi;rw [e1,hm.1 e1,e2];rfl
   rw [FP];rfl
  ·obtain ⟨e1,e2⟩:=h3 Wy;rw [e1] at h2;exact ⟨e2,h2,_,br,rfl,by rw [dY];exact e1,by rw [dY];exact hm.1 e1⟩
abbrev nO:Nat:=129
abbrev Aq:Nat:=62
abbrev VI:Nat:=47
abbrev aQ7:Nat:=44
abbrev eR:Nat:=53
def gU (t:Tb):Option bM:=some (ao t,aQ7)
def ir (r:Rw):Option bM:=some (aq r,eR)
def PZ:cy:=fun f vs hp=>match vs,hp with
 | [.agg [.str cn,.int _ fn,.dsl _ _ va],.ptr 0 0,.ptr 1 0],[some ([.str tn,.dsl _ _ cc,.dsl _ _ uu,.bool q],_),some ([.int _ d,.dsl _ _ cs],_)]=>bif Nat.beq f nO then some ⟨!ej (bw tn cc uu q) ⟨d,af aG cs⟩ ⟨cn,fn,af aj va⟩,fun y=>⟨.bool y,[gU (bw tn cc uu q),ir ⟨d,af aG cs⟩],[]⟩⟩ else none
 | [.dsl _ _ ls,.fn g [.ptr 0 0,.ptr 1 0]],[some ([.str tn,.dsl _ _ cc,.dsl _ _ uu,.bool q],_),some ([.int _ d,.dsl _ _ cs],_)]=>
  bif Nat.beq f kI&&Nat.beq g nO then some ⟨fidx (fun c:aZ=> !ej (bw tn cc uu q) ⟨d,af aG cs⟩ c) (af aE ls) 0,fun y=>⟨.int .i64 y,[gU (bw tn cc uu q),ir ⟨d,af aG cs⟩],[]⟩⟩ else
  bif Nat.beq f uy&&Nat.beq g nO then some ⟨(af aE ls).any (fun c:aZ=> !ej (bw tn cc uu q) ⟨d,af aG cs⟩ c),fun y=>⟨.bool y,[gU (bw tn cc uu q),ir ⟨d,af aG cs⟩],[]⟩⟩ else none
 | [.agg [.str tn,.dsl _ _ cc,.dsl _ _ uu,.bool q],.agg [.int _ d,.dsl _ _ cs],.agg [.str cn,.int _ fn,.dsl _ _ va]],[]=>bif Nat.beq f ED then some ⟨ej (bw tn cc uu q) ⟨d,af aG cs⟩ ⟨cn,fn,af aj va⟩,fun y=>⟨.bool y,[],[]⟩⟩ else none
 | [.agg [.str tn,.dsl _ _ cc,.dsl _ _ uu,.bool q],.agg [.int _ d,.dsl _ _ cs],.dsl _ _ ls],[]=>bif Nat.beq f Aq then some ⟨dL (bw tn cc uu q) ⟨d,af aG cs⟩ (af aE ls),fun y=>⟨.bool y,[],[]⟩⟩ else none
 | [.dsl _ _ ds,.agg [.str cn,.int _ fn,.dsl _ _ va]],[]=>bif Nat.beq f Ek then some ⟨uj (af aj ds) ⟨cn,fn,af aj va⟩,fun y=>⟨.bool y,[],[]⟩⟩ else ri f vs hp
 | [.agg [.str tn,.dsl _ _ cc,.dsl _ _ uu,.bool q],.dsl _ _ rs,.dsl _ _ ls],[]=>bif Nat.beq f VI then some ⟨ew (bw tn cc uu q) (af aq rs) (af aE ls),fun y=>⟨ab aJ y,[],[]⟩⟩ else none
 | _,_=>ri f vs hp
def jR:Env:={P:=Pz,vw:=cj,res:=PZ}
theorem ag0 (t:Tb) (r:Rw) (c:aZ):fnT jR 0 ED [.agg (ao t),.agg (aq r),.agg (aE c)] []=(
 let q:=ae aj c.val;
 let q1:=af aj q;.bind (dw (bw t.name (ae aY t.av) (ae aJ t.uniq) t.root) (Rw.mk r.id (af aG (ae aG r.cells))) c.aC) fun y0=>
 let q2:=ae aj y0;
 let q3:=decide (af aj q2=af aj q);
 let q4:=af aj q2;.ai [au (Env.P jR) 125 [.agg (ao t),.agg (aq r),.str c.aC] [] (aF.mk (ab aj y0) [] [])] (bif c.func==1 then .bind q3 fun y1=> .ai [au (Env.P jR) 126 [ab aj y0,ab aj c.val] []
  (aF.mk (.bool y1) [] [])] (dz (.bool y1) [] []) else bif c.func==2 then .bind q3 fun y2=> .ai [au (Env.P jR) 126 [ab aj y0,ab aj c.val] [] (aF.mk (.bool y2) [] [])] (dz (.bool !y2) [] []) else bif c.func==7 then
  .bind (dP q1 q4) fun y3=> .ai [au (Env.P jR) 127 [ab aj c.val,ab aj y0] [] (aF.mk (ab aj y3) [] [])] (dz (.bool ((y3.length:Int)==0)) [] []) else bif c.func==8 then .bind (dP q1 q4) fun y4=> .ai
  [au (Env.P jR) 127 [ab aj c.val,ab aj y0] [] (aF.mk (ab aj y4) [] [])] (dz (.bool ((y4.length:Int)==(c.val.length:Int))) [] []) else .bind (uj q4 (aZ.mk c.aC c.func q1)) fun y5=> .ai [au (Env.P jR) 128
  [ab aj y0,.agg (aE c)] [] (aF.mk (.bool y5) [] [])] (dz (.bool y5) [] [])):T _):=fz
theorem af7 (t:Tb) (r:Rw) (c:aZ):fnT jR 0 nO [.agg (aE c),.ptr 0 0,.ptr 1 0] [gU t,ir r]=(
 .bind (ej (bw t.name (ae aY t.av) (ae aJ t.uniq) t.root) (Rw.mk r.id (af aG (ae aG r.cells))) (aZ.mk c.aC c.func (af aj (ae aj c.val)))) fun y0=> .ai [au (Env.P jR) 61 [.agg (ao t),
  .agg (aq r),.agg (aE c)] [] (aF.mk (.bool y0) [] [])] (dz (.bool !y0) [some ((ao t),44),some ((aq r),53)] []):T _):=fz
def yH (t:Tb) (r:Rw) (l:List aZ) (i:Int):St:=⟨ah 19 [(0,ab aE l),(1,.fn nO [.ptr 0 0,.ptr 1 0]),(7,.int .i64 l.length),(8,.int .i64 i)],[gU t,ir r],[]⟩
theorem Zi (t:Tb) (r:Rw) (l:List aZ) (i:Int):bp jR 2 kr (lp Pz kI 0) (yH t r l i)=(
 let q:=List.getD (af aE (ae aE l)) i.toNat (aZ.mk [] (0:Int) []);
 let q1:Hp:=[some ((ao t),44),some ((aq r),53)];
 let q2:=bw t.name (ae aY t.av) (ae aJ t.uniq) t.root;
 let q3:=Rw.mk r.id (af aG (ae aG r.cells));
 let q4:=(l.length:Int);bif decide (i<q4) then .ai [0<=i/\i<q4,td 3 i (ae aE l)=(aE q)] (.bind (!ej q2 q3 (aZ.mk (aZ.aC q) (aZ.func q) (af aj (ae aj (aZ.val q))))) fun y0=> .ai [au (Env.P
  jR) 129 [.agg (aE q),pp 0,pp 1] q1 (aF.mk (.bool y0) [some ((ao q2),44),some ((aq q3),53)] [])] (bif y0 then .done (Ex.ret,St.mk (ah 19 [(4,aa i)]) q1 []) else nz (ah 19 [(0,ab aE l),(1,.fn 129 [pp 0,pp
  1]),(7,aa q4),(8,aa (wz (i+1)))]) q1)) else .done (Ex.exit 0,St.mk (ah 19 []) q1 []):T _):=kz
def R9 (t:Tb) (r:Rw) (l:List aZ):Env:={P:=Pz,vw:=cj,res:=PZ,ls:=fun id _=>match id with
 | 0=>some ⟨fidx (fun c:aZ=> !ej t r c) l 0,fun y=> .two {keep:=[0,1,7,8]} (yH t r l 0) (decide (y<0)) (.exit 0) ⟨ah 19 [],[gU t,ir r],[]⟩ .ret ⟨ah 19 [(4,.int .i64 y)],[gU t,ir r],[]⟩⟩
 | _=>none}
theorem Zj (t:Tb) (r:Rw) (l:List aZ):fnT (R9 t r l) 0 kI [ab aE l,.fn nO [.ptr 0 0,.ptr 1 0]] [gU t,ir r]=(
 let q:Hp:=[some ((ao t),44),some ((aq r),53)];
 let q1:=ah 19 [(0,ab aE l),(1,.fn 129 [pp 0,pp 1]),(7,aa (l.length:Int)),(8,aa 0)];.bind (fidx (fun c=> !ej t r c) l 0) fun y0=> .ai [St.mk q1 q []=St.mk q1 q []] (bif decide (y0<0) then .ai [aN Pz
  2 (blk Pz kI 0) (St.mk q1 q []) (Ex.exit 0) (St.mk (ah 19 []) q [])] (dz (aa (-1:Int)) q []) else .ai [aN Pz 2 (blk Pz kI 0) (St.mk q1 q []) Ex.ret (St.mk (ah 19 [(4,aa y0)]) q [])] (dz (aa y0) q [])):T _):=fz
theorem Zg (t:Tb) (r:Rw) (l:List aZ):fnT jR 0 uy [ab aE l,.fn nO [.ptr 0 0,.ptr 1 0]] [gU t,ir r]=(
 let q:=bw t.name (ae aY t.av) (ae aJ t.uniq) t.root;
 let q1:=Rw.mk r.id (af aG (ae aG r.cells));
 let q2:Hp:=[some ((ao t),44),some ((aq r),53)];.bind (fidx (fun c=> !ej q q1 c) (af aE (ae aE l)) 0) fun y0=> .ai [au (Env.P jR) 187 [ab aE l,.fn 129 [pp 0,pp 1]] q2 (aF.mk (aa y0) [some
  ((ao q),44),some ((aq q1),53)] [])] (dz (.bool (decide (y0>=0))) q2 []):T _):=fz
theorem af4 (t:Tb) (r:Rw) (l:List aZ):fnT jR 0 Aq [.agg (ao t),.agg (aq r),ab aE l] []=(
 let q:=bw t.name (ae aY t.av) (ae aJ t.uniq) t.root;
 let q1:=Rw.mk r.id (af aG (ae aG r.cells));.bind (List.any (af aE (ae aE l)) fun c=> !ej q q1 c) fun y0=> .ai [au (Env.P jR) 108 [ab aE l,.fn 129 [pp 0,pp 1]] [some ((ao t),44),some
  ((aq r),53)] (aF.mk (.bool y0) [some ((ao q),44),some ((aq q1),53)] [])] (dz (.bool !y0) [] []):T _):=fz
theorem dh.rt {t:Tb} {r:Rw} (hG:lV t) (h:dh t r):iX t r:=⟨h.s hG,h.n,Nat.le_trans hG.n ag⟩
theorem ag1 {t:Tb} {r:Rw} {c:aZ} (hG:lV t) (hr:dh t r) (hc:lP t c):au Pz ED [.agg (ao t),.agg (aq r),.agg (aE c)] [] ⟨.bool (ej t r c),[],[]⟩:=by
 rw [<- ag2 hc hr];have mQ:=DP (hr.rt hG) c.aC;have cd:=(hr.rt hG).rU c.aC;have fN:=hc.i.l;refine a6 (ag0 t r c) ?_;unfold Gl;simp only [sz,bu.af,bP.af,cH];rintro y e;have e:y=dw t r c.aC:=e;rw [<- e] at mQ cd ⊢;refine ⟨mQ,fun h1 => ?_,fun h1=>⟨fun h2 => ?_,fun h2=>⟨fun h7 => ?_,fun h7=>⟨fun h8 => ?_,fun h8 => ?_⟩⟩⟩⟩
 ·rw [(cR:(c.func==1)=true),cond_true];rintro z rfl;exact ⟨D6 _ _ cd,aH⟩
 ·rw [(cR:(c.func==1)=false),cond_false,(iu:(c.func==2)=true),cond_true];rintro z rfl;exact ⟨D6 _ _ cd,aH⟩
 ·rw [(cR:(c.func==1)=false),cond_false,(iu:(c.func==2)=false),cond_false,show (c.func==7)=true by simpa using h7,cond_true];rintro z rfl;refine ⟨M0 _ _ ag cd,?_,rfl,by simp⟩;refine congrArg V.bool ?_;rw [Bool.eq_iff_iff,beq_iff_eq,beq_iff_eq];omega
 ·rw [(cR:(c.func==1)=false),cond_false,(iu:(c.func==2)=false),cond_false,show (c.func==7)=false by simpa using h7,cond_false,show (c.func==8)=true by simpa using h8,cond_true];rintro z rfl;refine ⟨M0 _ _ ag cd,?_,rfl,by simp⟩;refine congrArg V.bool ?_;rw [Bool.eq_iff_iff,beq_iff_eq,beq_iff_eq];omega
 ·rw [(cR:(c.func==1)=false),cond_false,(iu:(c.func==2)=false),cond_false,show (c.func==7)=false by simpa using h7,cond_false,show (c.func==8)=false by simpa using h8,cond_false];rintro z rfl;have hf:=hc.i.f;exact ⟨Un _ c (by have:=(hc.o ag).1;intro h0;rw [h0] at this;simp at this),aH⟩
theorem af8 {t:Tb} {r:Rw} {c:aZ} (hG:lV t) (hr:dh t r) (hc:lP t c):au Pz nO [.agg (aE c),.ptr 0 0,.ptr 1 0] [gU t,ir r] ⟨.bool (!ej t r c),[gU t,ir r],[]⟩:=by
 have hm:=ag1 hG hr hc;refine a6 (af7 t r c) ?_;simp only [sz,bu.af,bP.af,cH];rintro y rfl;exact ⟨hm,aH⟩
theorem Zk {t:Tb} {r:Rw} {l:List aZ} (hG:lV t) (hr:dh t r) (hc:∀c∈l,lP t c) (h:l.length<=1048576):
  (fidx (fun c:aZ=> !ej t r c) l 0<0->aT Tryz.prog 2 (lp Tryz.prog kI 0) (yH t r l 0) (.exit 0) ⟨ah 19 [],[gU t,ir r],[]⟩) /\
  (0<=fidx (fun c:aZ=> !ej t r c) l 0->aT Tryz.prog 2 (lp Tryz.prog kI 0) (yH t r l 0) .ret ⟨ah 19 [(4,.int .i64 (fidx (fun c:aZ=> !ej t r c) l 0))],[gU t,ir r],[]⟩):=by
 refine mN (E:=jR) (m:=2) (nf:=kr) (st:=fun i=>yH t r l (i:Nat)) (sr:=fun j=>⟨ah 19 [(4,.int .i64 j)],[gU t,ir r],[]⟩) (fun c:aZ=> !ej t r c) l ⟨[],0,[]⟩ follows named (by simp) (by simp) (fun i=>Zi t r l (i:Nat)) (fun i hi => ?_) ?_ l.length 0 (by simp)
 ·have aD:=cp.at l ⟨[],0,[]⟩ i 3 hi rfl
  have hm:=af8 hG hr (hc _ (bH ⟨[],0,[]⟩ hi))
  simp only [ba,T.WP,All,bh,bl,bg,Int.toNat_natCast,bu.af,bP.af,cp.af,cH,bW (show i<9223372036854775807 by omega)]
  refine ⟨fun _=>⟨⟨aB,aD⟩,?_⟩,fun h=>by omega⟩
  rintro y e
  have e:y= !ej t r (l.getD i ⟨[],0,[]⟩):=e
  rw [<- e] at hm ⊢
  refine ⟨hm,fun h => ?_,fun h => ?_⟩
  ·rw [h];rfl
  ·rw [h];rfl
 ·simp only [ba,T.WP,All,bh,bl,bg]
  exact ⟨fun h=>by omega,fun _=>rfl⟩
theorem Zl {t:Tb} {r:Rw} {l:List aZ} (hG:lV t) (hr:dh t r) (hc:∀c∈l,lP t c) (h:l.length<=1048576):au Pz kI [ab aE l,.fn nO [.ptr 0 0,.ptr 1 0]] [gU t,ir r] ⟨.int .i64 (fidx (fun c:aZ=> !ej t r c) l 0),[gU t,ir r],[]⟩:=by
 have hl:=Zk hG hr hc h;refine a6 (Zj t r l) ?_;simp only [sz];rintro y e;have e:y=fidx (fun c:aZ=> !ej t r c) l 0:=e;rw [<- e] at hl ⊢;refine ⟨a8,fun h0=>⟨.aV (hl.1 h0),?_⟩,fun h0=>⟨.aV (hl.2 ag),aH⟩⟩;have e1:y= -1:=by
  rcases kK (fun c:aZ=> !ej t r c) l 0 with h2 | h2 <;> omega
 rw [e1];exact aH
theorem Zh {t:Tb} {r:Rw} {l:List aZ} (hG:lV t) (hr:dh t r) (hc:∀c∈l,lP t c) (h:l.length<=1048576):au Pz uy [ab aE l,.fn nO [.ptr 0 0,.ptr 1 0]] [gU t,ir r] ⟨.bool (l.any fun c:aZ=> !ej t r c),[gU t,ir r],[]⟩:=by
 have hi:=Zl hG hr hc h;refine a6 (Zg t r l) ?_;simp only [sz,bP.af,cp.af,cH];rintro y rfl;refine ⟨hi,?_,rfl,by simp⟩;refine congrArg V.bool ?_;rw [Bool.eq_iff_iff,decide_eq_true_eq,List.any_eq_true];exact sw (p:=fun c:aZ=> !ej t r c)
theorem Js {α:Type} (f:α->Bool):∀l:List α,(!l.any fun c=> !f c)=l.all f
 | []=>rfl
 | x::l=>by rw [List.any_cons,List.all_cons,Bool.not_or,Js f l,Bool.not_not]
theorem af5 {t:Tb} {r:Rw} {l:List aZ} (hG:lV t) (hr:dh t r) (hc:∀c∈l,lP t c) (h:l.length<=1048576):au Pz Aq [.agg (ao t),.agg (aq r),ab aE l] [] ⟨.bool (dL t r l),[],[]⟩:=by
 have hi:=Zh hG hr hc h;refine a6 (af4 t r l) ?_;simp only [sz,bP.af,cp.af,cH];rintro y rfl;refine ⟨hi,?_,rfl,by simp⟩;exact congrArg V.bool (Js _ _)
abbrev uQ:Nat:=274
abbrev Ai:Nat:=241
abbrev se:Nat:=190
abbrev rZ:Nat:=114
abbrev nK:Nat:=49
abbrev Ea:Nat:=115
abbrev r8:Nat:=50
def tj:cy:=fun f vs hp=>match vs,hp with
 | [.int _ a,.int _ b,.int _ c],[]=>bif Nat.beq f mK then some ⟨bC a b c,fun y=>⟨.bool y,[],[]⟩⟩ else none
 | [.str _],[]=>bif Nat.beq f uQ then some ⟨(),fun _=>⟨.bool true,[],[]⟩⟩ else none
 | [.agg [.int _ _,.int _ _,.str _]],[]=>bif Nat.beq f Ai then some ⟨(),fun _=>⟨.bool true,[],[]⟩⟩ else none
 | [.agg [.int _ k,.int _ n,.str t],.agg [.int _ k',.int _ n',.str t']],[]=>bif Nat.beq f As then some ⟨kF ⟨k,n,t⟩ ⟨k',n',t'⟩,fun y=>⟨.int .i64 y,[],[]⟩⟩ else none
 | [.dsl _ _ _],[]=>bif Nat.beq f se then some ⟨(),fun _=>⟨.bool true,[],[]⟩⟩ else bif Nat.beq f r8 then some ⟨(),fun _=>⟨.bool true,[],[]⟩⟩ else none
 | [.agg [.str _,.int _ _,.int _ _,.int _ _,.int _ _,.int _ _,.str _,.bool _],.dsl _ _ _],[]=>bif Nat.beq f pa then some ⟨(),fun _=>⟨.int .i64 0,[],[]⟩⟩ else none
 | [.agg [.str _,.dsl _ _ _,.dsl _ _ _,.bool _],.agg [.int _ _,.dsl _ _ _]],[]=>bif Nat.beq f rZ then some ⟨(),fun _=>⟨.bool true,[],[]⟩⟩ else none
 | [.agg [.str _,.int _ _,.dsl _ _ _]],[]=>bif Nat.beq f Ea then some ⟨(),fun _=>⟨.bool true,[],[]⟩⟩ else none
 | [.agg [.dsl _ _ _],.agg [.dsl _ _ _,.int _ _]],[]=>bif Nat.beq f nK then some ⟨(),fun _=>⟨.bool true,[],[]⟩⟩ else none
 | [.agg [.dsl _ _ _]],[]=>bif Nat.beq f EU then some ⟨(),fun _=>⟨.bool true,[],[]⟩⟩ else none
 | [.agg [.str _,.dsl _ _ _,.dsl _ _ _,.bool _],.dsl _ _ _],[]=>bif Nat.beq f oU then some ⟨(),fun _=>⟨.int .i64 0,[],[]⟩⟩ else none
 | [.agg [.str tn,.dsl _ _ cc,.dsl _ _ uu,.bool q],.dsl _ _ rs,.dsl _ _ ls],[]=>bif Nat.beq f su then some ⟨ew (bw tn cc uu q) (af aq rs) (af aE ls),fun y=>⟨ab aJ y,[],[]⟩⟩ else none
 | _,_=>none
def EK:Env:={P:=Pz,vw:=cj,res:=tj}
def Ih (t:List UInt8) (i:Int):St:=⟨ah 23 [(0,.str t),(3,.int .i64 i)],[],[]⟩
def x1:Ex->Kp:=fun ex=>match ex with
 | .normal=>{keep:=[0,3]}
 | .ret=>{keep:=[2]}
 | _=>{keep:=[0]}
theorem Q6 (t:List UInt8) (i:Int):bp EK 0 x1 (lp Pz uQ 0) (Ih t i)=(
 let q:=(↑(UInt8.toNat (List.getD t i.toNat (0:UInt8))):Int);
 let q1:=(t.length:Int);
 let q2:=ah 23 [(2,.bool false)];bif decide (i<q1) then .ai [0<=i/\i<q1] (bif decide (q<32) then .done (Ex.ret,St.mk q2 [] []) else .ai [0<=i/\i<q1] (bif decide (q>126) then .done (Ex.ret,St.mk q2 [] []) else nz
  (ah 23 [(0,.str t),(3,aa (wz (i+1)))]) [])) else .done (Ex.exit 0,St.mk (ah 23 [(0,.str t)]) [] []):T _):=kz
def Dc:Env:={P:=Pz,vw:=cj,res:=tj,ls:=fun id s=>match id,s.tm.get 0 with
 | 0,.str t=>some ⟨(),fun _=> .one {keep:=[0,3]} (Ih t 0) (.exit 0) ⟨ah 23 [(0,.str t)],[],[]⟩⟩
 | _,_=>none}
theorem tqT (t:List UInt8):fnT Dc 0 uQ [.str t] []=(
 let q:=ah 23 [(0,.str t),(3,aa 0)];.bind PUnit.unit fun _=> .ai [St.mk q [] []=St.mk q [] [],aN (Env.P Dc) 0 (blk Pz uQ 0) (St.mk q [] []) (Ex.exit 0) (St.mk (ah 23 [(0,.str t)]) [] [])] (dz (.bool (decide
  ((t.length:Int)<=200))) [] []):T _):=fz
theorem zW (k n:Int) (t:List UInt8):fnT EK 0 Ai [.agg [.int .i64 k,.int .i64 n,.str t]] []=(
 let q:V:= .bool (t==[]);bif k==1 then .bind (bC n (-1000000000:Int) (1000000000:Int)) fun y0=> .ai [au (Env.P EK) 51 [aa n,aa (-1000000000:Int),aa 1000000000] [] (aF.mk (.bool y0) [] [])] (bif y0 then dz q [] []
  else dz (.bool false) [] []) else bif k==2 then bif n==0 then .bind PUnit.unit fun _=> .ai [au (Env.P EK) 274 [.str t] [] (aF.mk (.bool true) [] [])] (dz (.bool true) [] []) else dz (.bool false) [] [] else bif k==3 then
  .bind (bC n (0:Int) (1:Int)) fun y2=> .ai [au (Env.P EK) 51 [aa n,aa 0,aa 1] [] (aF.mk (.bool y2) [] [])] (bif y2 then dz q [] [] else dz (.bool false) [] []) else bif k==4 then .bind (bC n (1:Int) (1000000:Int))
  fun y3=> .ai [au (Env.P EK) 51 [aa n,aa 1,aa 1000000] [] (aF.mk (.bool y3) [] [])] (bif y3 then dz q [] [] else dz (.bool false) [] []) else dz (.bool false) [] []:T _):=kz
def HP (d:aQ) (i:Int):St:=⟨ah 51 [(0,ab aj d),(3,.int .i64 i)],[],[]⟩
theorem Km (d:aQ) (i:Int):bp EK 0 x1 (lp Tryz.prog se 0) (HP d i)=(
 let q3:=ae aj d;
 let q7:=af aj q3;
 let q5:=At.mk (0:Int) (0:Int) [];
 let q:=List.getD q7 (Int.toNat i) q5;
 let q8:=IntKind.wrap IntKind.i64 (i - 1);
 let q1:=List.getD q7 (Int.toNat q8) q5;
 let q6:=(↑d.length:Int);
 let q2:List Prop:=[0<=i/\i<q6,List.take 3 (List.drop (Int.toNat i*3) q3)=aj q];
 let q4:=ah 51 [(0,.dsl d.length false q3),(3,.int .i64 (IntKind.wrap IntKind.i64 (i+1)))];
 let q9:=ah 51 [(2,.bool false)];bif decide (i<q6) then .ai q2 (.bind PUnit.unit fun _=> .ai [au (Env.P EK) 241 [.agg (aj q)] [] (aF.mk (.bool true) [] [])] (.ai q2 (.ai [(0:Int)<=0/\(0:Int)<q6,List.take 3
  (List.drop 0 q3)=aj (List.getD q7 0 q5)] (bif At.kind q != At.kind (List.getD q7 0 q5) then .done (Ex.ret,St.mk q9 [] []) else bif decide (i>0) then .ai [0<=IntKind.wrap IntKind.i64 (i - 1)/\IntKind.wrap IntKind.i64 (i - 1)
  < q6,List.take 3 (List.drop (Int.toNat q8*3) q3)=aj q1] (.ai q2 (.bind (kF (At.mk (At.kind q1) (At.n q1) (At.t q1)) (At.mk (At.kind q) (At.n q) (At.t q))) fun y1=> .ai [au (Env.P EK) 239 [.agg (aj q1),.agg (aj
  q)] [] (aF.mk (.int .i64 y1) [] [])] (bif decide (y1>=0) then .done (Ex.ret,St.mk q9 [] []) else .done (Ex.normal,St.mk q4 [] [])))) else .done (Ex.normal,St.mk q4 [] []))))) else .done (Ex.exit 0,St.mk (ah 51 [(0,.dsl
  d.length false q3)]) [] []):T _):=by kernel_rfl
def CO:Env:={P:=Pz,vw:=cj,res:=tj,ls:=fun id s=>match id,s.tm.get 0 with
 | 0,.dsl _ _ cs=>some ⟨(),fun _=> .one {keep:=[0,3]} (HP (af aj cs) 0) (.exit 0) ⟨ah 51 [(0,ab aj (af aj cs))],[],[]⟩⟩
 | _,_=>none}
theorem Vi (d:aQ):fnT CO 0 se [ab aj d] []=(
 let q:=af aj (ae aj d);
 let q1:=ah 51 [(0,ab aj q),(3,aa 0)];bif decide ((d.length:Int)>4096) then dz (.bool false) [] [] else .bind PUnit.unit fun _=> .ai [St.mk (ah 51 [(0,ab aj d),(3,aa 0)]) [] []=St.mk q1 [] [],aN
  (Env.P CO) 0 (blk Pz se 0) (St.mk q1 [] []) (Ex.exit 0) (St.mk (ah 51 [(0,ab aj q)]) [] [])] (dz (.bool (decide ((↑(List.length q):Int)<=8))) [] []):T _):=kz
def Ic (t:Tb) (r:Rw) (i:Int):St:=⟨ah 47 [(2,.ptr 0 0),(3,.ptr 1 0),(5,.int .i64 i)],[some (ao t,gp),some (aq r,eb)],[]⟩
def ap6:Ex->Kp:=fun ex=>match ex with
 | .normal=>{keep:=[2,3,5]}
 | .ret=>{keep:=[4]}
 | _=>{keep:=[]}
theorem Qc (t:Tb) (r:Rw) (i:Int):bp EK 0 ap6 (lp Pz rZ 0) (Ic t r i)=(
 let q:=List.getD (af aG (ae aG r.cells)) i.toNat [];
 let q1:=List.getD (af aY (ae aY t.av)) i.toNat (aL.mk [] (0:Int) (0:Int) (0:Int) (0:Int) (0:Int) [] false);
 let q2:List Prop:=[0<=i/\i<(r.cells.length:Int),td 1 i (ae aG r.cells)=[ab aj q]];bif decide (i<(r.cells.length:Int)) then .ai q2 (.bind PUnit.unit fun _=> .ai [au (Env.P EK) 190 [ab aj q] []
  (aF.mk (.bool true) [] [])] (.ai [0<=i/\i<(t.av.length:Int),td 8 i (ae aY t.av)=aY q1] (.ai q2 (.bind PUnit.unit fun _=> .ai [au (Env.P EK) 191 [.agg (aY q1),ab aj q] [] (aF.mk (aa 0) []
  [])] (nz (ah 47 [(2,pp 0),(3,pp 1),(5,aa (wz (i+1)))]) [some ((ao t),44),some ((aq r),53)]))))) else .done (Ex.exit 0,St.mk (ah 47 []) [] []):T _):=kz
def Sq (t:Tb) (r:Rw):Env:={P:=Pz,vw:=cj,res:=tj,ls:=fun id _=>match id with
 | 0=>some ⟨(),fun _=> .one {keep:=[2,3,5]} (Ic t r 0) (.exit 0) ⟨ah 47 [],[],[]⟩⟩
 | _=>none}
theorem rqT (t:Tb) (r:Rw):fnT (Sq t r) 0 rZ [.agg (ao t),.agg (aq r)] []=(
 let q:=ah 47 [(2,pp 0),(3,pp 1),(5,aa 0)];
 let q1:Hp:=[some ((ao t),44),some ((aq r),53)];.bind (bC r.id (1:Int) (1000000:Int)) fun y0=>cz 51 [aa r.id,aa 1,aa 1000000] [] (.bool y0) [] [] (bif !y0 then dz (.bool false) [] [] else bif (r.cells.length:
  Int) != (t.av.length:Int) then dz (.bool false) [] [] else .bind PUnit.unit fun _=> .ai [St.mk q q1 []=St.mk q q1 [],aN Pz 0 (blk Pz rZ 0) (St.mk q q1 []) (Ex.exit 0) (St.mk (ah 47 []) [] [])] (dz (.bool true) []
  [])):T _):=fz
def fE (S:aO):Option bM:=some ([ab ao S],25)
def tt (x:aA):Option bM:=some (aM x,29)
def HR (S:aO) (x:aA) (i k:Int):St:=⟨ah 87 [(2,.ptr 0 0),(3,.ptr 1 0),(5,.int .i64 i),(6,.int .i64 k)],[fE S,tt x],[]⟩
def am4:Ex->Kp:=fun ex=>match ex with
 | .normal=>{keep:=[2,3,5,6]}
 | .ret=>{keep:=[4]}
 | _=>{keep:=[2,3,5]}
def yz (S:aO) (x:aA) (i:Int):St:=⟨ah 87 [(2,.ptr 0 0),(3,.ptr 1 0),(5,.int .i64 i)],[fE S,tt x],[]⟩
def am3:Ex->Kp:=fun ex=>match ex with
 | .normal=>{keep:=[2,3,5]}
 | .ret=>{keep:=[4]}
 | _=>{keep:=[]}
theorem Lh (S:aO) (x:aA) (i k:Int):bp EK 0 am4 (lp Tryz.prog nK 2) (HR S x i k)=(
 let q:=List.getD (af az (ae az x.ak)) i.toNat [];
 let q8:=ae aq q;
 let q1:=List.getD (af aq q8) k.toNat (Rw.mk (0:Int) []);
 let q2:List Prop:=[0<=i/\i<(↑x.ak.length:Int),List.take 1 (List.drop (i.toNat*1) (ae az x.ak))=[ab aq q]];
 let q9:=IntKind.i64.wrap (k - 1);
 let q3:=List.getD (af aq q8) q9.toNat (Rw.mk (0:Int) []);
 let q4:=ah 87 [(2,.ptr 0 0),(3,.ptr 1 0),(5,aa i),(6,aa (IntKind.i64.wrap (k+1)))];
 let q5:=List.getD (af ao (ae ao S)) i.toNat (Tb.mk [] [] [] false);
 let q6:=(↑q.length:Int);
 let q7:List V:=[aa q1.id,ab aG q1.cells];.ai q2 (bif decide (k<q6) then .ai q2 (.ai [0<=k/\k<q6,List.take 2 (List.drop (k.toNat*2) q8)=q7] (.ai [0<=i/\i<(↑S.length:Int),List.take 4 (List.drop
  (i.toNat*4) (ae ao S))=ao q5] (.bind PUnit.unit fun _=> .ai [au (Env.P EK) 114 [.agg (ao q5),.agg q7] [] (aF.mk (.bool true) [] [])] (bif decide (q1.id>=x.next) then .done (Ex.ret,St.mk (ah 87 [(4,.bool
  false)]) [] []) else bif decide (k>0) then .ai q2 (.ai [0<=IntKind.i64.wrap (k - 1)/\IntKind.i64.wrap (k - 1)<q6,List.take 2 (List.drop (q9.toNat*2) q8)=[aa q3.id,ab aG q3.cells]] (bif decide (q3.id>=q1.id) then
  .done (Ex.ret,St.mk (ah 87 [(4,.bool false)]) [] []) else .done (Ex.normal,St.mk q4 [fE S,some ((aM x),29)] []))) else .done (Ex.normal,St.mk q4 [fE S,some ((aM x),29)] []))))) else .done (Ex.exit 2,St.mk (ah 87
  [(2,.ptr 0 0),(3,.ptr 1 0),(5,aa i)]) [fE S,some ((aM x),29)] [])):T _):=(T.force_eq _).symm.trans (by kernel_rfl)
def CT (S:aO) (x:aA):Env:={P:=Pz,vw:=cj,res:=tj,ls:=fun id s=>match id,s.tm.get 5 with
 | 2,.int _ i=>some ⟨(),fun _=> .one {keep:=[2,3,5,6]} (HR S x i 0) (.exit 2) (yz S x i)⟩
 | _,_=>none}
theorem K8 (S:aO) (x:aA) (i:Int):bp (CT S x) 0 am3 (lp Pz nK 0) (yz S x i)=(
 let q:=ah 87 [(2,pp 0),(3,pp 1),(5,aa i),(6,aa 0)];
 let q1:=List.getD (af az (ae az x.ak)) i.toNat [];bif decide (i<(x.ak.length:Int)) then .ai [0<=i/\i<(x.ak.length:Int),td 1 i (ae az x.ak)=[ab aq q1]] (bif decide ((↑(List.length q1):Int)
  > 12) then .done (Ex.ret,St.mk (ah 87 [(4,.bool false)]) [] []) else .bind PUnit.unit fun _=> .ai [St.mk q [fE S,some ((aM x),29)] []=St.mk q [fE S,some ((aM x),29)] [],aN Pz 0 (blk Pz nK 2) (St.mk q
  [fE S,some ((aM x),29)] []) (Ex.exit 2) (St.mk (ah 87 [(2,pp 0),(3,pp 1),(5,aa i)]) [fE S,some ((aM x),29)] [])] (nz (ah 87 [(2,pp 0),(3,pp 1),(5,aa (wz (i+1)))]) [fE S,some ((aM x),29)])) else
  .done (Ex.exit 0,St.mk (ah 87 []) [] []):T _):=kz
def R5 (S:aO) (x:aA):Env:={P:=Pz,vw:=cj,res:=tj,ls:=fun id _=>match id with
 | 0=>some ⟨(),fun _=> .one {keep:=[2,3,5]} (yz S x 0) (.exit 0) ⟨ah 87 [],[],[]⟩⟩
 | _=>none}
theorem V2 (S:aO) (x:aA):fnT (R5 S x) 0 nK [.agg [ab ao S],.agg (aM x)] []=(
 let q:=ah 87 [(2,pp 0),(3,pp 1),(5,aa 0)];bif (x.ak.length:Int) != (S.length:Int) then dz (.bool false) [] [] else .bind (bC x.next (1:Int) (1000000:Int)) fun y0=>cz 51 [aa x.next,aa 1,aa 1000000] [] (.bool
  y0) [] [] (bif !y0 then dz (.bool false) [] [] else .bind PUnit.unit fun _=> .ai [St.mk q [fE S,some ((aM x),29)] []=St.mk q [fE S,some ((aM x),29)] [],aN Pz 0 (blk Pz nK 0) (St.mk q [fE S,some ((aM
  x),29)] []) (Ex.exit 0) (St.mk (ah 87 []) [] [])] (dz (.bool true) [] [])):T _):=kz
theorem at5 (c:aZ):fnT EK 0 Ea [.agg (aE c)] []=(
 .bind (bC c.func (1:Int) (8:Int)) fun y0=> .ai [au (Env.P EK) 51 [aa c.func,aa 1,aa 8] [] (aF.mk (.bool y0) [] [])] (bif y0 then .bind PUnit.unit fun _=> .ai [au (Env.P EK) 190 [ab aj c.val] [] (aF.mk (.bool
  true) [] [])] (dz (.bool (decide ((c.aC.length:Int)<=40))) [] []) else dz (.bool false) [] []):T _):=fz
def HY (l:List aZ) (i:Int):St:=⟨ah 19 [(0,ab aE l),(3,.int .i64 i)],[],[]⟩
theorem M5 (l:List aZ) (i:Int):bp EK 0 x1 (lp Pz r8 0) (HY l i)=(
 let q:=List.getD (af aE (ae aE l)) i.toNat (aZ.mk [] (0:Int) []);bif decide (i<(l.length:Int)) then .ai [0<=i/\i<(l.length:Int),td 3 i (ae aE l)=aE q] (.bind PUnit.unit fun _=> .ai [au
  (Env.P EK) 115 [.agg (aE q)] [] (aF.mk (.bool true) [] [])] (nz (ah 19 [(0,ab aE l),(3,aa (wz (i+1)))]) [])) else .done (Ex.exit 0,St.mk (ah 19 [(0,ab aE l)]) [] []):T _):=kz
def C5:Env:={P:=Pz,vw:=cj,res:=tj,ls:=fun id s=>match id,s.tm.get 0 with
 | 0,.dsl _ _ cs=>some ⟨(),fun _=> .one {keep:=[0,3]} (HY (af aE cs) 0) (.exit 0) ⟨ah 19 [(0,ab aE (af aE cs))],[],[]⟩⟩
 | _,_=>none}
theorem Z4 (l:List aZ):fnT C5 0 r8 [ab aE l] []=(
 let q:=af aE (ae aE l);
 let q1:=ah 19 [(0,ab aE q),(3,aa 0)];.bind PUnit.unit fun _=> .ai [St.mk (ah 19 [(0,ab aE l),(3,aa 0)]) [] []=St.mk q1 [] [],aN (Env.P C5) 0 (blk Pz r8 0) (St.mk q1 [] []) (Ex.exit 0) (St.mk
  (ah 19 [(0,ab aE q)]) [] [])] (dz (.bool (decide ((↑(List.length q):Int)<=8))) [] []):T _):=fz
theorem Pu {α:Type} {R:α->α->Prop} {l:List α} (h:l.Pairwise R) (d:α) {i:Nat} (h1:1<=i) (h2:i<l.length):R (l.getD (i - 1) d) (l.getD i d):=by
 have:=List.pairwise_iff_getElem.1 h (i - 1) i (by omega) h2 (by omega);rw [List.getD_eq_getElem?_getD,List.getD_eq_getElem?_getD,List.getElem?_eq_getElem h2,List.getElem?_eq_getElem (show i - 1<l.length by omega)];exact this
theorem Q7 (t:List UInt8) (ht:t.length<=4294967296) (hp:∀i,i<t.length->Hf (t.getD i 0)=true):∀(m i:Nat),i+m=t.length ->
  aT Tryz.prog 0 (lp Tryz.prog uQ 0) (Ih t i) (.exit 0) ⟨ah 23 [(0,.str t)],[],[]⟩
 | 0,i,h=>by
  have h:i=t.length:=h;subst h;refine bZ (E:=EK) follows named (Q6 t (t.length:Nat)) ?_;simp only [ba,T.WP,All,bh,bl,bg];exact ⟨fun h=>by omega,fun _=>⟨rfl,rfl⟩⟩
 | m+1,i,h=>by
  have ih:=Q7 t ht hp m (i+1) (by omega);have hc:=hp i (by omega);have hb:32<=(t.getD i 0).toNat/\(t.getD i 0).toNat<=126:=by
   unfold Hf at hc;rw [Bool.and_eq_true,decide_eq_true_eq,decide_eq_true_eq] at hc;exact hc
  refine bZ (E:=EK) follows named (Q6 t (i:Nat)) ?_;simp only [ba,T.WP,All,bh,bl,bg,Int.toNat_natCast,bW (show i<9223372036854775807 by omega)];exact ⟨fun _=>⟨by omega,fun h=>by omega,fun _=>⟨by omega,fun h=>by omega,fun _=>ih⟩⟩,fun h=>by omega⟩
theorem aS9 {t:List UInt8} (h:qX t=true):au Tryz.prog uQ [.str t] [] ⟨.bool true,[],[]⟩:=by
 have e:qX t=(t.all Hf&&decide (t.length<=200)):=rfl;rw [e,Bool.and_eq_true,List.all_eq_true,decide_eq_true_eq] at h;have hl:=Q7 t (by omega) (fun i hi=>h.1 _ (bH 0 hi)) t.length 0 (by omega);refine iG (E:=Dc) follows named (tqT t) (by simp) ?_;simp only [T.WP,All,bg];rintro _ -;refine ⟨⟨a8,.aV hl⟩,?_⟩;rw [decide_eq_true (show (t.length:Int)<=200 by omega)];exact ⟨rfl,rfl,by simp⟩
theorem S1 {a:At} (h:fV a=true):au Pz Ai [.agg (aj a)] [] ⟨.bool true,[],[]⟩:=by
 obtain ⟨k,n,t⟩:=a;show au Pz Ai [.agg [.int .i64 k,.int .i64 n,.str t]] [] _;unfold fV at h;simp only at h;by_cases k1:k=1
 ·subst k1;rw [show ((1:Int)==1)=true by decide,cond_true,Bool.and_eq_true,List.isEmpty_iff] at h;obtain ⟨hn,rfl⟩:=h;refine a6 (zW 1 n []) ?_;simp only [sz];refine ⟨fun _ => ?_,fun h=>absurd trivial h⟩;rintro y e;have hy:y=true:=by rw [e];exact hn
  exact ⟨by rw [e];exact fB _ _ _,fun _=>aH,fun h=>by rw [hy] at h;cases h⟩
 ·rw [show (k==1)=false by simpa using k1,cond_false] at h;by_cases k2:k=2
  ·subst k2;rw [show ((2:Int)==2)=true by decide,cond_true,Bool.and_eq_true,beq_iff_eq] at h;obtain ⟨rfl,ht⟩:=h;refine a6 (zW 2 0 t) ?_;simp only [sz];refine ⟨fun h=>absurd h (by decide),fun _=>⟨fun _=>⟨fun _ => ?_,fun h=>absurd trivial h⟩,fun h=>absurd trivial h⟩⟩;rintro _ -;exact ⟨aS9 ht,aH⟩
  ·rw [show (k==2)=false by simpa using k2,cond_false] at h;by_cases k3:k=3
   ·subst k3;rw [show ((3:Int)==3)=true by decide,cond_true,Bool.and_eq_true,List.isEmpty_iff] at h;obtain ⟨hn,rfl⟩:=h;refine a6 (zW 3 n []) ?_;simp only [sz];refine ⟨fun h=>absurd h (by decide),fun _=>⟨fun h=>absurd h (by decide),fun _=>⟨fun _ => ?_,fun h=>absurd trivial h⟩⟩⟩;rintro y e;have hy:y=true:=by rw [e];exact hn
    exact ⟨by rw [e];exact fB _ _ _,fun _=>aH,fun h=>by rw [hy] at h;cases h⟩
   ·rw [show (k==3)=false by simpa using k3,cond_false] at h;by_cases k4:k=4
    ·subst k4;rw [show ((4:Int)==4)=true by decide,cond_true,Bool.and_eq_true,List.isEmpty_iff] at h;obtain ⟨hn,rfl⟩:=h;refine a6 (zW 4 n []) ?_;simp only [sz];refine ⟨fun h=>absurd h (by decide),fun _=>⟨fun h=>absurd h (by decide),fun _=>⟨fun h=>absurd h (by decide),fun _=>⟨fun _ => ?_,fun h=>absurd trivial h⟩⟩⟩⟩;rintro y e;have hy:y=true:=by rw [e];exact hn
     exact ⟨by rw [e];exact fB _ _ _,fun _=>aH,fun h=>by rw [hy] at h;cases h⟩
    ·rw [show (k==4)=false by simpa using k4,cond_false] at h;cases h
theorem Kn {k:Int} {d:aQ} (h:cq k d) (hl:d.length<=1048576):∀(m i:Nat),i+m=d.length->aT Tryz.prog 0 (lp Tryz.prog se 0) (HP d i) (.exit 0) ⟨ah 51 [(0,ab aj d)],[],[]⟩
 | 0,i,hi=>by
  have hi:i=d.length:=hi
  subst hi
  refine bZ (E:=EK) follows named (Km d (d.length:Nat)) ?_
  simp only [ba,T.WP,All,bh,bl,bg]
  exact ⟨fun h=>by omega,fun _=>⟨rfl,rfl⟩⟩
 | m+1,i,hi=>by
  have bA:i<d.length:=by omega
  have aD:=bu.at d ⟨0,0,[]⟩ i 3 bA rfl
  have xo:=bu.at d ⟨0,0,[]⟩ 0 3 (by omega) rfl
  have eW:=h.ok _ (bH ⟨0,0,[]⟩ bA)
  have FT:=h.ok _ (bH ⟨0,0,[]⟩ (show 0<d.length by omega))
  have w1:IntKind.i64.wrap ((i:Int)+1)=((i+1:Nat):Int):=bW (by omega)
  have ih:=Kn h hl m (i+1) (by omega)
  rw [Nat.zero_mul] at xo
  refine bZ (E:=EK) follows named (Km d (i:Nat)) ?_
  simp only [ba,T.WP,All,bh,bl,bg,w1,bu.af,Int.toNat_natCast]
  refine ⟨fun _=>⟨⟨aB,aD⟩,?_⟩,fun h=>by omega⟩
  rintro _ -
  refine ⟨S1 eW.1,⟨aB,aD⟩,⟨aB,xo⟩,fun hn => ?_,fun _=>⟨fun hp => ?_,fun _=>ih⟩⟩
  ·exfalso
   rw [eW.2,FT.2] at hn
   simp at hn
  ·have LW:1<=i:=by omega
   have w2:IntKind.i64.wrap ((i:Int) - 1)=((i - 1:Nat):Int):=by rw [du (by omega)];omega
   have cB:=bu.at d ⟨0,0,[]⟩ (i - 1) 3 (by omega) rfl
   have bQ:=(DA _ _).1.2 (Pu h.pw ⟨0,0,[]⟩ LW bA)
   rw [w2]
   simp only [Int.toNat_natCast]
   refine ⟨⟨by omega,cB⟩,⟨aB,aD⟩,?_⟩
   rintro y e
   have e:y=kF (d.getD (i - 1) ⟨0,0,[]⟩) (d.getD i ⟨0,0,[]⟩):=e
   rw [<- e] at bQ
   exact ⟨by rw [e];exact OF _ _,fun h=>by omega,fun _=>ih⟩
theorem Aa {k:Int} {d:aQ} (h:cq k d) (hl:d.length<=8):au Tryz.prog se [ab aj d] [] ⟨.bool true,[],[]⟩:=by
 have dy:=Kn h (by omega) d.length 0 (by omega);refine iG (E:=CO) follows named (Vi d) (by simp) ?_;simp only [ba,T.WP,All,bh,bl,bg,bu.af];refine ⟨fun h=>by omega,fun _ => ?_⟩;rintro _ -;refine ⟨⟨a8,.aV dy⟩,?_⟩;rw [decide_eq_true (show (d.length:Int)<=8 by omega)];exact ⟨rfl,rfl,by simp⟩
theorem Qd {t:Tb} {r:Rw} (hr:dh t r) (hn:t.av.length<=1048576) (hm:∀c∈t.av,c.max<=8):∀(k i:Nat),i+k=r.cells.length->aT Pz 0 (lp Pz rZ 0) (Ic t r i) (.exit 0) ⟨ah 47 [],[],[]⟩
 | 0,i,hi=>by
  have hi:i=r.cells.length:=hi;subst hi;refine bt (Qc t r (r.cells.length:Nat)) ?_;simp only [sz];exact ⟨fun h=>ag,fun _=>⟨rfl,rfl⟩⟩
 | k+1,i,hi=>by
  have bA:i<r.cells.length:=ag;have sO:i<t.av.length:=by rw [<- hr.n];exact bA
  have aD:=bP.at r.cells [] i 1 bA rfl;have sH:=db.at t.av ⟨[],0,0,0,0,0,[],false⟩ i 8 sO rfl;have w1:wz ((i:Int)+1)=((i+1:Nat):Int):=bW (by rw [hr.n] at bA;omega);have ih:=Qd hr hn hm k (i+1) ag;obtain ⟨hd,hf⟩:=hr.d i sO;have hlen:(r.cells.getD i []).length<=8:=by
   have h1:=(xg hf).2;have h2:=hm _ (bH aL.zero sO);omega
  have jF:=E8 (t.av.getD i aL.zero) (r.cells.getD i []) ag;rw [hf] at jF;refine bt (Qc t r (i:Nat)) ?_;simp only [sz,w1,bP.af,db.af,Int.toNat_natCast];refine ⟨fun _=>⟨⟨aB,aD⟩,?_⟩,fun h=>ag⟩;rintro _ -;refine ⟨Aa hd hlen,⟨aB,sH⟩,⟨aB,aD⟩,?_⟩;rintro _ -;exact ⟨jF,ih⟩
theorem aH4 {t:Tb} {r:Rw} (hr:dh t r) (hn:t.av.length<=1048576) (hm:∀c∈t.av,c.max<=8) (hi:1<=r.id/\r.id<=1000000):au Pz rZ [.agg (ao t),.agg (aq r)] [] ⟨.bool true,[],[]⟩:=by
 refine a6 (rqT t r) ?_;simp only [sz];rintro y e;have hy:y=true:=by rw [e];unfold bC;rw [Bool.and_eq_true,decide_eq_true_eq,decide_eq_true_eq];exact hi
 refine ⟨by rw [e];exact fB _ _ _,fun h=>by rw [hy] at h;simp at h,fun _=>⟨fun h=>by rw [hr.n] at h;simp at h,fun _ => ?_⟩⟩;rintro _ -;exact ⟨⟨a8,.aV (Qd hr hn hm r.cells.length 0 ag)⟩,aH⟩
theorem Li {S:aO} {x:aA} {i:Nat} (LY:i<S.length) (bA:i<x.ak.length) (hx:x.next<=1000000) (hp:iW (x.ak.getD i [])) (hr:∀r∈x.ak.getD i [],1<=r.id/\r.id<x.next) (hc:∀r∈x.ak.getD i [],au Tryz.prog rZ [.agg (ao (S.getD i .zero)),.agg (aq r)] [] ⟨.bool true,[],[]⟩) (hl:(x.ak.getD i []).length<=1048576):∀(k j:Nat),j+k=(x.ak.getD i []).length ->
  aT Tryz.prog 0 (lp Tryz.prog nK 2) (HR S x i j) (.exit 2) (yz S x i)
 | 0,j,hj=>by
  have hj:j=(x.ak.getD i []).length:=hj
  subst hj
  have xr:=bB.at x.ak [] i 1 bA rfl
  refine bt (Lh S x (i:Nat) ((x.ak.getD i []).length:Nat)) ?_
  simp only [ba,T.WP,All,bh,bl,bg,bB.af,Int.toNat_natCast]
  exact ⟨⟨aB,xr⟩,fun h=>ag,fun _=>⟨rfl,rfl⟩⟩
 | k+1,j,hj=>by
  have iK:j<(x.ak.getD i []).length:=ag
  have xr:=bB.at x.ak [] i 1 bA rfl
  have aD:=bI.at (x.ak.getD i []) ⟨0,[]⟩ j 2 iK rfl
  have eU:=bN.at S ⟨[],[],[],false⟩ i 4 LY rfl
  have w1:IntKind.i64.wrap ((j:Int)+1)=((j+1:Nat):Int):=bW ag
  have hm:=bH (⟨0,[]⟩:Rw) iK
  have FZ:=hr _ hm
  have ih:=Li LY bA hx hp hr hc hl k (j+1) ag
  refine bt (Lh S x (i:Nat) (j:Nat)) ?_
  simp only [ba,T.WP,All,bh,bl,bg,w1,bB.af,bI.af,bN.af,Int.toNat_natCast]
  refine ⟨⟨aB,xr⟩,fun _=>⟨⟨aB,xr⟩,⟨aB,aD⟩,⟨aB,eU⟩,?_⟩,fun h=>ag⟩
  rintro _ -
  refine ⟨hc _ hm,fun h=>ag,fun _=>⟨fun aW => ?_,fun _=>ih⟩⟩
  have XG:1<=j:=ag
  have w2:IntKind.i64.wrap ((j:Int) - 1)=((j - 1:Nat):Int):=by rw [du ag];omega
  have cB:=bI.at (x.ak.getD i []) ⟨0,[]⟩ (j - 1) 2 ag rfl
  have bQ:=Pu hp ⟨0,[]⟩ XG iK
  rw [w2]
  simp only [Int.toNat_natCast]
  exact ⟨⟨aB,xr⟩,⟨ag,cB⟩,fun h=>ag,fun _=>ih⟩
theorem K9 {x:aA} (hx:iT x) (hn:x.next<=1000000):∀(k j:Nat),j+k=3->aT Tryz.prog 0 (lp Tryz.prog nK 0) (yz aI x j) (.exit 0) ⟨ah 87 [],[],[]⟩
 | 0,j,hj=>by
  have h3:=hx.2.n;have hj:j=3:=hj;subst hj;refine bZ (E:=CT aI x) follows named (K8 aI x ((3:Nat):Int)) ?_;simp only [ba,T.WP,All,bh,bl,bg,h3];exact ⟨fun h=>by omega,fun _=>⟨rfl,rfl⟩⟩
 | k+1,j,hj=>by
  have h3:=hx.2.n;have iK:j<x.ak.length:=by omega
  have hR:=hx.2.r j (by omega);have aD:=bB.at x.ak [] j 1 iK rfl;have w1:IntKind.i64.wrap ((j:Int)+1)=((j+1:Nat):Int):=bW (by omega);have ih:=K9 hx hn k (j+1) (by omega);have hG:=jM (show j<3 by omega);have aW3:=hR.n;have dp:=Li (S:=aI) (x:=x) (i:=j) (by show j<3;omega) iK hn hR.p hR.i (fun r hr=>aH4 (hR.c r hr) (Nat.le_trans hG.n (by omega)) hG.mx (by have:=hR.i r hr;omega)) (by omega) (x.ak.getD j []).length 0 (by omega);refine bZ (E:=CT aI x) follows named (K8 aI x (j:Nat)) ?_;simp only [ba,T.WP,All,bh,bl,bg,w1,bB.af,Int.toNat_natCast];refine ⟨fun _=>⟨⟨aB,aD⟩,fun h=>by omega,fun _ => ?_⟩,fun h=>by omega⟩;rintro _ -;exact ⟨⟨a8,.aV dp⟩,ih⟩
theorem V7 {x:aA} (hx:iT x) (hn:x.next<=1000000):au Pz nK [.agg [ab ao aI],.agg (aM x)] [] ⟨.bool true,[],[]⟩:=by
 have h3:=hx.2.n;have h1:=hx.1;refine a6 (V2 aI x) ?_;simp only [sz];refine ⟨fun h=>by rw [h3] at h;exact absurd h (by decide),fun _ => ?_⟩;rintro y e;have hy:y=true:=by rw [e];unfold bC;rw [Bool.and_eq_true,decide_eq_true_eq,decide_eq_true_eq];omega
 refine ⟨by rw [e];exact fB _ _ _,fun h=>by rw [hy] at h;simp at h,fun _ => ?_⟩;rintro _ -;exact ⟨⟨a8,.aV (K9 hx hn 3 0 rfl)⟩,aH⟩
theorem at4 {c:aZ} (h:nu c):au Pz Ea [.agg (aE c)] [] ⟨.bool true,[],[]⟩:=by
 obtain ⟨k,hd⟩:=h.d;refine a6 (at5 c) ?_;simp only [sz];rintro y e;have hy:y=true:=by rw [e];unfold bC;rw [Bool.and_eq_true,decide_eq_true_eq,decide_eq_true_eq];exact h.f
 refine ⟨by rw [e];exact fB _ _ _,fun _ => ?_,fun h=>by rw [hy] at h;cases h⟩;rintro _ -;refine ⟨Aa hd h.l,?_⟩;rw [decide_eq_true (show (c.aC.length:Int)<=40 by have:=h.n;omega)];exact aH
theorem M6 (l:List aZ) (hc:∀c∈l,nu c) (hl:l.length<=1048576):∀(k i:Nat),i+k=l.length->aT Pz 0 (lp Pz r8 0) (HY l i) (.exit 0) ⟨ah 19 [(0,ab aE l)],[],[]⟩
 | 0,i,hi=>by
  have hi:i=l.length:=hi;subst hi;refine bt (M5 l (l.length:Nat)) ?_;simp only [sz];exact ⟨fun h=>ag,fun _=>⟨rfl,rfl⟩⟩
 | k+1,i,hi=>by
  have bA:i<l.length:=ag;have aD:=cp.at l ⟨[],0,[]⟩ i 3 bA rfl;have w1:=cX i;have ih:=M6 l hc hl k (i+1) ag;refine bt (M5 l (i:Nat)) ?_;simp only [sz,w1,cp.af,Int.toNat_natCast];refine ⟨fun _=>⟨⟨aB,aD⟩,?_⟩,fun h=>ag⟩;rintro _ -;exact ⟨at4 (hc _ (bH _ bA)),ih⟩
theorem oq {l:List aZ} (hc:∀c∈l,nu c) (hl:l.length<=8):au Tryz.prog r8 [ab aE l] [] ⟨.bool true,[],[]⟩:=by
 have dy:=M6 l hc (by omega) l.length 0 (by omega);refine iG (E:=C5) follows named (Z4 l) (by simp) ?_;simp only [T.WP,All,bg,cp.af];rintro _ -;refine ⟨⟨a8,.aV dy⟩,?_⟩;rw [decide_eq_true (show (l.length:Int)<=8 by omega)];exact ⟨rfl,rfl,by simp⟩
theorem K2 {α:Type} {f:α->Int}:∀ {l:List α},(∀x∈l,f x=0)->firstC f l=0
 | [],_=>rfl
 | x::l,h=>by
  rw [firstC,h x (by simp)];exact K2 fun y hy=>h y (by simp [hy])
theorem au.VN {P:Program} {f:FuncId} {vs:List V} {hp:Hp} {v v':V} {dH:Hp} {wr:List Nat} (h:au P f vs hp ⟨v,dH,wr⟩) (_:V.refsL [v']=[]) (hv:∀I μ w u,V.R P I μ w v u->V.R P I μ w v' u):au P f vs hp ⟨v',dH,wr⟩:=by
 obtain ⟨ht,mX⟩:=h;refine ⟨⟨ht.1,ht.2,?_,ht.4⟩,fun I w μ b9 ko pre dN=>(mX I w μ b9 ko pre dN).mono ?_⟩
 ·exact ht.3
 ·rintro e w' ⟨val,μ',I',he,hR,hG⟩;exact ⟨val,μ',I',he,hv _ _ _ _ hR,hG⟩
theorem TK (d:aQ) (n:Nat):fnT eF 0 nL [.dsl (n+1) false (ae aj d)] []=(
 let q:=ae aj d;.ai [List.length q=(n+1)*3,List.all q V.one=true,0=0,0=0,0+(n+1)<=9223372036854775807,(0+(n+1))*32<=140737488355328] (dz (.dsl (0+(n+1)) false q) [] []):T _):=fz
theorem DS (d:aQ) (hl:d.length<=1048576):au Pz nL [ab aj d] [] ⟨ab aj d,[],[]⟩:=by
 by_cases hd:d=[]
 ·subst hd;refine au.VN JV rfl ?_;intro I μ w u h;simp only [V.R] at h ⊢;obtain ⟨a,cap,h1,h2,h3,h4,h5⟩:=h;exact ⟨a,cap,h1,h2,by simp,h4,.inr (.inl rfl)⟩
 obtain ⟨n,hn⟩:∃n,d.length=n+1:=⟨d.length - 1,by have:=List.length_pos_iff.2 hd;omega⟩;show au Pz nL [.dsl d.length false (ae aj d)] [] ⟨.dsl d.length false (ae aj d),[],[]⟩;have cD:=bu.length d;rw [hn] at cD ⊢;refine a6 (TK d n) ?_;simp only [sz,Nat.zero_add];exact ⟨⟨cD,bu.all d,a8,a8,ag,ag⟩,aH⟩
abbrev qo:Nat:=234
abbrev ES:Nat:=164
abbrev uz:Nat:=181
abbrev ER:Nat:=163
abbrev EP:Nat:=147
abbrev ph:Nat:=217
abbrev ur:Nat:=216
def l7 (a b:Rw):Bool:=decide (a.id=b.id)&&decide (a.cells=b.cells)
def en (rows:List Rw) (x:Int):Nat:=(rows.filter fun r=>decide (r.id<x)).length
def gN (rows:List Rw) (x:Int):Bool:=rows.any fun r=>decide (r.id=x)
def eK (rows:List Rw) (x:Int):Rw:=bif gN rows x then rows.getD (en rows x) ⟨0,[]⟩ else ⟨0,[]⟩
def tp:cy:=fun f vs hp=>match vs,hp with
 | [.dsl _ _ cs],[]=>bif Nat.beq f nL then some ⟨af aj cs,fun y=>⟨ab aj y,[],[]⟩⟩ else none
 | [.dsl _ _ cs,.dsl _ _ ds,.fn g []],[]=>bif Nat.beq f qo&&Nat.beq g lv then some ⟨decide (af aG cs=af aG ds),fun y=>⟨.bool y,[],[]⟩⟩ else none
 | [.dsl _ _ cs,.dsl _ _ ds],[]=>bif Nat.beq f lv then some ⟨decide (af aj cs=af aj ds),fun y=>⟨.bool y,[],[]⟩⟩ else none
 | [.agg [.int _ d,.dsl _ _ cs]],[]=>bif Nat.beq f uz then some ⟨(⟨d,af aG cs⟩:Rw),fun y=>⟨.agg (aq y),[],[]⟩⟩ else none
 | [.agg [.int _ d,.dsl _ _ cs],.agg [.int _ e,.dsl _ _ ds]],[]=>bif Nat.beq f ES then some ⟨l7 ⟨d,af aG cs⟩ ⟨e,af aG ds⟩,fun y=>⟨.bool y,[],[]⟩⟩ else none
 | [.agg [.int _ d,.dsl _ _ _],.int _ x],[]=>bif Nat.beq f ph then some ⟨cI d x,fun y=>⟨.int .i64 y,[],[]⟩⟩ else none
 | [.dsl _ _ rs,.int _ x,.fn g []],[]=>bif Nat.beq f ur&&Nat.beq g ph then some ⟨((en (af aq rs) x:Int),gN (af aq rs) x),fun y=>⟨.tup [.int .i64 y.1,.bool y.2],[],[]⟩⟩ else none
 | [.dsl _ _ rs,.int _ x],[]=>bif Nat.beq f EP then some ⟨((en (af aq rs) x:Int),gN (af aq rs) x),fun y=>⟨.tup [.int .i64 y.1,.bool y.2],[],[]⟩⟩ else bif Nat.beq f ER then some ⟨eK (af aq rs) x,fun y=>⟨.agg (aq y),[],[]⟩⟩ else none
 | [.int _ a,.int _ b],[]=>bif Nat.beq f Ak then some ⟨cI a b,fun y=>⟨.int .i64 y,[],[]⟩⟩ else none
 | _,_=>none
def gF:Env:={P:=Pz,vw:=cj,res:=tp}
def B3 (d e:List aQ) (i:Int):St:=⟨ah 32 [(1,ab aG e),(2,.fn lv []),(15,ab aG d),(16,.int .i64 d.length),(17,.int .i64 i)],[],[]⟩
def am2:Ex->Kp:=fun ex=>match ex with
 | .ret=>{keep:=[6]}
 | .normal=>{keep:=[1,2,15,16,17]}
 | _=>{keep:=[]}
theorem KF (d e:List aQ) (i:Int):bp gF 0 am2 (lp Pz qo 0) (B3 d e i)=(
 let q:=List.getD (af aG (ae aG d)) i.toNat [];
 let q1:=List.getD (af aG (ae aG e)) i.toNat [];
 let q2:=(d.length:Int);bif decide (i<q2) then .ai [0<=i/\i<q2,td 1 i (ae aG d)=[ab aj q]] (.ai [0<=i/\i<(e.length:Int),td 1 i (ae aG e)=[ab aj q1]] (.bind (decide (af aj (ae aj q)
  = af aj (ae aj q1))) fun y0=> .ai [au (Env.P gF) 126 [ab aj q,ab aj q1] [] (aF.mk (.bool y0) [] [])] (bif !y0 then .done (Ex.ret,St.mk (ah 32 [(6,.bool false)]) [] []) else nz (ah 32 [(1,ab aG e),
  (2,.fn 126 []),(15,ab aG d),(16,aa q2),(17,aa (wz (i+1)))]) []))) else .done (Ex.exit 0,St.mk (ah 32 []) [] []):T _):=kz
def R4 (d e:List aQ):Env:={P:=Pz,vw:=cj,res:=tp,ls:=fun id _=>match id with
 | 0=>some ⟨decide (d=e),fun y=> .two {keep:=[1,2,15,16,17]} (B3 d e 0) y (.exit 0) ⟨ah 32 [],[],[]⟩ .ret ⟨ah 32 [(6,.bool false)],[],[]⟩⟩
 | _=>none}
theorem Vz (d e:List aQ):fnT (R4 d e) 0 qo [ab aG d,ab aG e,.fn lv []] []=(
 let q:=ah 32 [(1,ab aG e),(2,.fn 126 []),(15,ab aG d),(16,aa (d.length:Int)),(17,aa 0)];bif (d.length:Int) != (e.length:Int) then dz (.bool false) [] [] else .bind (decide (d=e)) fun y0=> .ai [St.mk q
  [] []=St.mk q [] []] (bif y0 then .ai [aN Pz 0 (blk Pz qo 0) (St.mk q [] []) (Ex.exit 0) (St.mk (ah 32 []) [] [])] (dz (.bool true) [] []) else .ai [aN Pz 0 (blk Pz qo 0) (St.mk q [] []) Ex.ret (St.mk (ah 32 [(6,
  .bool false)]) [] [])] (dz (.bool false) [] [])):T _):=kz
theorem aJ7 (a b:Rw):fnT gF 0 ES [.agg (aq a),.agg (aq b)] []=(
 bif a.id==b.id then .bind (decide (af aG (ae aG a.cells)=af aG (ae aG b.cells))) fun y0=> .ai [au (Env.P gF) 234 [ab aG a.cells,ab aG b.cells,.fn 126 []] [] (aF.mk (.bool y0) [] [])] (dz
  (.bool y0) [] []) else dz (.bool false) [] []:T _):=kz
def BY (r:Rw) (l:List aQ) (i:Int):St:=⟨ah 27 [(1,.ptr 0 0),(2,.ptr 1 0),(3,.sl 2 0 l.length false),(8,ab aG r.cells),(9,.int .i64 r.cells.length),(10,.int .i64 i)],[some (aq r,eR),some ([.int .i64 0,.dsl 0 true []],eR),some ([.aw (ae aG l)],ix)],[]⟩
def al5:Ex->Kp:=fun ex=>match ex with
 | .normal=>{keep:=[1,2,3,8,9,10],perm:=some ([0,1,4],[2])}
 | _=>{keep:=[1,2,3]}
theorem J8 (r:Rw) (l:List aQ) (i:Int):bp gF 0 al5 (lp Pz uz 0) (BY r l i)=(
 let q:=List.getD (af aG (ae aG r.cells)) i.toNat [];
 let q1:=(r.cells.length:Int);bif decide (i<q1) then .ai [0<=i/\i<q1,td 1 i (ae aG r.cells)=[ab aj q]] (.bind (af aj (ae aj q)) fun y0=> .ai [au (Env.P gF) 201 [ab aj q] [] (aF.mk (ab aj
  y0) [] [])] (.ai [0=0,List.length (ae aG l)=l.length*1,l.length+1<=9223372036854775807,(l.length+1)*24<=140737488355328] (nz (ah 27 [(1,pp 0),(2,pp 1),(3,.sl 2 0 (l.length+1) false),(8,ab aG
  r.cells),(9,aa q1),(10,aa (wz (i+1)))]) [some ((aq r),53),some ([aa 0,.dsl 0 true []],53),some ([.aw (ae aG l++[ab aj y0])],32)]))) else .done (Ex.exit 0,St.mk (ah 27 [(1,pp 0),(2,pp 1),(3,.sl 2 0
  l.length false)]) [some ((aq r),53),some ([aa 0,.dsl 0 true []],53),some ([.aw (ae aG l)],32)] []):T _):=kz
def QJ (r:Rw) (l:List aQ):St:=⟨ah 27 [(1,.ptr 0 0),(2,.ptr 1 0),(3,.sl 2 0 l.length false)],[some (aq r,eR),some ([.int .i64 0,.dsl 0 true []],eR),some ([.aw (ae aG l)],ix)],[]⟩
def RX (r:Rw):Env:={P:=Pz,vw:=cj,res:=tp,ls:=fun id _=>match id with
 | 0=>some ⟨(),fun _=> .one {keep:=[1,2,3,8,9,10],eu:=[3]} (BY r [] 0) (.exit 0) (QJ r r.cells)⟩
 | _=>none}
theorem UL (r:Rw):fnT (RX r) 0 uz [.agg (aq r)] []=(
 let q:=ah 27 [(1,pp 0),(2,pp 1),(3,.sl 2 0 0 false),(8,ab aG r.cells),(9,aa (r.cells.length:Int)),(10,aa 0)];
 let q1:Hp:=[some ((aq r),53),some ([aa 0,.dsl 0 true []],53),some ([.aw []],32)];.bind PUnit.unit fun _=> .ai [St.mk q q1 []=St.mk q q1 [],aN Pz 0 (blk Pz uz 0) (St.mk q q1 []) (Ex.exit 0) (St.mk (ah 27
  [(1,pp 0),(2,pp 1),(3,.sl 2 0 r.cells.length false)]) [some ((aq r),53),some ([aa 0,.dsl 0 true []],53),some ([.aw (ae aG r.cells)],32)] [])] (bif decide ((r.cells.length:Int)>0) then dz (.agg (aq r)) [] []
  else dz (.agg [aa r.id,.dsl 0 false []]) [] []):T _):=fz
theorem aI3 (rows:List Rw) (x:Int):fnT gF 0 ER [ab aq rows,.int .i64 x] []=(
 let q:=af aq (ae aq rows);
 let q1:=Rw.mk (0:Int) [];.bind ((↑(en q x):Int),gN q x) fun y0=>
 let q2:=List.getD q y0.1.toNat q1;.ai [au (Env.P gF) 147 [ab aq rows,aa x] [] (aF.mk (.tup [aa y0.1,.bool y0.2]) [] [])] (bif !y0.2 then dz (.agg [aa 0,.dsl 0 false []]) [] [] else .ai [0<=y0.1/\y0.1<(rows.length
  : Int),td 2 y0.1 (ae aq rows)=(aq q2)] (.bind (Rw.mk (Rw.id q2) (af aG (ae aG (Rw.cells q2)))) fun y1=> .ai [au (Env.P gF) 181 [.agg (aq q2)] [] (aF.mk (.agg (aq y1)) [] [])] (dz (.agg (aq y1)) []
  []))):T _):=fz
theorem aH8 (rows:List Rw) (x:Int):fnT gF 0 EP [ab aq rows,.int .i64 x] []=(
 let q:=af aq (ae aq rows);.bind ((↑(en q x):Int),gN q x) fun y0=>
 let q1:V:= .tup [aa y0.1,.bool y0.2];.ai [au (Env.P gF) 216 [ab aq rows,aa x,.fn 217 []] [] (aF.mk q1 [] [])] (dz q1 [] []):T _):=fz
theorem aH6 (r:Rw) (x:Int):fnT gF 0 ph [.agg (aq r),.int .i64 x] []=(
 .bind (cI r.id x) fun y0=> .ai [au (Env.P gF) 218 [aa r.id,aa x] [] (aF.mk (aa y0) [] [])] (dz (aa y0) [] []):T _):=fz
def HL (rows:List Rw) (x:Int) (i j:Int):St:=⟨ah 49 [(0,ab aq rows),(1,.int .i64 x),(2,.fn ph []),(8,.int .i64 rows.length),(9,.int .i64 i),(10,.int .i64 j)],[],[]⟩
def ak7:Ex->Kp:=fun ex=>match ex with
 | .normal=>{keep:=[0,1,2,8,9,10]}
 | _=>{keep:=[0,1,2,8,9]}
theorem DD (rows:List Rw) (x:Int) (i j:Int):bp gF 0 ak7 (lp Pz ur 0) (HL rows x i j)=(
 let q1:=Int.fdiv (IntKind.wrap IntKind.u64 (wz (i+j))) (2:Int);
 let q:=List.getD (af aq (ae aq rows)) (Int.toNat (wz q1)) (Rw.mk (0:Int) []);
 let q2:=(rows.length:Int);bif decide (i<j) then .ai [0<=wz q1/\wz q1<q2,List.take 2 (List.drop (Int.toNat (wz q1)*2) (ae aq rows))=[aa (Rw.id q),ab aG (Rw.cells q)]] (.bind (cI (Rw.id q) x) fun y0=> .ai
  [au (Env.P gF) 217 [.agg [aa (Rw.id q),ab aG (Rw.cells q)],aa x] [] (aF.mk (aa y0) [] [])] (bif decide (y0<0) then nz (ah 49 [(0,ab aq rows),(1,aa x),(2,.fn 217 []),(8,aa q2),(9,aa (wz (wz q1+1))),
  (10,aa j)]) [] else nz (ah 49 [(0,ab aq rows),(1,aa x),(2,.fn 217 []),(8,aa q2),(9,aa i),(10,aa (wz q1))]) [])) else .done (Ex.exit 0,St.mk (ah 49 [(0,ab aq rows),(1,aa x),(2,.fn 217 []),(8,aa
  q2),(9,aa i)]) [] []):T _):=kz
def RS (rows:List Rw) (x:Int):Env:={P:=Pz,vw:=cj,res:=tp,ls:=fun id _=>match id with
 | 0=>some ⟨(en rows x:Int),fun y=> .one {keep:=[0,1,2,8,9,10]} (HL rows x 0 rows.length) (.exit 0) ⟨ah 49 [(0,ab aq rows),(1,.int .i64 x),(2,.fn ph []),(8,.int .i64 rows.length),(9,.int .i64 y)],[],[]⟩⟩
 | _=>none}
theorem S6 (rows:List Rw) (x:Int):fnT (RS rows x) 0 ur [ab aq rows,.int .i64 x,.fn ph []] []=(
 let q1:=(rows.length:Int);
 let q:=ah 49 [(0,ab aq rows),(1,aa x),(2,.fn 217 []),(8,aa q1),(9,aa 0),(10,aa q1)];
 let q2:=af aq (ae aq rows);
 let q3:=Rw.mk (0:Int) [];.bind (↑(en rows x):Int) fun y0=>
 let q4:=List.getD q2 y0.toNat q3;.ai [St.mk q [] []=St.mk q [] [],aN Pz 0 (blk Pz ur 0) (St.mk q [] []) (Ex.exit 0) (St.mk (ah 49 [(0,ab aq rows),(1,aa x),(2,.fn 217 []),(8,aa q1),(9,aa y0)]) [] [])] (bif
  decide (y0<q1) then .ai [0<=y0/\y0<q1,td 2 y0 (ae aq rows)=(aq q4)] (.bind (cI (Rw.id q4) x) fun y1=>cz 217 [.agg (aq q4),aa x] [] (aa y1) [] [] (dz (.tup [aa y0,.bool (y1==0)]) [] [])) else dz (.tup [aa
  y0,.bool false]) [] []):T _):=fz
theorem KG (d e:List aQ) (hl:d.length=e.length) (h:d.length<=1048576) (hd:∀x∈d,x.length<=1048576):∀(k i:Nat),i+k=d.length->d.take i=e.take i ->
  (d=e->aT Tryz.prog 0 (lp Tryz.prog qo 0) (B3 d e i) (.exit 0) ⟨ah 32 [],[],[]⟩) /\
  (d≠e->aT Tryz.prog 0 (lp Tryz.prog qo 0) (B3 d e i) .ret ⟨ah 32 [(6,.bool false)],[],[]⟩)
 | 0,i,hi,ht=>by
  have hi:i=d.length:=hi
  have e1:d=e:=by
   rw [hi,List.take_length,hl,List.take_length] at ht
   exact ht
  refine ⟨fun _ => ?_,fun h=>absurd e1 h⟩
  refine bZ (E:=gF) follows named (KF d e (i:Nat)) ?_
  simp only [ba,T.WP,All,bh,bl,bg]
  exact ⟨fun h=>by omega,fun _=>⟨rfl,rfl⟩⟩
 | k+1,i,hi,ht=>by
  have aD:=bP.at d [] i 1 (by omega) rfl
  have cB:=bP.at e [] i 1 (by omega) rfl
  have w1:IntKind.i64.wrap ((i:Int)+1)=((i+1:Nat):Int):=bW (by omega)
  have hq:=D6 (d.getD i []) (e.getD i []) (hd _ (bH [] (by omega)))
  have Gb:=fU (l:=d) [] (show i<d.length by omega)
  have YB:=fU (l:=e) [] (show i<e.length by omega)
  have oh:=KF d e (i:Nat)
  have ih:=KG d e hl h hd k (i+1) (by omega)
  constructor
  ·intro he
   have h1:=(ih (by rw [he])).1 he
   refine bZ (E:=gF) follows named oh ?_
   simp only [ba,T.WP,All,bh,bl,bg,Int.toNat_natCast,bP.af,bu.af,w1]
   refine ⟨fun _=>⟨⟨aB,aD⟩,⟨aB,cB⟩,?_⟩,fun h=>by omega⟩
   rintro y rfl
   exact ⟨hq,fun h=>absurd h (by rw [he];simp),fun _=>h1⟩
  ·intro he
   by_cases hx:d.getD i []=e.getD i []
   ·have h1:=(ih (by rw [Gb,YB,ht,hx])).2 he
    refine bZ (E:=gF) follows named oh ?_
    simp only [ba,T.WP,All,bh,bl,bg,Int.toNat_natCast,bP.af,bu.af,w1]
    refine ⟨fun _=>⟨⟨aB,aD⟩,⟨aB,cB⟩,?_⟩,fun h=>by omega⟩
    rintro y rfl
    exact ⟨hq,fun h=>absurd h (by rw [hx];simp),fun _=>h1⟩
   ·refine bZ (E:=gF) follows named oh ?_
    simp only [ba,T.WP,All,bh,bl,bg,Int.toNat_natCast,bP.af,bu.af,w1]
    refine ⟨fun _=>⟨⟨aB,aD⟩,⟨aB,cB⟩,?_⟩,fun h=>by omega⟩
    rintro y rfl
    exact ⟨hq,fun _=>⟨rfl,rfl⟩,fun h=>absurd (by simpa using h) hx⟩
theorem VA (d e:List aQ) (h:d.length<=1048576) (hd:∀x∈d,x.length<=1048576):au Pz qo [ab aG d,ab aG e,.fn lv []] [] ⟨.bool (decide (d=e)),[],[]⟩:=by
 refine a6 (Vz d e) ?_;simp only [sz];refine ⟨fun bc => ?_,fun heq => ?_⟩
 ·rw [decide_eq_false (fun e'=>by subst e';simp at bc)];exact aH
 ·have hl:d.length=e.length:=by
   have:(d.length:Int)=(e.length:Int):=by simpa using heq
   omega
  have dy:=KG d e hl h hd d.length 0 ag rfl;rintro y e';rw [<- e'];refine ⟨a8,fun h0=>⟨.aV (dy.1 (of_decide_eq_true (by rw [<- e',h0]))),?_⟩,fun h0=>⟨.aV (dy.2 (of_decide_eq_false (by rw [<- e',h0]))),?_⟩⟩
  ·rw [h0];exact aH
  ·rw [h0];exact aH
theorem Qk (a b:Rw) (ha:fv a):au Pz ES [.agg (aq a),.agg (aq b)] [] ⟨.bool (l7 a b),[],[]⟩:=by
 refine a6 (aJ7 a b) ?_;unfold l7;simp only [sz,bP.af];refine ⟨fun h => ?_,fun h => ?_⟩
 ·rintro y rfl;rw [(dT:decide (a.id=b.id)=true),Bool.true_and];exact ⟨VA _ _ ha.n ha.d,aH⟩
 ·rw [(dT:decide (a.id=b.id)=false),Bool.false_and];exact aH
theorem J9 (r:Rw) (hr:fv r):∀(k i:Nat),i+k=r.cells.length->aT Tryz.prog 0 (lp Tryz.prog uz 0) (BY r (r.cells.take i) i) (.exit 0) (QJ r r.cells)
 | 0,i,hi=>by
  obtain rfl:i=r.cells.length:=hi;rw [List.take_length];refine bZ (E:=gF) follows named (J8 r r.cells (r.cells.length:Nat)) ?_;simp only [ba,T.WP,All,bh,bl,bg];exact ⟨fun h=>by omega,fun _=>⟨rfl,rfl⟩⟩
 | k+1,i,hi=>by
  have hn:=hr.n;have aD:=bP.at r.cells [] i 1 (by omega) rfl;have hd:=hr.d _ (bH [] (show i<r.cells.length by omega));have ih:=J9 r hr k (i+1) (by omega);have w1:IntKind.i64.wrap ((i:Int)+1)=((i+1:Nat):Int):=bW (by omega);have hl:(r.cells.take i).length=i:=by rw [List.length_take];omega
  refine bZ (E:=gF) follows named (J8 r (r.cells.take i) (i:Nat)) ?_;simp only [ba,T.WP,All,bh,bl,bg,w1,bP.af,bu.af,bP.length,Int.toNat_natCast,hl];refine ⟨fun _=>⟨⟨aB,aD⟩,?_⟩,fun h=>by omega⟩;rintro y rfl;refine ⟨DS _ hd,aB,?_⟩;rw [fU [] (show i<r.cells.length by omega)] at ih;simp only [BY,dF,aG,encS,ab,List.length_append,List.length_singleton,hl] at ih ⊢;exact ih
theorem UI (r:Rw) (hr:fv r):au Pz uz [.agg (aq r)] [] ⟨.agg (aq r),[],[]⟩:=by
 have hl:=J9 r hr r.cells.length 0 ag;refine a6 (UL r) ?_;simp only [sz];rintro _ -;refine ⟨⟨a8,.aV hl⟩,fun _=>aH,fun h => ?_⟩;have h0:r.cells=[]:=List.eq_nil_of_length_eq_zero ag;obtain ⟨d,cs⟩:=r;dsimp only at h0;subst h0;exact aH
theorem aB6 (r:Rw) (rows:List Rw) (x:Int):en (r::rows) x=(if r.id<x then 1 else 0)+en rows x:=by
 unfold en;rw [List.filter_cons];by_cases h:r.id<x
 ·rw [if_pos dT,if_pos h,List.length_cons];omega
 ·rw [if_neg dT,if_neg h];omega
theorem Pd {rows:List Rw} {x:Int} (h:∀r∈rows,¬r.id<x):en rows x=0:=by
 unfold en;rw [List.length_eq_zero_iff,List.filter_eq_nil_iff];intro r hr;simpa using h r hr
theorem aB7 (rows:List Rw) (x:Int):en rows x<=rows.length:=List.length_filter_le _ _
theorem Bz:∀ {rows:List Rw} (_:iW rows) (x:Int) (k:Nat),k<rows.length->((rows.getD k ⟨0,[]⟩).id<x↔k<en rows x)
 | [],_,_,k,hk=>by simp at hk
 | r::rows,hp,x,k,hk=>by
  have dH:=List.pairwise_cons.1 hp;rw [aB6];cases k with
  | zero=>
   simp only [List.getD_cons_zero];by_cases h:r.id<x
   ·rw [if_pos h];exact ⟨fun _=>ag,fun _=>h⟩
   ·rw [if_neg h,Pd (fun q hq=>by have:=dH.1 q hq;omega)];exact ⟨fun h'=>absurd h' h,fun h'=>ag⟩
  | succ k=>
   have dO:k<rows.length:=by simpa using hk
   rw [List.getD_cons_succ,Bz dH.2 x k dO];by_cases h:r.id<x
   ·rw [if_pos h];omega
   ·rw [if_neg h,Pd (fun q hq=>by have:=dH.1 q hq;omega)];omega
theorem AI {rows:List Rw} (hp:iW rows) (x:Int):gN rows x=true↔en rows x<rows.length/\(rows.getD (en rows x) ⟨0,[]⟩).id=x:=by
 unfold gN;rw [List.any_eq_true];constructor
 ·rintro ⟨r,hr,he⟩;have he:r.id=x:=by simpa using he
  obtain ⟨k,hk,e⟩:=xW (⟨0,[]⟩:Rw) hr;have h1:=Bz hp x k hk;rw [e] at h1;have h2:en rows x<=k:=ag;have h3:en rows x<rows.length:=ag;have h4:=Bz hp x _ h3;by_cases h5:en rows x=k
  ·rw [h5,e];exact ⟨hk,he⟩
  ·exfalso;have h6:(rows.getD (en rows x) ⟨0,[]⟩).id<(rows.getD k ⟨0,[]⟩).id:=by
    rw [List.getD_eq_getElem?_getD,List.getD_eq_getElem?_getD,List.getElem?_eq_getElem h3,List.getElem?_eq_getElem hk];exact List.pairwise_iff_getElem.1 hp _ _ h3 hk ag
   rw [e] at h6;omega
 ·rintro ⟨h1,h2⟩;exact ⟨_,bH _ h1,iu⟩
theorem P5 (r:Rw) (x:Int):au Pz ph [.agg (aq r),.int .i64 x] [] ⟨.int .i64 (cI r.id x),[],[]⟩:=by
 refine a6 (aH6 r x) ?_;simp only [sz];rintro y rfl;exact ⟨DT _ _,aH⟩
theorem JE (a b:Int):cI a b<0↔a<b:=by
 unfold cI;by_cases h:a<b
 ·simp [h]
 ·by_cases h2:a>b <;> simp [h,h2]
theorem Tg (a b:Int):cI a b=0↔a=b:=by
 unfold cI;by_cases h:a<b
 ·simp [h];omega
 ·by_cases h2:a>b <;> simp [h,h2] <;> omega
theorem WQ {i j:Nat} (h:i+j<9223372036854775807):IntKind.i64.wrap (Int.fdiv (IntKind.u64.wrap (IntKind.i64.wrap ((i:Int)+j))) 2)=(((i+j) / 2:Nat):Int):=by
 have h1:IntKind.i64.wrap ((i:Int)+j)=((i+j:Nat):Int):=by rw [du ag];omega
 have h2:IntKind.u64.wrap ((i+j:Nat):Int)=((i+j:Nat):Int):=by
  simp only [IntKind.wrap]
  simp [IntKind.bits,IntKind.signed]
  omega
 rw [h1,h2,Int.fdiv_eq_ediv_of_nonneg _ ag,du ag]
 omega
theorem DE {rows:List Rw} (hp:iW rows) (x:Int) (hl:rows.length<=1048576):∀(k i j:Nat),j - i<=k->i<=en rows x->en rows x<=j->j<=rows.length ->
  aT Pz 0 (lp Pz ur 0) (HL rows x i j) (.exit 0) ⟨ah 49 [(0,ab aq rows),(1,.int .i64 x),(2,.fn ph []),(8,.int .i64 rows.length),(9,.int .i64 (en rows x:Nat))],[],[]⟩
 | 0,i,j,hk,h1,h2,h3=>by
  obtain rfl:i=en rows x:=ag;refine bt (DD rows x (en rows x:Nat) (j:Nat)) ?_;simp only [sz];exact ⟨fun h=>ag,fun _=>⟨rfl,rfl⟩⟩
 | k+1,i,j,hk,h1,h2,h3=>by
  by_cases L0:i<j
  ·have hm:=WQ (i:=i) (j:=j) ag;have aD:=bI.at rows ⟨0,[]⟩ ((i+j) / 2) 2 ag rfl;have bQ:=Bz hp x ((i+j) / 2) ag;have w1:wz ((((i+j) / 2:Nat):Int)+1)=(((i+j) / 2+1:Nat):Int):=bW ag;have eZ:=DE hp x hl k ((i+j) / 2+1) j ag;have xS:=DE hp x hl k i ((i+j) / 2) ag;have hc:=P5 (rows.getD ((i+j) / 2) ⟨0,[]⟩) x;have kQ:=DD rows x (i:Nat) (j:Nat);simp only [hm,Int.toNat_natCast,bI.af,w1] at kQ;refine bt kQ ?_;simp only [sz];refine ⟨fun _=>⟨⟨⟨ag,ag⟩,aD⟩,?_⟩,fun h=>ag⟩;rintro y rfl;refine ⟨hc,fun h => ?_,fun h => ?_⟩
   ·rw [JE,bQ] at h;exact eZ ag h2 h3
   ·rw [JE,bQ] at h;exact xS h1 ag ag
  ·obtain rfl:i=en rows x:=ag;refine bt (DD rows x (en rows x:Nat) (j:Nat)) ?_;simp only [sz];exact ⟨fun h=>ag,fun _=>⟨rfl,rfl⟩⟩
theorem S7 {rows:List Rw} (hp:iW rows) (x:Int) (hl:rows.length<=1048576):au Pz ur [ab aq rows,.int .i64 x,.fn ph []] [] ⟨.tup [.int .i64 (en rows x:Nat),.bool (gN rows x)],[],[]⟩:=by
 have dy:=DE hp x hl rows.length 0 rows.length ag ag (aB7 rows x) ag;have hh:=AI hp x;refine a6 (S6 rows x) ?_;simp only [sz,bI.af];rintro y e;have e:y=((en rows x:Nat):Int):=e;subst e;refine ⟨⟨a8,.aV dy⟩,fun h => ?_,fun h => ?_⟩
 ·have h:en rows x<rows.length:=ag;have aD:=bI.at rows ⟨0,[]⟩ (en rows x) 2 h rfl;simp only [Int.toNat_natCast];refine ⟨⟨⟨ag,ag⟩,aD⟩,?_⟩;rintro z rfl;refine ⟨P5 _ _,?_,rfl,by simp⟩;have e2:(cI (rows.getD (en rows x) ⟨0,[]⟩).id x==0)=gN rows x:=by
   rw [Bool.eq_iff_iff,hh,beq_iff_eq,Tg];exact ⟨fun h'=>⟨h,h'⟩,fun h'=>h'.2⟩
  rw [e2]
 ·have e2:gN rows x=false:=by
   rw [<- Bool.not_eq_true,hh];omega
  rw [e2];exact aH
theorem aH7 {rows:List Rw} (hp:iW rows) (x:Int) (hl:rows.length<=1048576):au Pz EP [ab aq rows,.int .i64 x] [] ⟨.tup [.int .i64 (en rows x:Nat),.bool (gN rows x)],[],[]⟩:=by
 refine a6 (aH8 rows x) ?_;simp only [sz,bI.af];rintro y rfl;exact ⟨S7 hp x hl,aH⟩
theorem P7 {rows:List Rw} (hp:iW rows) (x:Int) (hl:rows.length<=1048576) (hs:∀r∈rows,fv r):au Pz ER [ab aq rows,.int .i64 x] [] ⟨.agg (aq (eK rows x)),[],[]⟩:=by
 have hh:=AI hp x;refine a6 (aI3 rows x) ?_;unfold eK;simp only [sz,bI.af,bP.af];rintro y rfl;refine ⟨aH7 hp x hl,fun h => ?_,fun h => ?_⟩
 ·rw [(dT:gN rows x=false)];exact aH
 ·have h:gN rows x=true:=dT;have h2:=hh.1 h;have aD:=bI.at rows ⟨0,[]⟩ (en rows x) 2 h2.1 rfl;simp only [Int.toNat_natCast];refine ⟨⟨⟨ag,ag⟩,aD⟩,?_⟩;rintro z rfl;rw [h];exact ⟨UI _ (hs _ (bH _ h2.1)),aH⟩
end Go.Proofs.YtlomaojlpodibaaGreat
namespace Go.Proofs
open Go.Shelf
set_option maxRecDepth 100000
def Tryz.lays189_ren:Go.Shelf.Ren:=⟨fun | 189=>161 | 125=>233 | 257=>232 | 128=>268 | 129=>269 | 294=>259 | 295=>260 | 296=>261 | 297=>262 | 298=>263 | 299=>264 | 216=>265 | 300=>266 | 301=>267 | 328=>278 | 329=>279 | 330=>280 | 331=>281 | 332=>282 | 215=>250 | 343=>287 | n=>n,fun | 28=>36 | 3=>3 | 46=>246 | 0=>0 | 51=>271 | 53=>273 | 4=>4 | 183=>265 | 182=>264 | 131=>169 | 5=>5 | 9=>9 | 218=>278 | 222=>282 | 228=>285 | 229=>40 | n=>n,fun | n=>n⟩
theorem Tryz.lays189:Go.Proofs.Lays.n189 Tryz.prog Tryz.lays189_ren where
 mixed:=by kernel_rfl
 f125:=Tryz.func233.trans (congrArg some (by kernel_rfl));f128:=Tryz.func268.trans (congrArg some (by kernel_rfl));f129:=Tryz.func269.trans (congrArg some (by kernel_rfl));f189:=Tryz.func161.trans (congrArg some (by kernel_rfl));f215:=Tryz.func250.trans (congrArg some (by kernel_rfl));f216:=Tryz.func265.trans (congrArg some (by kernel_rfl));f257:=Tryz.func232.trans (congrArg some (by kernel_rfl));f294:=Tryz.func259.trans (congrArg some (by kernel_rfl));f295:=Tryz.func260.trans (congrArg some (by kernel_rfl));f296:=Tryz.func261.trans (congrArg some (by kernel_rfl));f297:=Tryz.func262.trans (congrArg some (by kernel_rfl));f298:=Tryz.func263.trans (congrArg some (by kernel_rfl));f299:=Tryz.func264.trans (congrArg some (by kernel_rfl));f300:=Tryz.func266.trans (congrArg some (by kernel_rfl));f301:=Tryz.func267.trans (congrArg some (by kernel_rfl));f328:=Tryz.func278.trans (congrArg some (by kernel_rfl));f329:=Tryz.func279.trans (congrArg some (by kernel_rfl));f330:=Tryz.func280.trans (congrArg some (by kernel_rfl));f331:=Tryz.func281.trans (congrArg some (by kernel_rfl));f332:=Tryz.func282.trans (congrArg some (by kernel_rfl));f343:=Tryz.func287.trans (congrArg some (by kernel_rfl));t0:=Tryz.underlying0;a0:=Tryz.isAgg0;z0:=Tryz.sizeOf0;v0:=Tryz.zeroValue0;t3:=Tryz.underlying3;a3:=Tryz.isAgg3;z3:=Tryz.sizeOf3;v3:=Tryz.zeroValue3;t4:=Tryz.underlying4;a4:=Tryz.isAgg4;z4:=Tryz.sizeOf4;v4:=Tryz.zeroValue4;t5:=Tryz.underlying5;a5:=Tryz.isAgg5;z5:=Tryz.sizeOf5;v5:=Tryz.zeroValue5;t9:=Tryz.underlying9;a9:=Tryz.isAgg9;z9:=Tryz.sizeOf9;v9:=Tryz.zeroValue9;t28:=Tryz.underlying36;a28:=Tryz.isAgg36;z28:=Tryz.sizeOf36;v28:=Tryz.zeroValue36;t46:=Tryz.underlying246;a46:=Tryz.isAgg246;z46:=Tryz.sizeOf246;v46:=Tryz.zeroValue246;t51:=Tryz.underlying271;a51:=Tryz.isAgg271;z51:=Tryz.sizeOf271;v51:=Tryz.zeroValue271;t53:=Tryz.underlying273;a53:=Tryz.isAgg273;z53:=Tryz.sizeOf273
 v53:=Tryz.zeroValue273;t131:=Tryz.underlying169;a131:=Tryz.isAgg169;z131:=Tryz.sizeOf169;v131:=Tryz.zeroValue169;t182:=Tryz.underlying264;a182:=Tryz.isAgg264;z182:=Tryz.sizeOf264;v182:=Tryz.zeroValue264;t183:=Tryz.underlying265;a183:=Tryz.isAgg265;z183:=Tryz.sizeOf265;v183:=Tryz.zeroValue265;t218:=Tryz.underlying278;a218:=Tryz.isAgg278;z218:=Tryz.sizeOf278;v218:=Tryz.zeroValue278;t222:=Tryz.underlying282;a222:=Tryz.isAgg282;z222:=Tryz.sizeOf282;v222:=Tryz.zeroValue282;t228:=Tryz.underlying285;a228:=Tryz.isAgg285;z228:=Tryz.sizeOf285;v228:=Tryz.zeroValue285;t229:=Tryz.underlying40;a229:=Tryz.isAgg40;z229:=Tryz.sizeOf40;v229:=Tryz.zeroValue40
def Tryz.lays20_ren:Go.Shelf.Ren:=⟨fun | 20=>162 | n=>n,fun | 22=>36 | 3=>3 | 4=>4 | 0=>0 | n=>n,fun | n=>n⟩
theorem Tryz.lays20:Go.Proofs.Lays2.n20 Tryz.prog Tryz.lays20_ren where
 mixed:=by kernel_rfl
 f20:=Tryz.func162.trans (congrArg some (by kernel_rfl));t0:=Tryz.underlying0;a0:=Tryz.isAgg0;z0:=Tryz.sizeOf0;v0:=Tryz.zeroValue0;t3:=Tryz.underlying3;a3:=Tryz.isAgg3;z3:=Tryz.sizeOf3;v3:=Tryz.zeroValue3;t4:=Tryz.underlying4;a4:=Tryz.isAgg4;z4:=Tryz.sizeOf4;v4:=Tryz.zeroValue4;t22:=Tryz.underlying36;a22:=Tryz.isAgg36;z22:=Tryz.sizeOf36;v22:=Tryz.zeroValue36;i3:=by kernel_rfl
end Go.Proofs
namespace Go.Proofs.YtlomaojlpodibaaGreat
open Go.RowKit
set_option maxRecDepth 100000
theorem Good.Ws {P:Program} {I:Nat->Prop} {μ:Mu} {w w':World} {hp:Hp} (pre:cV P I μ w hp (List.range hp.length) hp.length) (hg:w.grownBy w' none):Good P I I μ μ w w' hp hp (List.range hp.length) []:=by
 have G:=Good.same hp pre;have hE:∀X,cO I w w' X:=fun X=> .On hg pre.dB;have hb:∀k,k<w.heap.size->w'.heap[k]?=w.heap[k]?:=fun k hk=>hg.block k hk (by simp);refine ⟨.refl _,fun k hk=> .inl hk,hE _,.refl _,fun b g h=> .inl h,fun _ _ _=>rfl,fun b bT blk h => ?_,fun b bT blk h => ?_,G.inj⟩
 ·have hH:=G.holds b bT blk h;exact hH.keep (hE (fun _=>False)) (.refl _) (.refl _) (fun h=>h) rfl (fun _ _ h=>h) fun g hg=>(G.holds b bT blk h).kV hg
 ·rcases bT with bT | bT
  ·exact absurd (fk h) ag
  ·cases bT
theorem zK {P:Program} {I:Nat->Prop} {μ:Mu} {w:World}:∀(L:List Int) (vs:List Value),V.RL P I μ w (ae aJ L) vs↔vs=L.map (Value.int .i64)
 | [],vs=>by simp [ae,V.RL]
 | s::L,vs=>by
  rw [eS];simp only [aJ,List.cons_append,List.nil_append,V.RL,V.R,List.map_cons];constructor
  ·rintro ⟨u,us,rfl,rfl,h⟩;rw [zK L us] at h;rw [h]
  ·rintro rfl;exact ⟨_,_,rfl,rfl,(zK L _).2 rfl⟩
def nd (L:List Int):List Int:=L.mergeSort fun x y=>decide (x<=y)
abbrev E3:Nat:=161
abbrev Ej:Nat:=162
def lE (L:List Int):Option bM:=some ([.aw (ae aJ L)],ld)
theorem OM (f:FuncId) (L M:List Int) (k:Nat) (q:Bool) (ret:Bool) (hL:L.length<=1048576) (hM:M.length<=L.length) (hk:k<=M.length)
  (hr:∀g cap (w:World),L≠[]->L.length<=cap->Go.Sort.Holds (Value.int .i64) w g 0 L.toArray->g<w.heap.size->Calls Pz f #[.slice (some ⟨g,0,none⟩) L.length cap] w fun e w'=>e= .returned (bif ret then .slice (some ⟨g,0,none⟩) k cap else .tuple #[])/\∃(n:Nat) (os:Array Obj) (M':List Int),M'.take k=M.take k/\k<=M'.length/\M'.length<=L.length/\w'=Go.Sort.grow (Go.Sort.putRow (Value.int .i64) (Go.Sort.ahead w n) g 0 M'.toArray) os)
  (h0:L=[]->∀a cap (w:World),Calls Pz f #[.slice a 0 cap] w fun e w'=>e= .returned (bif ret then .slice a 0 cap else .tuple #[])/\w'=w):
  au Pz f [.sl 0 0 L.length q] [lE L] ⟨bif ret then .sl 0 0 k false else .tup [],[lE (M.take k)],[0]⟩:=by
 refine ⟨⟨Nat.le_refl _,fun b hb=>by simp at hb ⊢;omega,fun b hb=>by cases ret <;> simp at hb ⊢ <;> omega,fun b hb h => ?_⟩,fun I w μ b9 hv pre dN => ?_⟩
 ·obtain rfl:b=0:=by simp at hb;omega
  exact ⟨_,rfl⟩
 simp only [V.RL] at hv
 obtain ⟨u,us,h1,hu,rfl⟩:=hv
 obtain rfl:b9 = #[u]:=by cases b9;simp_all
 have vK:=pre.top (Nat.le_refl _)
 simp only [V.R] at hu
 by_cases Fq:L=[]
 ·subst Fq
  have vi:k=0:=by simp at hM;simp [hM] at hk;exact hk
  subst vi
  have hG:=Good.same _ vK
  have FB:∀a cap,u= .slice a 0 cap->V.R Pz I μ w (bif ret then .sl 0 0 0 false else .tup []) (bif ret then .slice a 0 cap else .tuple #[])->∃r,True:=fun _ _ _ _=>⟨0,a8⟩
  obtain ⟨a,cap,rfl⟩:∃a cap,u= .slice a 0 cap:=by
   rcases hu with ⟨g,cap,e,N,i,hg,h,_⟩ | ⟨_,h0,a,h,_⟩
   ·exact ⟨_,_,h⟩
   ·exact ⟨_,_,h⟩
  refine (h0 rfl a cap w).mono ?_
  rintro e' w' ⟨rfl,rfl⟩
  refine ⟨_,μ,I,rfl,?_,⟨hG.dI,fun k hk=> .inl hk,hG.cJ.mono (fun k hk=>by simp at hk),hG.le,hG.cP,fun _ _ _=>rfl,hG.holds,fun b hb blk h g hg=>by
   rcases hb with hb | hb
   ·exact absurd (fk h) (by simp at hb ⊢;omega)
   ·simp at hb;subst hb
    exact .inr ⟨0,by simp,hg,_,rfl⟩,hG.inj⟩⟩
  cases ret
  ·simp only [cond_false,V.R,V.RL];exact ⟨#[],rfl,rfl⟩
  ·simp only [cond_true,V.R]
   rcases hu with ⟨g,cap',e,N,i,hg,h,a1,a2,a3,a4⟩ | hu
   ·exact .inl ⟨g,cap',e,N,i,hg,h,a1,a2,by simp,a4⟩
   ·exact .inr (by simpa using hu)
 rcases hu with ⟨g,cap,e,N,i,hg,rfl,l9,jf,mb,de,hi,hN⟩ | ⟨_,h0,a,rfl,_⟩
 ·have fg:([lE L]:Hp)[0]?=some (some ([.aw (ae aJ L)],ld)):=rfl
  obtain ⟨cur,fr,hnI,hw,eg,⟨cQ,jh⟩,eP,hF⟩:=(pre.holds 0 (by simp) _ fg).real rfl hg
  have iI:flat [.aw (ae aJ L)]=ae aJ L:=by simp [flat]
  rw [iI] at cQ jh
  rw [fa.length,Nat.mul_one] at cQ jh
  obtain ⟨us,cM,e1,e2,e3⟩:=CR.BS.1 jh
  rw [zK] at e2
  obtain ⟨_,rfl⟩:=CR.fP.1 e3
  have Ge:cur.toList.take L.length=L.map (Value.int .i64):=by rw [e1,e2];simp
  have XC:g<w.heap.size:=(Array.getElem?_eq_some_iff.1 hw).1
  have hH:Go.Sort.Holds (Value.int .i64) w g 0 L.toArray:=by
   intro j hj
   have vg:j<L.length:=by simpa using hj
   refine ⟨?_,?_⟩
   ·have h1:(cur.toList.take L.length)[j]?=(L.map (Value.int .i64))[j]?:=by rw [Ge]
    rw [List.getElem?_take_of_lt vg] at h1
    simp only [World.cell?,hw,Nat.zero_add]
    simp only [Option.isSome_none,Bool.false_eq_true,if_false]
    rw [<- Array.getElem?_toList,h1]
    simp [vg]
   ·simp only [World.frozen?,hw,Nat.zero_add]
    rcases eg with h | h <;> simp <;> omega
  refine (hr g cap w Fq l9 hH XC).mono ?_
  rintro e' w' ⟨rfl,n,os,M',WC,XL,hML,rfl⟩
  have G1:=Good.rF (F:=[]) (cs:=Go.Sort.putCells (Value.int .i64) 0 M'.toArray cur) (bG:=([.aw (ae aJ (M.take k))],ld)) vK (b:=0) (by simp) fg hg hw rfl (by simp [Go.Sort.putCells]) eg (List.nil_sublist _) (by
   have e5:(flat [.aw (ae aJ (M.take k))]).length=k:=by simp [flat,fa.length];omega
   refine ⟨?_,?_⟩
   ·rw [e5];simp [Go.Sort.putCells];omega
   ·rw [e5]
    have e6:=Go.take_putCellsI cur M' ag
    have e7:(Go.Sort.putCells (Value.int .i64) 0 M'.toArray cur).toList.take k=(M.take k).map (Value.int .i64):=by
     have e8:=congrArg (List.take k) e6
     rw [List.take_take,Nat.min_eq_left XL] at e8
     rw [e8,<- List.map_take,WC]
    rw [e7]
    exact CR.yl ((zK _ _).2 rfl))
  have LV:=Go.heap_sortedI (n:=n) (os:=os) M'.toArray hw
  have XB:(w.setRow g (Go.Sort.putCells (Value.int .i64) 0 M'.toArray cur)).grownBy (Go.Sort.grow (Go.Sort.putRow (Value.int .i64) (Go.Sort.ahead w n) g 0 M'.toArray) os) none:=by
   refine ⟨rfl,rfl,rfl,by simp [Go.Sort.grow,Go.Sort.putRow,Go.Sort.mapBlock,Go.Sort.ahead],fun k hk _ => ?_⟩
   by_cases vj:k=g
   ·subst vj
    rw [LV,setRow_heap w k cur _ _ fr hw]
   ·rw [setRow_other w g k _ vj]
    exact (Go.grownBy_sortedI (w:=w) (g:=g) (n:=n) (os:=os) M'.toArray).block k (by simpa using hk) (by simpa using fun e=>vj (by first | exact e | exact e.symm))
  have ku:=G1.pre (by simp) vK dN 1
  have G2:=Good.Ws ku XB
  refine ⟨_,_,I,rfl,?_,G1.trans G2 (by simp) (by simp) (by simp) (fun b hb ⟨blk,h⟩=>by
   obtain rfl:b=0:=by simp at hb;omega
   exact ⟨_,rfl⟩) (fun b hb h=>h) (by simp) (by simp) (by simp)⟩
  cases ret
  ·simp only [cond_false,V.R,V.RL];exact ⟨#[],rfl,rfl⟩
  ·simp only [cond_true,V.R]
   refine .inl ⟨g,cap,e,N,i,hg,rfl,ag,jf,by simp,?_,hi,hN⟩
   rw [<- de]
   simp only [World.shape?,LV,hw]
   simp [Go.Sort.putCells]
 ·exact absurd (List.eq_nil_of_length_eq_zero h0) Fq
theorem rm (L:List Int):(nd L).length=L.length:=by simp [nd]
theorem aN4 (L:List Int) (q:Bool) (hL:L.length<=1048576):au Pz E3 [.sl 0 0 L.length q] [lE L] ⟨.tup [],[lE (nd L)],[0]⟩:=by
 have h:=OM E3 L (nd L) L.length q false hL (by rw [rm];omega) (by rw [rm];omega) (fun g cap w h0 hc hH hg => ?_) (fun h0 a cap w=>Any.slices_Sort_int_none Tryz.lays189 a cap w)
 ·rw [List.take_of_length_le (by rw [rm];omega)] at h
  exact h
 ·refine (Any.slices_Sort_int Tryz.lays189 g 0 cap L w hH hg ag).mono ?_
  rintro e w' ⟨rfl,n,os,rfl⟩
  exact ⟨rfl,n,os,nd L,rfl,by rw [rm];omega,by rw [rm];omega,rfl⟩
theorem J6 (L:List Int):(Lib.compact L).length<=L.length:=by
 have h:=List.length_filter_le (Lib.keeps L.toArray) (List.range L.length);simpa [Lib.compact,Lib.compactUpTo] using h
theorem Ul (L:List Int) (q:Bool) (hL:L.length<=1048576):au Pz Ej [.sl 0 0 L.length q] [lE L] ⟨.sl 0 0 (Lib.compact L).length false,[lE (Lib.compact L)],[0]⟩:=by
 have hle:=J6 L
 have h:=OM Ej L (Lib.compact L) (Lib.compact L).length q true hL hle ag (fun g cap w h0 hc hH hg => ?_) (fun h0 a cap w=>Any.slices_Compact_int_empty Tryz.lays20 a cap w)
 ·rw [List.take_length] at h
  exact h
 ·refine (Any.slices_Compact_int Tryz.lays20 g 0 cap L w hH ag hc).mono ?_
  rintro e w' ⟨rfl,n,rfl⟩
  have XA:∀W:World,Go.Sort.grow W #[]=W:=fun W=>by simp [Go.Sort.grow]
  exact ⟨rfl,n,#[],Lib.compact L++List.replicate (L.length - (Lib.compact L).length) 0,by simp,by simp,by simp;omega,(XA _).symm⟩
abbrev Ao:Nat:=231
def PK:Go.Shelf.Ren:=⟨fun | 4=>Ao | n=>n,fun | 22=>ez | 25=>eR | 3=>ld | 4=>4 | 9=>9 | 20=>20 | 0=>0 | n=>n,fun | n=>n⟩
theorem MY:Go.Proofs.Lays8.n4 Pz PK where
 mixed:=kz;f4:=⟨"slices.Grow[[]loop.example/g00524/impl.Row,loop.example/g00524/impl.Row]", by decide,by kernel_rfl⟩;t0:=kz;a0:=fun w=>by kernel_rfl
 z0:=fun w=>by kernel_rfl
 v0:=fun w=>by kernel_rfl
 t3:=kz;a3:=fun w=>by kernel_rfl
 z3:=fun w=>by kernel_rfl
 v3:=fun w=>by kernel_rfl
 t4:=kz;a4:=fun w=>by kernel_rfl
 z4:=fun w=>by kernel_rfl
 v4:=fun w=>by kernel_rfl
 t9:=kz;a9:=fun w=>by kernel_rfl
 z9:=fun w=>by kernel_rfl
 v9:=fun w=>by kernel_rfl
 t20:=kz;a20:=fun w=>by kernel_rfl
 z20:=fun w=>by kernel_rfl
 v20:=fun w=>by kernel_rfl
 t22:=kz;a22:=fun w=>by kernel_rfl
 z22:=fun w=>by kernel_rfl
 v22:=fun w=>by kernel_rfl
theorem Zp:∃i z,Pz.info? eR=some i/\i.zero=some z/\i.size=2/\i.bytes=32/\z.cells.size=2:= by
 have h:((Pz.info? eR).bind fun i=>i.zero.map fun z=>(i.size,i.bytes,z.cells.size))=some (2,32,2):=kz;cases h1:Pz.info? eR with
 | none=>rw [h1] at h;cases h
 | some i=>
  rw [h1] at h;simp only [Option.bind_some] at h;cases h2:i.zero with
  | none=>rw [h2] at h;cases h
  | some z=>
   rw [h2] at h;simp only [Option.map_some,Option.some.injEq,Prod.mk.injEq] at h;exact ⟨i,z,rfl,h2,h⟩
theorem Wq:au Pz Ao [.dsl 0 true [],.int .i64 0] [] ⟨.dsl 0 true [],[],[]⟩:=by
 refine au.Om fun I w b9 hv hI => ?_;simp only [V.RL,V.R] at hv;obtain ⟨u,us,h1,⟨a,cap,rfl,h2,h3,h4⟩,_,_,rfl,rfl,rfl⟩:=hv;obtain rfl:b9 = #[.slice a 0 cap,.int .i64 0]:=by cases b9;simp_all
 have h0:cap=0:=h3 trivial;subst h0;refine (Any8.slices_Grow_room MY a 0 0 0 w ag ag ag ag).mono ?_;rintro e w' ⟨rfl,rfl⟩;exact ⟨_,rfl,by simp only [V.R];exact ⟨a,0,rfl,h2,fun _=>rfl,h4.1,.inl trivial⟩,rfl,rfl,rfl,Nat.le_refl _,fun _ _ _=>rfl⟩
theorem Wr (n:Nat) (h0:0<n) (hn:n<=1048576):au Pz Ao [.dsl 0 true [],.int .i64 n] [] ⟨.sl 0 0 0 false,[some ([.aw []],eR)],[]⟩:=by
 obtain ⟨i,z,hi,hz,hs,hb,jn⟩:=Zp;refine ⟨⟨Nat.zero_le _,fun b hb=>by simp at hb,fun b hb=>by simp at hb,fun b hb=>by simp at hb⟩,fun I w μ b9 hv pre dN => ?_⟩;simp only [V.RL,V.R] at hv;obtain ⟨u,us,h1,⟨a,cap,rfl,h2,h3,h4⟩,_,_,rfl,rfl,rfl⟩:=hv;obtain rfl:b9 = #[.slice a 0 cap,.int .i64 n]:=by cases b9;simp_all
 have h0:cap=0:=h3 trivial;subst h0;refine (Any8.slices_Grow_grow MY i z hi hz ag a 0 0 n [] w ag ag (by rw [hb];omega) ag (by simp) (fun _=>rfl) (fun b hb j v hj=>by simp at hj)).mono ?_;rintro e w' ⟨rfl,rfl⟩;rw [show PK.t 25=eR from rfl];have gb:=grownCap_ge w (0+n) 0 eR;have hle:=grownCap_le_maxLen w (0+n) 0 eR (by simp only [maxLen];omega);obtain ⟨hg,de⟩:=Good.xZ (P:=Pz) (I:=I) (μ:=μ) (w:=w) (hp:=[]) (acc:=[]) (blk:=([.aw []],eR)) (cs:=[].toArray++Builtin.zeroCells z.cells (0+n - 0)++Builtin.zeroCells z.cells (grownCap w (0+n) 0 eR - (0+n))) (fr:=(0,0)) (wd:=w.drew) (.inr rfl)
  (by simpa using pre) (.inl (Nat.le_refl _)) (.aw (by simp) (by simp [V.RL]))
 refine ⟨_,_,I,rfl,?_,hg⟩;simp only [V.R];refine .inl ⟨_,_,eR,_,i,Mu.kX _ _ _ _,rfl,ag,hle,by simp,de,hi,?_⟩;simp only [Array.size_append,size_zeroCells,jn,hs,List.size_toArray,List.length_nil];omega
structure bE where
 eA:Int
 id:Int
 bJ:Rw
 new:Rw
def bE.zero:bE:=⟨0,0,⟨0,[]⟩,⟨0,[]⟩⟩
def bU (c:bE):List V:=[.int .i64 c.eA,.int .i64 c.id,.int .i64 c.bJ.id,ab aG c.bJ.cells,.int .i64 c.new.id,ab aG c.new.cells]
theorem pQ:Lay bU 6:=⟨ag,fun _=>rfl,fun x y h=>by
 obtain ⟨a,b,⟨c,d⟩,⟨e,f⟩⟩:=x;obtain ⟨a',b',⟨c',d'⟩,⟨e',f'⟩⟩:=y;simp only [bU,ab,List.cons.injEq,V.int.injEq,V.dsl.injEq,true_and,and_true] at h;obtain ⟨rfl,rfl,rfl,⟨_,h4⟩,rfl,_,h6⟩:=h;obtain rfl:=bP.inj _ _ h4;obtain rfl:=bP.inj _ _ h6;rfl,fun _=>rfl⟩
abbrev tM:Nat:=122
def j3:Vw:=fun t cs i=>bif Nat.beq t tM then some (bU ((af bU cs).getD i bE.zero)) else bif Nat.beq t ez then some (az ((af az cs).getD i [])) else bif Nat.beq t ld then some (aJ ((af aJ cs).getD i 0)) else cj t cs i
abbrev gI:Nat:=160
abbrev oX:Nat:=81
abbrev sf:Nat:=29
abbrev nN:Nat:=78
abbrev uH:Nat:=159
abbrev Es:Nat:=80
def resCo (n:Nat):cy:=fun f vs hp=>match vs,hp with
 | [.dsl _ _ _,.int _ _],[]=>bif Nat.beq f Ao then (match n with
  | 0=>some ⟨(),fun _=>⟨.dsl 0 true [],[],[]⟩⟩
  | _+1=>some ⟨(),fun _=>⟨.sl 0 0 0 false,[some ([.aw []],eR)],[]⟩⟩) else none
 | _,_=>none
def oL (n:Nat):Env:={P:=Pz,vw:=j3,res:=resCo n}
def mH (a b:List Rw):V:= .dsl 2 false [ab aq a,ab aq b]
def v8 (a b:List Rw) (s i:Int):St:=⟨ah 36 [(0,mH a b),(3,.int .i64 s),(9,mH a b),(10,.int .i64 2),(11,.int .i64 i)],[],[]⟩
def GG:Ex->Kp:=fun ex=>match ex with
 | .normal=>{keep:=[0,3,9,10,11]}
 | _=>{keep:=[0,3]}
theorem T5 (a b:List Rw) (s:Int):bp (oL 0) 0 GG (lp Pz gI 0) (v8 a b s 0)=(
 let q:=List.getD (af az [ab aq a,ab aq b]) 0 [];
 let q1:=s+(↑(List.length q):Int);.ai [(0:Int)<=0/\(0:Int)<2,([ab aq a]:List V)=[ab aq q]] (bif decide (wz q1<0) then .fail else nz (ah 36 [(0,.dsl 2 false [ab aq a,ab aq b]),(3,aa (wz q1)),
  (9,.dsl 2 false [ab aq a,ab aq b]),(10,aa 2),(11,aa 1)]) []):T _):=fz
theorem T6 (a b:List Rw) (s:Int):bp (oL 0) 0 GG (lp Pz gI 0) (v8 a b s 1)=(
 let q:=List.getD (af az [ab aq a,ab aq b]) 1 [];
 let q1:=s+(↑(List.length q):Int);.ai [(0:Int)<=1/\(1:Int)<2,([ab aq b]:List V)=[ab aq q]] (bif decide (wz q1<0) then .fail else nz (ah 36 [(0,.dsl 2 false [ab aq a,ab aq b]),(3,aa (wz q1)),
  (9,.dsl 2 false [ab aq a,ab aq b]),(10,aa 2),(11,aa 2)]) []):T _):=fz
theorem T7 (a b:List Rw) (s:Int):bp (oL 0) 0 GG (lp Pz gI 0) (v8 a b s 2)=(
 .done (Ex.exit 0,St.mk (ah 36 [(0,.dsl 2 false [ab aq a,ab aq b]),(3,aa s)]) [] []):T _):=fz
def yr (a b l:List Rw) (i:Int):St:=⟨ah 36 [(6,.sl 0 0 l.length false),(25,mH a b),(26,.int .i64 2),(27,.int .i64 i)],[some ([.aw (ae aq l)],eR)],[]⟩
def vF:Ex->Kp:=fun ex=>match ex with
 | .normal=>{keep:=[6,25,26,27]}
 | _=>{keep:=[6]}
theorem T1 (a b l:List Rw):bp (oL 0) 0 vF (lp Pz gI 2) (yr a b l 0)=(
 let q:=List.getD (af az [ab aq a,ab aq b]) 0 [];
 let q1:=l.length+List.length q;.ai [(0:Int)<=0/\(0:Int)<2,([ab aq a]:List V)=[ab aq q]] (.ai [List.length (ae aq q)=List.length q*2,List.all (ae aq q) V.one=true,0=0,List.length (ae
  aq l)=l.length*2,l.length+List.length q<=9223372036854775807,q1*32<=140737488355328] (nz (ah 36 [(6,.sl 0 0 q1 false),(25,.dsl 2 false [ab aq a,ab aq b]),(26,aa 2),(27,aa 1)]) [some ([.aw (ae aq
  l++ae aq q)],53)])):T _):=fz
theorem T2 (a b l:List Rw):bp (oL 0) 0 vF (lp Pz gI 2) (yr a b l 1)=(
 let q:=List.getD (af az [ab aq a,ab aq b]) 1 [];
 let q1:=l.length+List.length q;.ai [(0:Int)<=1/\(1:Int)<2,([ab aq b]:List V)=[ab aq q]] (.ai [List.length (ae aq q)=List.length q*2,List.all (ae aq q) V.one=true,0=0,List.length (ae
  aq l)=l.length*2,l.length+List.length q<=9223372036854775807,q1*32<=140737488355328] (nz (ah 36 [(6,.sl 0 0 q1 false),(25,.dsl 2 false [ab aq a,ab aq b]),(26,aa 2),(27,aa 2)]) [some ([.aw (ae aq
  l++ae aq q)],53)])):T _):=fz
theorem T3 (a b l:List Rw):bp (oL 0) 0 vF (lp Pz gI 2) (yr a b l 2)=(
 .done (Ex.exit 2,St.mk (ah 36 [(6,.sl 0 0 l.length false)]) [some ([.aw (ae aq l)],53)] []):T _):=fz
def yu (i:Int):St:=⟨ah 36 [(6,.dsl 0 true []),(25,mH [] []),(26,.int .i64 2),(27,.int .i64 i)],[],[]⟩
theorem Ub:bp (oL 0) 0 vF (lp Pz gI 2) (yu 0)=(
 let q1:List V:=[.dsl 0 false [],.dsl 0 false []];
 let q:=List.getD (af az q1) 0 [];
 let q2:=ae aq q;.ai [(0:Int)<=0/\(0:Int)<2,[.dsl 0 false []]=[ab aq q]] (bif List.length q==0 then .ai [List.length q2=List.length q*2,List.all q2 V.one=true] (nz (ah 36 [(6,.dsl 0 true []),(25,
  .dsl 2 false q1),(26,aa 2),(27,aa 1)]) []) else .ai [List.length q2=List.length q*2,List.all q2 V.one=true,true=true,0=0,0+List.length q<=9223372036854775807,(0+List.length q)*32<=140737488355328] (nz
  (ah 36 [(6,.sl 0 0 (0+List.length q) false),(25,.dsl 2 false q1),(26,aa 2),(27,aa 1)]) [some ([.aw ([]++ae aq q)],53)])):T _):=fz
theorem Uc:bp (oL 0) 0 vF (lp Pz gI 2) (yu 1)=(
 let q1:List V:=[.dsl 0 false [],.dsl 0 false []];
 let q:=List.getD (af az q1) 1 [];
 let q2:=ae aq q;.ai [(0:Int)<=1/\(1:Int)<2,[.dsl 0 false []]=[ab aq q]] (bif List.length q==0 then .ai [List.length q2=List.length q*2,List.all q2 V.one=true] (nz (ah 36 [(6,.dsl 0 true []),(25,
  .dsl 2 false q1),(26,aa 2),(27,aa 2)]) []) else .ai [List.length q2=List.length q*2,List.all q2 V.one=true,true=true,0=0,0+List.length q<=9223372036854775807,(0+List.length q)*32<=140737488355328] (nz
  (ah 36 [(6,.sl 0 0 (0+List.length q) false),(25,.dsl 2 false q1),(26,aa 2),(27,aa 2)]) [some ([.aw ([]++ae aq q)],53)])):T _):=fz
theorem Ud:bp (oL 0) 0 vF (lp Pz gI 2) (yu 2)=(
 .done (Ex.exit 2,St.mk (ah 36 [(6,.dsl 0 true [])]) [] []):T _):=fz
def RW (a b:List Rw):Env:={P:=Pz,vw:=j3,res:=resCo 1,ls:=fun id _=>match id with
 | 0=>some ⟨(),fun _=> .one {keep:=[0,3,9,10,11]} (v8 a b 0 0) (.exit 0) ⟨ah 36 [(0,mH a b),(3,.int .i64 ((a.length:Int)+b.length))],[],[]⟩⟩
 | 2=>some ⟨(),fun _=> .one {keep:=[6,25,26,27],eu:=[6]} (yr a b [] 0) (.exit 2) ⟨ah 36 [(6,.sl 0 0 (a++b).length false)],[some ([.aw (ae aq (a++b))],eR)],[]⟩⟩
 | _=>none}
theorem Ug (a b:List Rw):fnT (RW a b) 0 gI [mH a b] []=(
 let q:=ah 36 [(0,.dsl 2 false [ab aq a,ab aq b]),(3,aa 0),(9,.dsl 2 false [ab aq a,ab aq b]),(10,aa 2),(11,aa 0)];
 let q1:=ah 36 [(6,.sl 0 0 0 false),(25,.dsl 2 false [ab aq a,ab aq b]),(26,aa 2),(27,aa 0)];
 let q2:Hp:=[some ([.aw []],53)];
 let q3:=(a.length:Int)+(b.length:Int);.bind PUnit.unit fun _=> .ai [St.mk q [] []=St.mk q [] [],aN Pz 0 (blk Pz gI 0) (St.mk q [] []) (Ex.exit 0) (St.mk (ah 36 [(0,.dsl 2 false [ab aq a,ab aq b]),(3,
  aa q3)]) [] [])] (.bind PUnit.unit fun _=>cz 231 [.dsl 0 true [],aa q3] [] (.sl 0 0 0 false) q2 [] (.bind PUnit.unit fun _=> .ai [St.mk q1 q2 []=St.mk q1 q2 [],aN Pz 0 (blk Pz gI 2) (St.mk q1 q2 []) (Ex.exit 2)
  (St.mk (ah 36 [(6,.sl 0 0 (List.length (a++b)) false)]) [some ([.aw (ae aq (a++b))],53)] [])] (dz (ab aq (a++b)) [] []))):T _):=fz
def zq:Env:={P:=Pz,vw:=j3,res:=resCo 0,ls:=fun id _=>match id with
 | 0=>some ⟨(),fun _=> .one {keep:=[0,3,9,10,11]} (v8 [] [] 0 0) (.exit 0) ⟨ah 36 [(0,mH [] []),(3,.int .i64 0)],[],[]⟩⟩
 | 2=>some ⟨(),fun _=> .one {keep:=[6,25,26,27]} (yu 0) (.exit 2) ⟨ah 36 [(6,.dsl 0 true [])],[],[]⟩⟩
 | _=>none}
theorem Ua:fnT zq 0 gI [mH [] []] []=(
 let q2:List V:=[.dsl 0 false [],.dsl 0 false []];
 let q:=ah 36 [(0,.dsl 2 false q2),(3,aa 0),(9,.dsl 2 false q2),(10,aa 2),(11,aa 0)];
 let q1:=ah 36 [(6,.dsl 0 true []),(25,.dsl 2 false q2),(26,aa 2),(27,aa 0)];.bind PUnit.unit fun _=> .ai [St.mk q [] []=St.mk q [] [],aN (Env.P zq) 0 (blk Pz gI 0) (St.mk q [] []) (Ex.exit 0) (St.mk (ah
  36 [(0,.dsl 2 false q2),(3,aa 0)]) [] [])] (.bind PUnit.unit fun _=> .ai [au (Env.P zq) 231 [.dsl 0 true [],aa 0] [] (aF.mk (.dsl 0 true []) [] [])] (.bind PUnit.unit fun _=> .ai [St.mk q1 [] []=St.mk q1 [] [],
  aN (Env.P zq) 0 (blk Pz gI 2) (St.mk q1 [] []) (Ex.exit 2) (St.mk (ah 36 [(6,.dsl 0 true [])]) [] [])] (dz (.dsl 0 false []) [] []))):T _):=fz
def ks (a b:List Rw):List Int:=Lib.compact (nd ((a++b).map Rw.id))
def z6 (t:Int) (a b:List Rw) (x:Int):bE:=⟨t,x,eK a x,eK b x⟩
def iZ (t:Int) (a b:List Rw) (ids:List Int):List bE:=(ids.filter fun x=> !l7 (eK a x) (eK b x)).map (z6 t a b)
def BJ:cy:=fun f vs hp=>match vs,hp with
 | [.sl 0 0 _ _],[some ([.dsl _ _ cs,.dsl _ _ ds],_)]=>bif Nat.beq f gI then some ⟨af aq cs++af aq ds,fun y=>⟨ab aq y,[none],[0]⟩⟩ else none
 | [.sl 0 0 _ _],[some ([.aw cs],_)]=>bif Nat.beq f E3 then some ⟨nd (af aJ cs),fun y=>⟨.tup [],[lE y],[0]⟩⟩ else bif Nat.beq f Ej then some ⟨Lib.compact (af aJ cs),fun y=>⟨.sl 0 0 y.length false,[lE y],[0]⟩⟩ else none
 | [.int _ t,.dsl _ _ cs,.dsl _ _ ds],[]=>bif Nat.beq f oX then some ⟨iZ t (af aq cs) (af aq ds) (ks (af aq cs) (af aq ds)),fun y=>⟨ab bU y,[],[]⟩⟩ else none
 | [.dsl _ _ _],[]=>bif Nat.beq f sq then some ⟨true,fun y=>⟨.bool y,[],[]⟩⟩ else bif Nat.beq f nN then some ⟨false,fun y=>⟨.bool y,[],[]⟩⟩ else none
 | [.dsl _ _ _,.fn g []],[]=>bif Nat.beq f uH&&Nat.beq g nN then some ⟨(),fun _=>⟨.int .i64 (-1),[],[]⟩⟩ else bif Nat.beq f Es&&Nat.beq g nN then some ⟨false,fun y=>⟨.bool y,[],[]⟩⟩ else none
 | _,_=>tp f vs hp
def iA:Env:={P:=Pz,vw:=j3,res:=BJ}
def B1 (t:Int) (a b l:List Rw) (o:List Int) (i:Int):St:=⟨ah 61 [(0,.int .i64 t),(1,ab aq a),(2,ab aq b),(7,.sl 0 0 o.length false),(19,ab aq l),(20,.int .i64 l.length),(21,.int .i64 i)],[lE o],[]⟩
def al8:Ex->Kp:=fun ex=>match ex with
 | .normal=>{keep:=[0,1,2,7,19,20,21],eu:=[7]}
 | _=>{keep:=[0,1,2,7],eu:=[7]}
theorem Kq (t:Int) (a b l:List Rw) (o:List Int) (i:Int):bp iA 0 al8 (lp Pz oX 0) (B1 t a b l o i)=(
 let q:=List.getD (af aq (ae aq l)) i.toNat (Rw.mk (0:Int) []);
 let q1:=(l.length:Int);bif decide (i<q1) then .ai [0<=i/\i<q1,td 2 i (ae aq l)=(aq q)] (.ai [0=0,List.length (ae aJ o)=o.length*1,o.length+1<=9223372036854775807,(o.length+1)*8 <=
  140737488355328] (nz (ah 61 [(0,aa t),(1,ab aq a),(2,ab aq b),(7,.sl 0 0 (o.length+1) false),(19,ab aq l),(20,aa q1),(21,aa (wz (i+1)))]) [some ([.aw (ae aJ o++[aa (Rw.id q)])],3)])) else
  .done (Ex.exit 0,St.mk (ah 61 [(0,aa t),(1,ab aq a),(2,ab aq b),(7,.sl 0 0 o.length false)]) [some ([.aw (ae aJ o)],3)] []):T _):=kz
def B2 (t:Int) (a b:List Rw) (ids:List Int) (o:List bE) (i:Int):St:=⟨ah 61 [(0,.int .i64 t),(1,ab aq a),(2,ab aq b),(10,.sl 0 0 o.length false),(35,ab aJ ids),(36,.int .i64 ids.length),(37,.int .i64 i)],[some ([.aw (ae bU o)],tM)],[]⟩
def al9:Ex->Kp:=fun ex=>match ex with
 | .normal=>{keep:=[0,1,2,10,35,36,37],eu:=[10]}
 | _=>{keep:=[10],eu:=[10]}
theorem Ku (t:Int) (a b:List Rw) (ids:List Int) (o:List bE) (i:Int):bp iA 0 al9 (lp Pz oX 2) (B2 t a b ids o i)=(
 let q:=List.getD (af aJ (ae aJ ids)) i.toNat (0:Int);
 let q1:=(ids.length:Int);
 let q2:Hp:=[some ([.aw (ae bU o)],122)];bif decide (i<q1) then .ai [0<=i/\i<q1,td 1 i (ae aJ ids)=[aa q]] (.bind (eK (af aq (ae aq a)) q) fun y0=> .ai [au (Env.P iA) 163 [ab aq a,aa
  q] [] (aF.mk (.agg (aq y0)) [] [])] (.bind (eK (af aq (ae aq b)) q) fun y1=> .ai [au (Env.P iA) 163 [ab aq b,aa q] [] (aF.mk (.agg (aq y1)) [] [])] (.bind (l7 (Rw.mk y0.id (af aG (ae aG
  y0.cells))) (Rw.mk y1.id (af aG (ae aG y1.cells)))) fun y2=> .ai [au (Env.P iA) 164 [.agg (aq y0),.agg (aq y1)] [] (aF.mk (.bool y2) [] [])] (bif !y2 then .ai [0=0,List.length (ae bU o)=o.length
  * 6,o.length+1<=9223372036854775807,(o.length+1)*80<=140737488355328] (nz (ah 61 [(0,aa t),(1,ab aq a),(2,ab aq b),(10,.sl 0 0 (o.length+1) false),(35,ab aJ ids),(36,aa q1),(37,aa (wz (i +
  1)))]) [some ([.aw (ae bU o++[aa t,aa q,aa y0.id,ab aG y0.cells,aa y1.id,ab aG y1.cells])],122)]) else nz (ah 61 [(0,aa t),(1,ab aq a),(2,ab aq b),(10,.sl 0 0 o.length false),(35,ab
  aJ ids),(36,aa q1),(37,aa (wz (i+1)))]) q2)))) else .done (Ex.exit 2,St.mk (ah 61 [(10,.sl 0 0 o.length false)]) q2 []):T _):=kz
def R2 (t:Int) (a b l:List Rw) (o ids:List Int) (ch:List bE):Env:={P:=Pz,vw:=j3,res:=BJ,ls:=fun id _=>match id with
 | 0=>some ⟨(),fun _=> .one {keep:=[0,1,2,7,19,20,21],eu:=[7]} (B1 t a b l [] 0) (.exit 0) ⟨ah 61 [(0,.int .i64 t),(1,ab aq a),(2,ab aq b),(7,.sl 0 0 o.length false)],[lE o],[]⟩⟩
 | 2=>some ⟨(),fun _=> .one {keep:=[0,1,2,10,35,36,37],eu:=[10],perm:=some ([1],[0])} (B2 t a b ids [] 0) (.exit 2) ⟨ah 61 [(10,.sl 0 0 ch.length false)],[some ([.aw (ae bU ch)],tM)],[]⟩⟩
 | _=>none}
theorem Vq (t:Int) (a b l:List Rw) (o ids:List Int) (ch:List bE):fnT (R2 t a b l o ids ch) 0 oX [.int .i64 t,ab aq a,ab aq b] []=(
 let q:=ah 61 [(0,aa t),(1,ab aq a),(2,ab aq b),(10,.sl 0 0 0 false),(35,ab aJ ids),(36,aa (ids.length:Int)),(37,aa 0)];
 let q1:=ah 61 [(0,aa t),(1,ab aq a),(2,ab aq b),(7,.sl 0 0 0 false),(19,ab aq l),(20,aa (l.length:Int)),(21,aa 0)];
 let q2:Hp:=[some ([.aw []],122)];
 let q3:Hp:=[some ([.aw []],3)];
 let q4:Hp:=[some ([.aw (ae aJ o)],3)];.bind (af aq (ae aq a)++af aq (ae aq b)) fun y0=>cz 160 [.sl 0 0 2 true] [some ([ab aq a,ab aq b],46)] (ab aq y0) [none] [0] (.bind PUnit.unit fun
  _=> .ai [St.mk (ah 61 [(0,aa t),(1,ab aq a),(2,ab aq b),(7,.sl 0 0 0 false),(19,ab aq y0),(20,aa (y0.length:Int)),(21,aa 0)]) q3 []=St.mk q1 q3 [],aN Pz 0 (blk Pz oX 0) (St.mk q1 q3 [])
  (Ex.exit 0) (St.mk (ah 61 [(0,aa t),(1,ab aq a),(2,ab aq b),(7,.sl 0 0 o.length false)]) q4 [])] (.bind (nd (af aJ (ae aJ o))) fun y2=>
 let q5:Hp:=[some ([.aw (ae aJ y2)],3)];cz 161 [.sl 0 0 o.length false] q4 (.tup []) q5 [0] (.bind (Lib.compact (af aJ (ae aJ y2))) fun y3=>cz 162 [.sl 0 0 o.length false] q5 (.sl 0 0 y3.length false) [some
  ([.aw (ae aJ y3)],3)] [0] (.bind PUnit.unit fun _=> .ai [St.mk (ah 61 [(0,aa t),(1,ab aq a),(2,ab aq b),(10,.sl 0 0 0 false),(35,ab aJ y3),(36,aa (y3.length:Int)),(37,aa 0)]) q2 []=St.mk q
  q2 [],aN Pz 0 (blk Pz oX 2) (St.mk q q2 []) (Ex.exit 2) (St.mk (ah 61 [(10,.sl 0 0 ch.length false)]) [some ([.aw (ae bU ch)],122)] [])] (dz (ab bU ch) [] []))))):T _):=fz
theorem U2 (a:List Rw):fnT iA 0 nN [ab aq a] []=(
 .bind true fun y0=> .ai [au (Env.P iA) 79 [ab aq a] [] (aF.mk (.bool y0) [] [])] (dz (.bool !y0) [] []):T _):=fz
def HS (l:List (List Rw)) (i:Int):St:=⟨ah 19 [(0,ab az l),(1,.fn nN []),(7,.int .i64 l.length),(8,.int .i64 i)],[],[]⟩
theorem KV (l:List (List Rw)) (i:Int):bp iA 0 kr (lp Pz uH 0) (HS l i)=(
 let q:=List.getD (af az (ae az l)) i.toNat [];
 let q1:=(l.length:Int);bif decide (i<q1) then .ai [0<=i/\i<q1,td 1 i (ae az l)=[ab aq q]] (.bind false fun y0=> .ai [au (Env.P iA) 78 [ab aq q] [] (aF.mk (.bool y0) [] [])] (bif y0 then .done
  (Ex.ret,St.mk (ah 19 [(4,aa i)]) [] []) else nz (ah 19 [(0,ab az l),(1,.fn 78 []),(7,aa q1),(8,aa (wz (i+1)))]) [])) else .done (Ex.exit 0,St.mk (ah 19 []) [] []):T _):=kz
def R6 (l:List (List Rw)):Env:={P:=Pz,vw:=j3,res:=BJ,ls:=fun id _=>match id with
 | 0=>some ⟨(),fun _=> .one {keep:=[0,1,7,8]} (HS l 0) (.exit 0) ⟨ah 19 [],[],[]⟩⟩
 | _=>none}
theorem VQ (l:List (List Rw)):fnT (R6 l) 0 uH [ab az l,.fn nN []] []=(
 let q:=ah 19 [(0,ab az l),(1,.fn 78 []),(7,aa (l.length:Int)),(8,aa 0)];.bind PUnit.unit fun _=> .ai [St.mk q [] []=St.mk q [] [],aN Pz 0 (blk Pz uH 0) (St.mk q [] []) (Ex.exit 0) (St.mk (ah 19 []) []
  [])] (dz (aa (-1:Int)) [] []):T _):=fz
theorem VJ (l:List (List Rw)):fnT iA 0 Es [ab az l,.fn nN []] []=(
 .bind PUnit.unit fun _=> .ai [au (Env.P iA) 159 [ab az l,.fn 78 []] [] (aF.mk (aa (-1:Int)) [] [])] (dz (.bool false) [] []):T _):=fz
def gk (x y:aA):Nat->List bE
 | 0=>[]
 | n+1=>gk x y n++iZ n (x.ak.getD n []) (y.ak.getD n []) (ks (x.ak.getD n []) (y.ak.getD n []))
def B0 (x y:aA) (o:List bE) (i:Int):St:=⟨ah 49 [(2,.ptr 0 0),(3,.ptr 1 0),(7,.sl 2 0 o.length false),(29,.int .i64 x.ak.length),(30,.int .i64 i)],[oE x,oE y,some ([.aw (ae bU o)],tM)],[]⟩
def al7:Ex->Kp:=fun ex=>match ex with
 | .normal=>{keep:=[2,3,7,29,30],eu:=[7]}
 | _=>{keep:=[7],eu:=[7]}
theorem Ki (x y:aA) (o:List bE) (i:Int):bp iA 0 al7 (lp Pz sf 0) (B0 x y o i)=(
 let q:=List.getD (af az (ae az x.ak)) i.toNat [];
 let q1:=List.getD (af az (ae az y.ak)) i.toNat [];
 let q2:=(x.ak.length:Int);
 let q3:=af aq (ae aq q1);
 let q4:=af aq (ae aq q);bif decide (i<q2) then .ai [0<=i/\i<q2,td 1 i (ae az x.ak)=[ab aq q]] (.ai [0<=i/\i<(y.ak.length:Int),td 1 i (ae az y.ak)=[ab aq q1]] (.bind (iZ i q4
  q3 (ks q4 q3)) fun y0=> .ai [au (Env.P iA) 81 [aa i,ab aq q,ab aq q1] [] (aF.mk (ab bU y0) [] [])] (.ai [List.length (ae bU y0)=y0.length*6,List.all (ae bU y0) V.one=true,0=0,
  List.length (ae bU o)=o.length*6,o.length+y0.length<=9223372036854775807,(o.length+y0.length)*80<=140737488355328] (nz (ah 49 [(2,pp 0),(3,pp 1),(7,.sl 2 0 (o.length+y0.length) false),(29,aa q2),(30,
  aa (wz (i+1)))]) [oE x,oE y,some ([.aw (ae bU o++ae bU y0)],122)])))) else .done (Ex.exit 0,St.mk (ah 49 [(7,.sl 0 0 o.length false)]) [some ([.aw (ae bU o)],122)] []):T _):=kz
def R0 (x y:aA):Env:={P:=Pz,vw:=j3,res:=BJ,ls:=fun id _=>match id with
 | 0=>some ⟨(),fun _=> .one {keep:=[2,3,7,29,30],eu:=[7]} (B0 x y [] 0) (.exit 0) ⟨ah 49 [(7,.sl 0 0 (gk x y x.ak.length).length false)],[some ([.aw (ae bU (gk x y x.ak.length))],tM)],[]⟩⟩
 | _=>none}
theorem U8 (x y:aA):fnT (R0 x y) 0 sf [.agg (aM x),.agg (aM y)] []=(
 let q:=ah 49 [(2,pp 0),(3,pp 1),(7,.sl 2 0 0 false),(29,aa (x.ak.length:Int)),(30,aa 0)];
 let q1:V:= .tup [.dsl 0 false [],aa 1];
 let q2:=gk x y x.ak.length;bif (x.ak.length:Int) != (y.ak.length:Int) then dz q1 [] [] else .bind false fun y0=>cz 80 [ab az x.ak,.fn 78 []] [] (.bool y0) [] [] (bif y0 then dz q1 [] [] else .bind false fun y1
  => cz 80 [ab az y.ak,.fn 78 []] [] (.bool y1) [] [] (bif y1 then dz q1 [] [] else .bind PUnit.unit fun _=> .ai [St.mk q [oE x,oE y,some ([.aw []],122)] []=St.mk q [oE x,oE y,some ([.aw []],122)] [],aN Pz
  0 (blk Pz sf 0) (St.mk q [oE x,oE y,some ([.aw []],122)] []) (Ex.exit 0) (St.mk (ah 49 [(7,.sl 0 0 (List.length q2) false)]) [some ([.aw (ae bU q2)],122)] [])] (dz (.tup [ab bU q2,aa 0]) [] []))):T _):=kz
theorem DV (a b:List Rw):af az [V.dsl a.length false (ae aq a),V.dsl b.length false (ae aq b)]=[a,b]:=bB.af [a,b]
theorem T8 (a b:List Rw) (ha:a.length<=1000) (hb:b.length<=1000):aT Tryz.prog 0 (lp Tryz.prog gI 0) (v8 a b 0 0) (.exit 0) ⟨ah 36 [(0,mH a b),(3,.int .i64 ((a.length:Int)+b.length))],[],[]⟩:=by
 have w1:IntKind.i64.wrap ((0:Int)+a.length)=(a.length:Int):=by rw [du ag];omega
 have w2:IntKind.i64.wrap ((a.length:Int)+b.length)=(a.length:Int)+b.length:=du ag
 have t0:=T5 a b 0
 have t1:=T6 a b a.length
 have t2:=T7 a b ((a.length:Int)+b.length)
 simp only [DV,List.getD_cons_zero,List.getD_cons_succ,w1,w2] at t0 t1
 refine bt t0 ?_
 simp only [ba,T.WP,All,bh,bl,bg]
 refine ⟨aB,fun h=>ag,fun _ => ?_⟩
 refine bt t1 ?_
 simp only [ba,T.WP,All,bh,bl,bg]
 refine ⟨aB,fun h=>ag,fun _ => ?_⟩
 refine bt t2 ?_
 exact ⟨rfl,rfl⟩
theorem T4 (a b:List Rw) (ha:a.length<=1000) (hb:b.length<=1000):aT Pz 0 (lp Pz gI 2) (yr a b [] 0) (.exit 2) ⟨ah 36 [(6,.sl 0 0 (a++b).length false)],[some ([.aw (ae aq (a++b))],eR)],[]⟩:=by
 have t0:=T1 a b [];have t1:=T2 a b a;have t2:=T3 a b (a++b);simp only [DV,List.getD_cons_zero,List.getD_cons_succ,bI.length,bI.all,List.length_nil,Nat.zero_add,<- oS,List.nil_append] at t0 t1;refine bt t0 ?_;simp only [sz];refine ⟨aB,aB,?_⟩;refine bt t1 ?_;simp only [sz];refine ⟨aB,aB,?_⟩;rw [<- List.length_append];refine bt t2 ?_;exact ⟨rfl,rfl⟩
theorem Ue:aT Pz 0 (lp Pz gI 2) (yu 0) (.exit 2) ⟨ah 36 [(6,.dsl 0 true [])],[],[]⟩:=by
 have t0:=Ub;have t1:=Uc;have t2:=Ud;have e:af az [V.dsl 0 false [],V.dsl 0 false []]=[[],[]]:=DV [] [];simp only [e,List.getD_cons_zero,List.getD_cons_succ,List.length_nil,beq_self_eq_true,cond_true] at t0 t1;refine bt t0 ?_;simp only [sz];refine ⟨aB,aB,?_⟩;refine bt t1 ?_;simp only [sz];refine ⟨aB,aB,?_⟩;refine bt t2 ?_;exact ⟨rfl,rfl⟩
theorem Up (a b:List Rw) (ha:a.length<=1000) (hb:b.length<=1000):au Pz gI [mH a b] [] ⟨ab aq (a++b),[],[]⟩:=by
 have hs:=T8 a b ha hb;by_cases h0:a.length+b.length=0
 ·obtain rfl:a=[]:=List.eq_nil_of_length_eq_zero ag;obtain rfl:b=[]:=List.eq_nil_of_length_eq_zero ag;refine a6 Ua ?_;simp only [sz];rintro _ -;refine ⟨⟨a8,.aV hs⟩,?_⟩;rintro _ -;refine ⟨Wq,?_⟩;rintro _ -;exact ⟨⟨a8,.aV Ue⟩,aH⟩
 ·have hg:=Wr (a.length+b.length) ag ag;refine a6 (Ug a b) ?_;simp only [sz];rintro _ -;refine ⟨⟨a8,.aV hs⟩,?_⟩;rintro _ -;refine ⟨hg,?_⟩;rintro _ -;exact ⟨⟨a8,.aV (T4 a b ha hb)⟩,aH⟩
theorem Uo (a b:List Rw) (ha:a.length<=1000) (hb:b.length<=1000):au Pz gI [.sl 0 0 2 true] [some ([ab aq a,ab aq b],ez)] ⟨ab aq (a++b),[none],[0]⟩:=
 au.AH (cM:=[mH a b]) 5 rfl (Up a b ha hb)
theorem Kt (t:Int) (a b l:List Rw) (hl:l.length<=1048576):∀(k i:Nat),i+k=l.length->aT Tryz.prog 0 (lp Tryz.prog oX 0) (B1 t a b l ((l.take i).map Rw.id) i) (.exit 0) ⟨ah 61 [(0,.int .i64 t),(1,ab aq a),(2,ab aq b),(7,.sl 0 0 (l.map Rw.id).length false)],[lE (l.map Rw.id)],[]⟩
 | 0,i,hi=>by
  obtain rfl:i=l.length:=hi;rw [List.take_length];refine bZ (E:=iA) follows named (Kq t a b l (l.map Rw.id) (l.length:Nat)) ?_;simp only [ba,T.WP,All,bh,bl,bg];exact ⟨fun h=>by omega,fun _=>⟨rfl,rfl⟩⟩
 | k+1,i,hi=>by
  have aD:=bI.at l ⟨0,[]⟩ i 2 (by omega) rfl;have ih:=Kt t a b l hl k (i+1) (by omega);have w1:IntKind.i64.wrap ((i:Int)+1)=((i+1:Nat):Int):=bW (by omega);have cD:((l.take i).map Rw.id).length=i:=by rw [List.length_map,List.length_take];omega
  refine bZ (E:=iA) follows named (Kq t a b l ((l.take i).map Rw.id) (i:Nat)) ?_;simp only [ba,T.WP,All,bh,bl,bg,w1,bI.af,fa.length,Int.toNat_natCast,cD];refine ⟨fun _=>⟨⟨aB,aD⟩,aB,?_⟩,fun h=>by omega⟩;rw [fU ⟨0,[]⟩ (show i<l.length by omega),List.map_append,List.map_singleton] at ih;simp only [B1,lE,dF,aJ,List.length_append,List.length_singleton,cD] at ih ⊢;exact ih
theorem TH (t:Int) (a b:List Rw) (ids:List Int) (x:Int):iZ t a b (ids++[x])=iZ t a b ids++(bif l7 (eK a x) (eK b x) then [] else [z6 t a b x]):=by
 unfold iZ;rw [List.filter_append,List.map_append];congr 1;cases h:l7 (eK a x) (eK b x) <;> simp [h]
theorem DR (t:Int) (a b:List Rw) (ids:List Int):(iZ t a b ids).length<=ids.length:=by
 unfold iZ;rw [List.length_map];exact List.length_filter_le _ _
theorem aI2 {rows:List Rw} (hs:∀r∈rows,fv r) (hp:iW rows) (x:Int):fv (eK rows x):=by
 unfold eK;cases h:gN rows x with
 | false=>exact ⟨by simp,by simp⟩
 | true=>exact hs _ (bH _ ((AI hp x).1 h).1)
structure jT (rows:List Rw):Prop where
 n:rows.length<=1000
 p:iW rows
 s:∀r∈rows,fv r
theorem Kx (t:Int) {a b:List Rw} (ha:jT a) (hb:jT b) (ids:List Int) (hl:ids.length<=1048576):∀(k i:Nat),i+k=ids.length->aT Tryz.prog 0 (lp Tryz.prog oX 2) (B2 t a b ids (iZ t a b (ids.take i)) i) (.exit 2) ⟨ah 61 [(10,.sl 0 0 (iZ t a b ids).length false)],[some ([.aw (ae bU (iZ t a b ids))],tM)],[]⟩
 | 0,i,hi=>by
  obtain rfl:i=ids.length:=hi;rw [List.take_length];refine bZ (E:=iA) follows named (Ku t a b ids (iZ t a b ids) (ids.length:Nat)) ?_;simp only [ba,T.WP,All,bh,bl,bg];exact ⟨fun h=>by omega,fun _=>⟨rfl,rfl⟩⟩
 | k+1,i,hi=>by
  have aD:=fa.at ids 0 i 1 (by omega) rfl;have ih:=Kx t ha hb ids hl k (i+1) (by omega);have w1:IntKind.i64.wrap ((i:Int)+1)=((i+1:Nat):Int):=bW (by omega);have hle:=DR t a b (ids.take i);rw [List.length_take] at hle;rw [fU 0 (show i<ids.length by omega),TH] at ih;have h1:=P7 ha.p (ids.getD i 0) (by have:=ha.n;omega) ha.s;have h2:=P7 hb.p (ids.getD i 0) (by have:=hb.n;omega) hb.s;have h3:=Qk (eK a (ids.getD i 0)) (eK b (ids.getD i 0)) (aI2 ha.s ha.p _);refine bZ (E:=iA) follows named (Ku t a b ids (iZ t a b (ids.take i)) (i:Nat)) ?_;simp only [ba,T.WP,All,bh,bl,bg,w1,bI.af,fa.af,pQ.length,Int.toNat_natCast];refine ⟨fun _=>⟨⟨aB,aD⟩,?_⟩,fun h=>by omega⟩;rintro y1 rfl;refine ⟨h1,?_⟩;rintro y2 rfl;refine ⟨h2,?_⟩;rintro y3 e3;simp only [bP.af] at e3;have e3:y3=l7 (eK a (ids.getD i 0)) (eK b (ids.getD i 0)):=e3;rw [<- e3] at h3 ih;refine ⟨h3,fun h => ?_,fun h => ?_⟩
  ·rw [show y3=false by simpa using h,cond_false] at ih;refine ⟨aB,?_⟩;simp only [B2,dF,bU,z6,ab,List.length_append,List.length_singleton] at ih ⊢;exact ih
  ·rw [show y3=true by simpa using h,cond_true,List.append_nil] at ih;exact ih
theorem GS (a b:List Rw):(ks a b).length<=a.length+b.length:=by
 unfold ks;have:=J6 (nd ((a++b).map Rw.id));rw [rm,List.length_map,List.length_append] at this;exact this
theorem Vr (t:Int) {a b:List Rw} (ha:jT a) (hb:jT b):au Pz oX [.int .i64 t,ab aq a,ab aq b] [] ⟨ab bU (iZ t a b (ks a b)),[],[]⟩:=by
 have hn:=GS a b;have:=ha.n;have:=hb.n;have fJ:=Kt t a b (a++b) (by rw [List.length_append];omega) (a++b).length 0 ag;have eh:=Kx t ha hb (ks a b) ag (ks a b).length 0 ag;have hs:=aN4 ((a++b).map Rw.id) false (by rw [List.length_map,List.length_append];omega);have hc:=Ul (nd ((a++b).map Rw.id)) false (by rw [rm,List.length_map,List.length_append];omega);rw [rm] at hc;refine a6 (Vq t a b (a++b) ((a++b).map Rw.id) (ks a b) (iZ t a b (ks a b))) ?_;simp only [sz,bI.af,fa.af];rintro y0 rfl;refine ⟨Uo a b ag ag,?_⟩;rintro _ -;refine ⟨⟨rfl,.aV fJ⟩,?_⟩;rintro y2 rfl;refine ⟨hs,?_⟩;rintro y3 e3;have e3:y3=ks a b:=e3;subst e3;refine ⟨hc,?_⟩;rintro _ -;exact ⟨⟨rfl,.aV eh⟩,aH⟩
theorem U3 {a:List Rw} (ha:jT a):au Pz nN [ab aq a] [] ⟨.bool false,[],[]⟩:=by
 refine a6 (U2 a) ?_;simp only [sz];rintro y rfl;exact ⟨aH1 a ha.p (by have:=ha.n;omega),aH⟩
theorem KW {l:List (List Rw)} (hl:l.length<=1048576) (h:∀a∈l,jT a):∀(k i:Nat),i+k=l.length->aT Pz 0 (lp Pz uH 0) (HS l i) (.exit 0) ⟨ah 19 [],[],[]⟩
 | 0,i,hi=>by
  obtain rfl:i=l.length:=hi;refine bt (KV l (l.length:Nat)) ?_;simp only [sz];exact ⟨fun h=>ag,fun _=>⟨rfl,rfl⟩⟩
 | k+1,i,hi=>by
  have aD:=bB.at l [] i 1 ag rfl;have ih:=KW hl h k (i+1) ag;have w1:=cX i;refine bt (KV l (i:Nat)) ?_;simp only [sz,w1,bB.af,Int.toNat_natCast];refine ⟨fun _=>⟨⟨aB,aD⟩,?_⟩,fun h=>ag⟩;rintro y rfl;exact ⟨U3 (h _ (bH [] ag)),fun h=>by simp at h,fun _=>ih⟩
theorem VR {l:List (List Rw)} (hl:l.length<=1048576) (h:∀a∈l,jT a):au Pz uH [ab az l,.fn nN []] [] ⟨.int .i64 (-1),[],[]⟩:=by
 have dy:=KW hl h l.length 0 ag;refine a6 (VQ l) ?_;simp only [sz];rintro _ -;exact ⟨⟨a8,.aV dy⟩,aH⟩
theorem KU {l:List (List Rw)} (hl:l.length<=1048576) (h:∀a∈l,jT a):au Pz Es [ab az l,.fn nN []] [] ⟨.bool false,[],[]⟩:=by
 refine a6 (VJ l) ?_;simp only [sz];rintro _ -;exact ⟨VR hl h,aH⟩
theorem Kl (x y:aA) (hx:∀a∈x.ak,jT a) (hy:∀a∈y.ak,jT a):∀n,n<=x.ak.length->n<=y.ak.length->(gk x y n).length<=2000*n
 | 0,_,_=>by simp [gk]
 | n+1,h1,h2=>by
  have ih:=Kl x y hx hy n (by omega) (by omega);have a1:=(hx _ (bH [] (show n<x.ak.length by omega))).n;have a2:=(hy _ (bH [] (show n<y.ak.length by omega))).n;have a3:=GS (x.ak.getD n []) (y.ak.getD n []);have a4:=DR n (x.ak.getD n []) (y.ak.getD n []) (ks (x.ak.getD n []) (y.ak.getD n []));rw [gk,List.length_append];omega
theorem Kj {x y:aA} (hn:x.ak.length<=1000) (he:x.ak.length=y.ak.length) (hx:∀a∈x.ak,jT a) (hy:∀a∈y.ak,jT a):∀(k i:Nat),i+k=x.ak.length->aT Tryz.prog 0 (lp Tryz.prog sf 0) (B0 x y (gk x y i) i) (.exit 0) ⟨ah 49 [(7,.sl 0 0 (gk x y x.ak.length).length false)],[some ([.aw (ae bU (gk x y x.ak.length))],tM)],[]⟩
 | 0,i,hi=>by
  obtain rfl:i=x.ak.length:=hi;refine bZ (E:=iA) follows named (Ki x y (gk x y x.ak.length) (x.ak.length:Nat)) ?_;simp only [ba,T.WP,All,bh,bl,bg];exact ⟨fun h=>by omega,fun _=>⟨rfl,rfl⟩⟩
 | k+1,i,hi=>by
  have aD:=bB.at x.ak [] i 1 (by omega) rfl;have cB:=bB.at y.ak [] i 1 (by omega) rfl;have ih:=Kj hn he hx hy k (i+1) (by omega);have w1:IntKind.i64.wrap ((i:Int)+1)=((i+1:Nat):Int):=bW (by omega);have hd:=Vr i (hx _ (bH [] (show i<x.ak.length by omega))) (hy _ (bH [] (show i<y.ak.length by omega)));have hle:=Kl x y hx hy (i+1) (by omega) (by omega);rw [gk,List.length_append] at hle;refine bZ (E:=iA) follows named (Ki x y (gk x y i) (i:Nat)) ?_;simp only [ba,T.WP,All,bh,bl,bg,w1,bB.af,bI.af,pQ.length,pQ.all,Int.toNat_natCast];refine ⟨fun _=>⟨⟨aB,aD⟩,⟨aB,cB⟩,?_⟩,fun h=>by omega⟩;rintro y0 rfl;refine ⟨hd,aB,?_⟩;rw [gk] at ih;simp only [B0,oS,List.length_append] at ih ⊢;exact ih
theorem Va {x y:aA} (hn:x.ak.length<=1000) (he:x.ak.length=y.ak.length) (hx:∀a∈x.ak,jT a) (hy:∀a∈y.ak,jT a):au Pz sf [.agg (aM x),.agg (aM y)] [] ⟨.tup [ab bU (gk x y x.ak.length),.int .i64 0],[],[]⟩:=by
 have dy:=Kj hn he hx hy x.ak.length 0 ag;refine a6 (U8 x y) ?_;simp only [sz];refine ⟨fun h=>by simp [he] at h,fun _ => ?_⟩;rintro _ rfl;refine ⟨KU ag hx,fun h=>by simp at h,fun _ => ?_⟩;rintro _ rfl;refine ⟨KU ag hy,fun h=>by simp at h,fun _ => ?_⟩;rintro _ -;exact ⟨⟨a8,.aV dy⟩,aH⟩
abbrev l8:Nat:=151
abbrev pc:Nat:=152
abbrev E4:Nat:=72
def vT:cy:=fun f vs hp=>match vs,hp with
 | [.dsl _ _ cs,.int _ n],[]=>bif Nat.beq f pg then some ⟨cE (af aq cs) n,fun y=>⟨.int .i64 y,[],[]⟩⟩ else none
 | [.agg [.dsl _ _ ss],.agg [.dsl _ _ ts,.int _ nx],.int _ t,.int _ id],[]=>bif Nat.beq f jd then some ⟨ey (af ao ss) ⟨af az ts,nx⟩ t.toNat id,fun y=>⟨.int .i64 (y:Nat),[],[]⟩⟩ else none
 | [.agg [.dsl _ _ _]],[]=>bif Nat.beq f EU then some ⟨(),fun _=>⟨.bool true,[],[]⟩⟩ else none
 | [.agg [.dsl _ _ _],.agg [.dsl _ _ _,.int _ _]],[]=>bif Nat.beq f nK||Nat.beq f pc||Nat.beq f fY||Nat.beq f gl then some ⟨(),fun _=>⟨.bool true,[],[]⟩⟩ else none
 | [.agg [.dsl _ _ _,.int _ _]],[]=>bif Nat.beq f l8 then some ⟨(),fun _=>⟨.bool true,[],[]⟩⟩ else none
 | _,_=>none
def EY:Env:={P:=Pz,vw:=cj,res:=vT}
def H2 (x:aA) (i k j:Int):St:=⟨ah 44 [(1,.ptr 0 0),(3,.int .i64 i),(4,.int .i64 k),(5,.int .i64 j)],[tt x],[]⟩
def an7:Ex->Kp:=fun ex=>match ex with
 | .normal=>{keep:=[1,3,4,5]}
 | .ret=>{keep:=[2]}
 | .exit _=>{keep:=[1,3,4]}
def yN (x:aA) (i k:Int):St:=⟨ah 44 [(1,.ptr 0 0),(3,.int .i64 i),(4,.int .i64 k)],[tt x],[]⟩
def an6:Ex->Kp:=fun ex=>match ex with
 | .normal=>{keep:=[1,3,4]}
 | .ret=>{keep:=[2]}
 | .exit _=>{keep:=[1,3]}
def yM (x:aA) (i:Int):St:=⟨ah 44 [(1,.ptr 0 0),(3,.int .i64 i)],[tt x],[]⟩
def an5:Ex->Kp:=fun ex=>match ex with
 | .normal=>{keep:=[1,3]}
 | .ret=>{keep:=[2]}
 | .exit _=>{keep:=[]}
theorem Oj (x:aA) (i k j:Int):bp EY 0 an7 (lp Pz l8 4) (H2 x i k j)=(
 let q4:=ae az x.ak;
 let q1:=af az q4;
 let q2:=List.getD q1 i.toNat [];
 let q:=List.getD (af aq (ae aq q2)) k.toNat (Rw.mk (0:Int) []);
 let q3:=List.getD q1 j.toNat [];bif decide (j<i) then .ai [0<=j/\j<(x.ak.length:Int),td 1 j q4=[ab aq q3]] (.ai [0<=i/\i<(x.ak.length:Int),td 1 i q4=[ab aq q2]] (.ai [0<=k/\k<(↑(List.length
  q2):Int),td 2 k (ae aq q2)=[aa (Rw.id q),ab aG (Rw.cells q)]] (.bind (cE (af aq (ae aq q3)) (Rw.id q)) fun y0=> .ai [au (Env.P EY) 140 [ab aq q3,aa (Rw.id q)] [] (aF.mk (aa y0) [] [])] (bif
  decide (y0>=0) then .done (Ex.ret,St.mk (ah 44 [(2,.bool false)]) [] []) else nz (ah 44 [(1,pp 0),(3,aa i),(4,aa k),(5,aa (wz (j+1)))]) [some ((aM x),29)])))) else .done (Ex.exit 4,St.mk (ah 44 [(1,pp 0),
  (3,aa i),(4,aa k)]) [some ((aM x),29)] []):T _):=kz
def C9 (x:aA):Env:={P:=Pz,vw:=cj,res:=vT,ls:=fun id s=>match id,s.tm.get 3,s.tm.get 4 with
 | 4,.int _ i,.int _ k=>some ⟨(),fun _=> .one {keep:=[1,3,4,5]} (H2 x i k 0) (.exit 4) (yN x i k)⟩
 | _,_,_=>none}
theorem Oh (x:aA) (i k:Int):bp (C9 x) 0 an6 (lp Pz l8 2) (yN x i k)=(
 let q:=ah 44 [(1,pp 0),(3,aa i),(4,aa k),(5,aa 0)];
 let q1:Hp:=[some ((aM x),29)];
 let q2:=List.getD (af az (ae az x.ak)) i.toNat [];.ai [0<=i/\i<(x.ak.length:Int),td 1 i (ae az x.ak)=[ab aq q2]] (bif decide (k<(↑(List.length q2):Int)) then .bind PUnit.unit fun _=> .ai
  [St.mk q q1 []=St.mk q q1 [],aN Pz 0 (blk Pz l8 4) (St.mk q q1 []) (Ex.exit 4) (St.mk (ah 44 [(1,pp 0),(3,aa i),(4,aa k)]) q1 [])] (nz (ah 44 [(1,pp 0),(3,aa i),(4,aa (wz (k+1)))]) q1) else .done (Ex.exit
  2,St.mk (ah 44 [(1,pp 0),(3,aa i)]) q1 [])):T _):=fz
def C8 (x:aA):Env:={P:=Pz,vw:=cj,res:=vT,ls:=fun id s=>match id,s.tm.get 3 with
 | 2,.int _ i=>some ⟨(),fun _=> .one {keep:=[1,3,4]} (yN x i 0) (.exit 2) (yM x i)⟩
 | _,_=>none}
theorem Of (x:aA) (i:Int):bp (C8 x) 0 an5 (lp Pz l8 0) (yM x i)=(
 let q:=ah 44 [(1,pp 0),(3,aa i),(4,aa 0)];
 let q1:Hp:=[some ((aM x),29)];bif decide (i<(x.ak.length:Int)) then .bind PUnit.unit fun _=> .ai [St.mk q q1 []=St.mk q q1 [],aN Pz 0 (blk Pz l8 2) (St.mk q q1 []) (Ex.exit 2) (St.mk (ah 44 [(1,pp 0),(3,
  aa i)]) q1 [])] (nz (ah 44 [(1,pp 0),(3,aa (wz (i+1)))]) q1) else .done (Ex.exit 0,St.mk (ah 44 []) [] []):T _):=kz
def Sh (x:aA):Env:={P:=Pz,vw:=cj,res:=vT,ls:=fun id _=>match id with
 | 0=>some ⟨(),fun _=> .one {keep:=[1,3]} (yM x 0) (.exit 0) ⟨ah 44 [],[],[]⟩⟩
 | _=>none}
theorem au6 (x:aA):fnT (Sh x) 0 l8 [.agg (aM x)] []=(
 let q:=ah 44 [(1,pp 0),(3,aa 0)];
 let q1:Hp:=[some ((aM x),29)];.bind PUnit.unit fun _=> .ai [St.mk q q1 []=St.mk q q1 [],aN Pz 0 (blk Pz l8 0) (St.mk q q1 []) (Ex.exit 0) (St.mk (ah 44 []) [] [])] (dz (.bool true) [] []):T _):=fz
def HT (S:aO) (x:aA) (i k:Int):St:=⟨ah 47 [(2,.ptr 0 0),(3,.ptr 1 0),(5,.int .i64 i),(6,.int .i64 k)],[fE S,tt x],[]⟩
def am7:Ex->Kp:=fun ex=>match ex with
 | .normal=>{keep:=[2,3,5,6]}
 | .ret=>{keep:=[4]}
 | .exit _=>{keep:=[2,3,5]}
def yB (S:aO) (x:aA) (i:Int):St:=⟨ah 47 [(2,.ptr 0 0),(3,.ptr 1 0),(5,.int .i64 i)],[fE S,tt x],[]⟩
def am6:Ex->Kp:=fun ex=>match ex with
 | .normal=>{keep:=[2,3,5]}
 | .ret=>{keep:=[4]}
 | .exit _=>{keep:=[]}
theorem Ls (S:aO) (x:aA) (i k:Int):bp EY 0 am7 (lp Pz pc 2) (HT S x i k)=(
 let q5:=ae az x.ak;
 let q:=List.getD (af az q5) i.toNat [];
 let q1:=List.getD (af aq (ae aq q)) k.toNat (Rw.mk (0:Int) []);
 let q2:List Prop:=[0<=i/\i<(x.ak.length:Int),td 1 i q5=[ab aq q]];
 let q6:=af ao (ae ao S);
 let q3:=List.getD q6 i.toNat (Tb.mk [] [] [] false);
 let q4:=ah 47 [(2,pp 0),(3,pp 1),(5,aa i),(6,aa (wz (k+1)))];.ai q2 (bif decide (k<(↑(List.length q):Int)) then .ai [0<=i/\i<(S.length:Int),td 4 i (ae ao S)=ao q3] (bif !Tb.root q3 then .ai q2
  (.ai [0<=k/\k<(↑(List.length q):Int),td 2 k (ae aq q)=[aa (Rw.id q1),ab aG (Rw.cells q1)]] (.bind (ey q6 (aA.mk (af az q5) x.next) i.toNat (Rw.id q1)) fun y0=> .ai [au (Env.P EY) 138 [.agg [ab
  ao S],.agg (aM x),aa i,aa (Rw.id q1)] [] (aF.mk (aa (y0:Int)) [] [])] (bif (y0:Int)==0 then .done (Ex.ret,St.mk (ah 47 [(4,.bool false)]) [] []) else nz q4 [fE S,some ((aM x),29)]))) else nz q4 [fE S,
  some ((aM x),29)]) else .done (Ex.exit 2,St.mk (ah 47 [(2,pp 0),(3,pp 1),(5,aa i)]) [fE S,some ((aM x),29)] [])):T _):=fz
def CV (S:aO) (x:aA):Env:={P:=Pz,vw:=cj,res:=vT,ls:=fun id s=>match id,s.tm.get 5 with
 | 2,.int _ i=>some ⟨(),fun _=> .one {keep:=[2,3,5,6]} (HT S x i 0) (.exit 2) (yB S x i)⟩
 | _,_=>none}
theorem Lp (S:aO) (x:aA) (i:Int):bp (CV S x) 0 am6 (lp Pz pc 0) (yB S x i)=(
 let q:=ah 47 [(2,pp 0),(3,pp 1),(5,aa i),(6,aa 0)];bif decide (i<(x.ak.length:Int)) then .bind PUnit.unit fun _=> .ai [St.mk q [fE S,some ((aM x),29)] []=St.mk q [fE S,some ((aM x),29)] [],aN
  Pz 0 (blk Pz pc 2) (St.mk q [fE S,some ((aM x),29)] []) (Ex.exit 2) (St.mk (ah 47 [(2,pp 0),(3,pp 1),(5,aa i)]) [fE S,some ((aM x),29)] [])] (nz (ah 47 [(2,pp 0),(3,pp 1),(5,aa (wz (i+1)))]) [fE S,
  some ((aM x),29)]) else .done (Ex.exit 0,St.mk (ah 47 []) [] []):T _):=kz
def R7 (S:aO) (x:aA):Env:={P:=Pz,vw:=cj,res:=vT,ls:=fun id _=>match id with
 | 0=>some ⟨(),fun _=> .one {keep:=[2,3,5]} (yB S x 0) (.exit 0) ⟨ah 47 [],[],[]⟩⟩
 | _=>none}
theorem Xp (S:aO) (x:aA):fnT (R7 S x) 0 pc [.agg [ab ao S],.agg (aM x)] []=(
 let q:=ah 47 [(2,pp 0),(3,pp 1),(5,aa 0)];.bind PUnit.unit fun _=> .ai [St.mk q [fE S,some ((aM x),29)] []=St.mk q [fE S,some ((aM x),29)] [],aN Pz 0 (blk Pz pc 0) (St.mk q [fE S,some ((aM x),
  29)] []) (Ex.exit 0) (St.mk (ah 47 []) [] [])] (dz (.bool true) [] []):T _):=fz
theorem aO2 (S:aO) (x:aA):fnT EY 0 E4 [.agg [ab ao S],.agg (aM x)] []=(
 let q:=aF.mk (.bool true) [] [];
 let q1:List V:=[.agg [ab ao S],.agg (aM x)];.bind PUnit.unit fun _=> .ai [au (Env.P EY) 48 [.agg [ab ao S]] [] q] (.bind PUnit.unit fun _=> .ai [au (Env.P EY) 49 q1 [] q] (.bind PUnit.unit fun _=> .ai
  [au (Env.P EY) 151 [.agg (aM x)] [] q] (.bind PUnit.unit fun _=> .ai [au (Env.P EY) 145 q1 [] q] (.bind PUnit.unit fun _=> .ai [au (Env.P EY) 146 q1 [] q] (.bind PUnit.unit fun _=> .ai [au (Env.P EY) 152 q1 []
  q] (dz (.bool true) [] [])))))):T _):=fz
def Dj (x:aA):Prop:=∀i j,j<i->i<x.ak.length->∀r∈x.ak.getD i [],∀q∈x.ak.getD j [],q.id≠r.id
def wH (S:aO) (x:aA):Prop:=∀i,i<x.ak.length->(S.getD i .zero).root=false->∀r∈x.ak.getD i [],ey S x i r.id≠0
section
variable {x:aA} (hO:Dj x) (hn:x.ak.length<=1048576) (hl:∀i,i<x.ak.length->(x.ak.getD i []).length<=1048576)
 include hO hn hl
theorem Ol {i k:Nat} (hi:i<x.ak.length) (hk:k<(x.ak.getD i []).length):∀(m j:Nat),j+m=i->aT Pz 0 (lp Pz l8 4) (H2 x i k j) (.exit 4) (yN x i k)
 | 0,j,hj=>by
  have hj:j=i:=hj;subst hj;refine bt (Oj x (j:Nat) (k:Nat) (j:Nat)) ?_;simp only [sz];exact ⟨fun h=>ag,fun _=>⟨rfl,rfl⟩⟩
 | m+1,j,hj=>by
  have iK:j<x.ak.length:=ag;have mh:=bB.at x.ak [] i 1 hi rfl;have YD:=bB.at x.ak [] j 1 iK rfl;have aD:=bI.at (x.ak.getD i []) ⟨0,[]⟩ k 2 hk rfl;have w1:=cX j;have gn:=Bx (x.ak.getD j []) ((x.ak.getD i []).getD k ⟨0,[]⟩).id (hl j iK);have gA:¬0<=cE (x.ak.getD j []) ((x.ak.getD i []).getD k ⟨0,[]⟩).id:=fun h=>by
   obtain ⟨q,hq,Ym⟩:=O9.1 h;exact hO i j ag hi _ (bH _ hk) q hq Ym
  have ih:=Ol hi hk m (j+1) ag;refine bt (Oj x (i:Nat) (k:Nat) (j:Nat)) ?_;simp only [sz,w1,bB.af,bI.af,Int.toNat_natCast];refine ⟨fun _=>⟨⟨aB,YD⟩,⟨aB,mh⟩,⟨aB,aD⟩,?_⟩,fun h=>ag⟩;rintro y e;have e:y=cE (x.ak.getD j []) ((x.ak.getD i []).getD k ⟨0,[]⟩).id:=e;rw [<- e] at gn gA;exact ⟨gn,fun h=>absurd h gA,fun _=>ih⟩
theorem Oi {i:Nat} (hi:i<x.ak.length):∀(m k:Nat),k+m=(x.ak.getD i []).length->aT Tryz.prog 0 (lp Tryz.prog l8 2) (yN x i k) (.exit 2) (yM x i)
 | 0,k,hk=>by
  have mh:=bB.at x.ak [] i 1 hi rfl;have hk:k=(x.ak.getD i []).length:=hk;subst hk;refine bZ (E:=C9 x) follows named (Oh x (i:Nat) ((x.ak.getD i []).length:Nat)) ?_;simp only [ba,T.WP,All,bh,bl,bg,bB.af,Int.toNat_natCast];exact ⟨⟨aB,mh⟩,fun h=>by omega,fun _=>⟨rfl,rfl⟩⟩
 | m+1,k,hk=>by
  have mh:=bB.at x.ak [] i 1 hi rfl;have fJ:=hl i hi;have w1:IntKind.i64.wrap ((k:Int)+1)=((k+1:Nat):Int):=bW (by omega);have h4:=Ol hO hn hl hi (show k<_ by omega) i 0 (by omega);have ih:=Oi hi m (k+1) (by omega);refine bZ (E:=C9 x) follows named (Oh x (i:Nat) (k:Nat)) ?_;simp only [ba,T.WP,All,bh,bl,bg,w1,bB.af,Int.toNat_natCast];refine ⟨⟨aB,mh⟩,fun _ => ?_,fun h=>by omega⟩;rintro _ -;exact ⟨⟨a8,.aV h4⟩,ih⟩
theorem Og:∀(m i:Nat),i+m=x.ak.length->aT Tryz.prog 0 (lp Tryz.prog l8 0) (yM x i) (.exit 0) ⟨ah 44 [],[],[]⟩
 | 0,i,hi=>by
  have hi:i=x.ak.length:=hi;subst hi;refine bZ (E:=C8 x) follows named (Of x (x.ak.length:Nat)) ?_;simp only [ba,T.WP,All,bh,bl,bg];exact ⟨fun h=>by omega,fun _=>⟨rfl,rfl⟩⟩
 | m+1,i,hi=>by
  have w1:IntKind.i64.wrap ((i:Int)+1)=((i+1:Nat):Int):=bW (by omega);have h2:=Oi hO hn hl (show i<x.ak.length by omega) (x.ak.getD i []).length 0 (by omega);have ih:=Og m (i+1) (by omega);refine bZ (E:=C8 x) follows named (Of x (i:Nat)) ?_;simp only [ba,T.WP,All,bh,bl,bg,w1];refine ⟨fun _ => ?_,fun h=>by omega⟩;rintro _ -;exact ⟨⟨a8,.aV h2⟩,ih⟩
theorem au7:au Pz l8 [.agg (aM x)] [] ⟨.bool true,[],[]⟩:=by
 have h:=Og hO hn hl x.ak.length 0 ag;refine a6 (au6 x) ?_;simp only [sz];rintro _ -;exact ⟨⟨a8,.aV h⟩,aH⟩
end
theorem Lt {S:aO} {x:aA} (hS:eG S x) (hH:wH S x) {i:Nat} (hi:i<x.ak.length):∀(m k:Nat),k+m=(x.ak.getD i []).length->aT Pz 0 (lp Pz pc 2) (HT S x i k) (.exit 2) (yB S x i)
 | 0,k,hk=>by
  have mh:=bB.at x.ak [] i 1 hi rfl;have hk:k=(x.ak.getD i []).length:=hk;subst hk;refine bt (Ls S x (i:Nat) ((x.ak.getD i []).length:Nat)) ?_;simp only [sz,bB.af,Int.toNat_natCast];exact ⟨⟨aB,mh⟩,fun h=>ag,fun _=>⟨rfl,rfl⟩⟩
 | m+1,k,hk=>by
  have bA:i<S.length:=by rw [<- hS.n];exact hi
  have ki:k<(x.ak.getD i []).length:=ag;have fJ:=hS.eA hi;have mh:=bB.at x.ak [] i 1 hi rfl;have YG:=bN.at S ⟨[],[],[],false⟩ i 4 bA rfl;have aD:=bI.at (x.ak.getD i []) ⟨0,[]⟩ k 2 ki rfl;have w1:=cX k;have cL:=Iq hS (i:Nat) ((x.ak.getD i []).getD k ⟨0,[]⟩).id ⟨ag,ag⟩;rw [Int.toNat_natCast] at cL;have ih:=Lt hS hH hi m (k+1) ag;refine bt (Ls S x (i:Nat) (k:Nat)) ?_;simp only [sz,w1,bB.af,bN.af,bI.af,Int.toNat_natCast];refine ⟨⟨aB,mh⟩,fun _=>⟨⟨aB,YG⟩,fun hr=>⟨⟨aB,mh⟩,⟨aB,aD⟩,?_⟩,fun _=>ih⟩,fun h=>ag⟩;have vu:(S.getD i .zero).root=false:=by
   rw [Bool.not_eq_true'] at hr;exact hr
  have bc:=hH i hi vu _ (bH ⟨0,[]⟩ ki);rintro y e;have e:y=ey S x i ((x.ak.getD i []).getD k ⟨0,[]⟩).id:=e;rw [<- e] at cL bc;exact ⟨cL,fun h=>ag,fun _=>ih⟩
theorem Lq {S:aO} {x:aA} (hS:eG S x) (hH:wH S x) (hn:x.ak.length<=1048576):∀(m i:Nat),i+m=x.ak.length->aT Tryz.prog 0 (lp Tryz.prog pc 0) (yB S x i) (.exit 0) ⟨ah 47 [],[],[]⟩
 | 0,i,hi=>by
  have hi:i=x.ak.length:=hi;subst hi;refine bZ (E:=CV S x) follows named (Lp S x (x.ak.length:Nat)) ?_;simp only [ba,T.WP,All,bh,bl,bg];exact ⟨fun h=>by omega,fun _=>⟨rfl,rfl⟩⟩
 | m+1,i,hi=>by
  have w1:IntKind.i64.wrap ((i:Int)+1)=((i+1:Nat):Int):=bW (by omega);have h2:=Lt hS hH (show i<x.ak.length by omega) (x.ak.getD i []).length 0 (by omega);have ih:=Lq hS hH hn m (i+1) (by omega);refine bZ (E:=CV S x) follows named (Lp S x (i:Nat)) ?_;simp only [ba,T.WP,All,bh,bl,bg,w1];refine ⟨fun _ => ?_,fun h=>by omega⟩;rintro _ -;exact ⟨⟨a8,.aV h2⟩,ih⟩
theorem Xq {S:aO} {x:aA} (hS:eG S x) (hH:wH S x) (hn:x.ak.length<=1048576):au Pz pc [.agg [ab ao S],.agg (aM x)] [] ⟨.bool true,[],[]⟩:=by
 have h:=Lq hS hH hn x.ak.length 0 ag;refine a6 (Xp S x) ?_;simp only [sz];rintro _ -;exact ⟨⟨a8,.aV h⟩,aH⟩
structure qc (x:aA):Prop where
 fit:iT x
 nx:x.next<=1000000
 once:Dj x
 refs:nc aI x=true
 ID:nn aI x=true
 held:wH aI x
theorem aO3 {x:aA} (h:qc x) (hR:p9 aI) (hU:nE aI):au Pz E4 [.agg [ab ao aI],.agg (aM x)] [] ⟨.bool true,[],[]⟩:=by
 have h3:=h.fit.2.n;have hS:=h.fit.2.wo.h;have hr:=PH hS hR;rw [h.refs] at hr;have hu:=Rl hS hU;rw [h.ID] at hu;refine a6 (aO2 aI x) ?_;simp only [sz];rintro _ -;refine ⟨aK2,?_⟩;rintro _ -;refine ⟨V7 h.fit h.nx,?_⟩;rintro _ -;refine ⟨au7 h.once ag (fun i hi=>hS.eA hi),?_⟩;rintro _ -;refine ⟨hr,?_⟩;rintro _ -;refine ⟨hu,?_⟩;rintro _ -;exact ⟨Xq hS h.held ag,aH⟩
def x7 (c:List Rw) (id:Int):Nat:=sumN (fun k=>(cu ((c.getD k .zero).cells.getD 2 []) ⟨4,id,[]⟩).toNat) c.length 0
theorem QT (a b c:List Rw) (n id:Int):ey aI ⟨[a,b,c],n⟩ 1 id=x7 c id:=by
 have e:ey aI ⟨[a,b,c],n⟩ 1 id=0+(0+((0+(0+(x7 c id+0)))+0)):=rfl;rw [e];omega
theorem Is (a c:List Rw) (nx:Int):∀(n k:Nat) (b:List Rw),(swB a c nx n k b true).2=true
 | 0,k,b=>rfl
 | n+1,k,b=>by
  rw [swB];cases decide (k<b.length)
  ·rfl
  ·rw [cond_true];cases ey aI ⟨[a,b,c],nx⟩ 1 (b.getD k .zero).id==0
   ·exact Is a c nx n (k+1) b
   ·exact Is a c nx n k _
theorem QV (a c:List Rw) (nx:Int):∀(n k:Nat) (b:List Rw) (g:Bool),k+n=b.length->(swB a c nx n k b g).2=false->∀j,k<=j->j<b.length->x7 c (b.getD j .zero).id≠0
 | 0,k,b,g,hk,_,j,h1,h2=>by omega
 | n+1,k,b,g,hk,hf,j,h1,h2=>by
  rw [swB,decide_eq_true (show k<b.length by omega),cond_true,QT] at hf;cases h:x7 c (b.getD k .zero).id==0
  ·rw [h,cond_false] at hf;by_cases hj:j=k
   ·subst hj;simpa using h
   ·exact QV a c nx n (k+1) b g (by omega) hf j (by omega) h2
  ·rw [h,cond_true,Is] at hf;cases hf
theorem Ko (a c:List Rw) (nx:Int):∀(n:Nat) (b:List Rw),b.length<n->∀r∈drB a c nx n b,x7 c r.id≠0
 | 0,b,h,_,_=>ag
 | n+1,b,h,r,hr=>by
  obtain ⟨_,_,h3,h4⟩:=tJ a c nx b.length 0 b false;rw [drB] at hr;cases hf:(swB a c nx b.length 0 b false).2
  ·rw [hf,cond_false,h4 hf] at hr;obtain ⟨j,hj,e⟩:=xW Rw.zero hr;rw [<- e];exact QV a c nx b.length 0 b false ag hf j ag hj
  ·rw [hf,cond_true] at hr;have hl:(swB a c nx b.length 0 b false).1.length<b.length:=by
    rcases h3 hf with h | h
    ·cases h
    ·exact h
   exact Ko a c nx n _ ag r hr
theorem aD1 (a b c:List Rw) (n m:Int):wH aI ⟨(dR ⟨[a,b,c],n⟩).ak,m⟩:=by
 intro i hi hr r mZ;have hi:i<3:=hi;have:i=0\/i=1\/i=2:=ag;rcases this with rfl | rfl | rfl
 ·exact absurd hr (by decide)
 ·rw [show (⟨(dR ⟨[a,b,c],n⟩).ak,m⟩:aA)=⟨[a.map (fi (drB a c n (b.length+1) b) 1),drB a c n (b.length+1) b,c],m⟩ from rfl,QT];exact Ko a c n (b.length+1) b ag r mZ
 ·exact absurd hr (by decide)
theorem dV.once {n0 nx:Int} {x:aA} (h:dV n0 nx x):Dj x:=fun i j hj hi r hr q hq=>by
 rw [h.n] at hi;exact h.o j i ag hi ag q hq r hr
theorem Uj {S:aO} {x:aA} (h:ka S x=0):nc S x=true/\nn S x=true:=by
 unfold ka at h;cases h1:nc S x <;> rw [h1] at h
 ·simp at h
 ·cases h2:nn S x <;> rw [h2] at h
  ·simp at h
  ·exact ⟨rfl,rfl⟩
theorem IA {x:aA} {ops:List Op'} {ow:List (List UInt8)} (hx:qc x) (h2:x.next+ops.length<=1000000) (ho:∀o∈ops,mE o) (hn:ops.length<=1048576) (hw:ow.length<=1048576):qc (dt aI x ops ow).1:=by
 have hF:=(Cw (ow:=ow) hx.fit h2 ho hn hw).2;have hI:=Cy (ow:=ow) hx.fit.1 h2 ho ops.length 0 x [] ag (by simpa [cntI] using hx.fit.2);refine ⟨hF.1,by have:=hF.2.2;omega,hF.1.2.once,?_,?_,?_⟩;all_goals
  unfold dt zi;generalize hr:trL aI ops (idsF ops x.next) ow ops.length 0 x []=r at *;cases h:r.2.2
  ·first | exact hx.refs | exact hx.ID | exact hx.held
  ·rw [cond_true];obtain ⟨⟨a,b,c,n,e,_⟩,_⟩:=Pe (hI.2 h);cases hc:ka aI ⟨(dR r.1).ak,nxL (idsF ops x.next) (dR r.1).next⟩ != 0
   ·rw [cond_false];have h0:=Uj (show ka aI ⟨(dR r.1).ak,nxL (idsF ops x.next) (dR r.1).next⟩=0 by simpa using hc);first
     | exact h0.1
     | exact h0.2
     | (rw [e];exact aD1 a b c n _)
   ·first | exact hx.refs | exact hx.ID | exact hx.held
theorem ak4:qc (la aI):=by
 refine ⟨GF,by decide,GF.2.once,by decide,by decide,fun i hi _ r hr => ?_⟩;have hi:i<3:=hi;have:i=0\/i=1\/i=2:=ag;rcases this with rfl | rfl | rfl <;> cases hr
theorem QO:∀(n:Nat) (x:aA) (s:Src) (c:Nat),qc x->x.next+5*n<=1000->s.OK (c+n*825)->qc (stoL n x s).1
 | 0,x,s,c,hx,_,_=>hx
 | n+1,x,s,c,hx,hn,hs=>by
  have hf:=G6 (x:=s) (c:=c+n*825) (hs.less ag);have hg:∀o∈(fo s).1,mE o:=fun o h=>(hf.1 o h).g;have ht:=Cw (ow:=[]) hx.fit (by have:=hf.2.1;omega) hg (by have:=hf.2.1;omega) (by simp);have YC:=IA (ow:=[]) hx (by have:=hf.2.1;omega) hg (by have:=hf.2.1;omega) (by simp);exact QO n (dt aI x (fo s).1 []).1 (fo s).2 c YC (by have:=ht.2.2.2;have:=hf.2.1;omega) hf.2.2
theorem aO8 (l:List UInt8) (h:l.length<=1048576):qc (ry l):=by
 have h0:(fe l).OK (0+9903):=(BW l h).less ag;have hz:=QZ (fe l) (m:=8) ag;have vo:=dJ (x:=fe l) (n:=kC (fe l) 8+5) (c:=9900) (h0.less ag) ag;have h1:(la aI).next=1:=rfl
 exact QO (mv (fe l)).1.toNat (la aI) (mv (fe l)).2 0 ak4 (by have h2:=vo.2;unfold mv;omega) (vo.1.less (by have h2:=vo.2;unfold mv;omega))
abbrev c7:Nat:=153
abbrev EX:Nat:=221
abbrev uM:Nat:=252
abbrev EI:Nat:=251
abbrev uK:Nat:=220
abbrev r9:Nat:=73
abbrev KT:Nat:=176
def yi:cy:=fun f vs hp=>match vs,hp with
 | [.int _ a,.int _ b,.int _ c],[]=>bif Nat.beq f mK then some ⟨bC a b c,fun y=>⟨.bool y,[],[]⟩⟩ else none
 | [.str _],[]=>bif Nat.beq f KT then some ⟨(),fun _=>⟨.bool true,[],[]⟩⟩ else none
 | [.dsl _ _ _],[]=>bif Nat.beq f se||Nat.beq f r8||Nat.beq f uM||Nat.beq f uK then some ⟨(),fun _=>⟨.bool true,[],[]⟩⟩ else bif Nat.beq f r9 then some ⟨(),fun _=>⟨.int .i64 0,[],[]⟩⟩ else none
 | [.agg [.str _,.dsl _ _ _,.dsl _ _ _]],[]=>bif Nat.beq f EX then some ⟨(),fun _=>⟨.bool true,[],[]⟩⟩ else none
 | [.agg [.str _,.int _ _,.dsl _ _ _]],[]=>bif Nat.beq f EI then some ⟨(),fun _=>⟨.bool true,[],[]⟩⟩ else none
 | [.agg [.int _ _,.str _,.str _,.dsl _ _ _,.dsl _ _ _,.dsl _ _ _,.dsl _ _ _,.bool _]],[]=>bif Nat.beq f c7 then some ⟨(),fun _=>⟨.bool true,[],[]⟩⟩ else none
 | _,_=>none
def j6:Env:={P:=Pz,vw:=cj,res:=yi}
def H0 (l:List (List UInt8)) (i:Int):St:=⟨ah 19 [(0,ab encStr l),(3,.int .i64 i)],[],[]⟩
theorem NX (l:List (List UInt8)) (i:Int):bp j6 0 x1 (lp Pz uM 0) (H0 l i)=(
 let q:List V:=[.str (List.getD (af encStr (ae encStr l)) i.toNat [])];bif decide (i<(l.length:Int)) then .ai [0<=i/\i<(l.length:Int),td 1 i (ae encStr l)=q] (.bind PUnit.unit fun _=> .ai [au (Env.P j6)
  176 q [] (aF.mk (.bool true) [] [])] (nz (ah 19 [(0,ab encStr l),(3,aa (wz (i+1)))]) [])) else .done (Ex.exit 0,St.mk (ah 19 [(0,ab encStr l)]) [] []):T _):=kz
def C7:Env:={P:=Pz,vw:=cj,res:=yi,ls:=fun id s=>match id,s.tm.get 0 with
 | 0,.dsl _ _ cs=>some ⟨(),fun _=> .one {keep:=[0,3]} (H0 (af encStr cs) 0) (.exit 0) ⟨ah 19 [(0,ab encStr (af encStr cs))],[],[]⟩⟩
 | _,_=>none}
theorem ar7 (l:List (List UInt8)):fnT C7 0 uM [ab encStr l] []=(
 let q:=af encStr (ae encStr l);
 let q1:=ah 19 [(0,ab encStr q),(3,aa 0)];.bind PUnit.unit fun _=> .ai [St.mk (ah 19 [(0,ab encStr l),(3,aa 0)]) [] []=St.mk q1 [] [],aN (Env.P C7) 0 (blk Pz uM 0) (St.mk q1 [] []) (Ex.exit 0) (St.mk (ah
  19 [(0,ab encStr q)]) [] [])] (dz (.bool (decide ((↑(List.length q):Int)<=8))) [] []):T _):=fz
theorem aL5 (s:Sx):fnT j6 0 EX [.agg (aR s)] []=(
 let q:=aF.mk (.bool true) [] [];bif decide ((s.aC.length:Int)<=40) then .bind PUnit.unit fun _=> .ai [au (Env.P j6) 190 [ab aj s.val] [] q] (.bind PUnit.unit fun _=> .ai [au (Env.P j6) 252 [ab encStr s.names]
  [] q] (bif (s.names.length:Int)==0 then dz (.bool true) [] [] else dz (.bool ((s.val.length:Int)==0)) [] [])) else dz (.bool false) [] []:T _):=kz
theorem ai2 (m:Mt):fnT j6 0 EI [.agg (bR m)] []=(
 .bind (bC m.func (1:Int) (7:Int)) fun y0=> .ai [au (Env.P j6) 51 [aa m.func,aa 1,aa 7] [] (aF.mk (.bool y0) [] [])] (bif y0 then .bind PUnit.unit fun _=> .ai [au (Env.P j6) 190 [ab aj m.val] [] (aF.mk (.bool
  true) [] [])] (dz (.bool (decide ((m.aC.length:Int)<=40))) [] []) else dz (.bool false) [] []):T _):=fz
def HZ (l:List Mt) (i:Int):St:=⟨ah 19 [(0,ab bR l),(3,.int .i64 i)],[],[]⟩
theorem Nh (l:List Mt) (i:Int):bp j6 0 x1 (lp Pz uK 0) (HZ l i)=(
 let q:=List.getD (af bR (ae bR l)) i.toNat (aZ.mk [] (0:Int) []);bif decide (i<(l.length:Int)) then .ai [0<=i/\i<(l.length:Int),td 3 i (ae bR l)=aE q] (.bind PUnit.unit fun _=> .ai [au (Env.P
  j6) 251 [.agg (aE q)] [] (aF.mk (.bool true) [] [])] (nz (ah 19 [(0,ab bR l),(3,aa (wz (i+1)))]) [])) else .done (Ex.exit 0,St.mk (ah 19 [(0,ab bR l)]) [] []):T _):=kz
def C6:Env:={P:=Pz,vw:=cj,res:=yi,ls:=fun id s=>match id,s.tm.get 0 with
 | 0,.dsl _ _ cs=>some ⟨(),fun _=> .one {keep:=[0,3]} (HZ (af bR cs) 0) (.exit 0) ⟨ah 19 [(0,ab bR (af bR cs))],[],[]⟩⟩
 | _,_=>none}
theorem mqT (l:List Mt):fnT C6 0 uK [ab bR l] []=(
 let q:=af bR (ae bR l);
 let q1:=ah 19 [(0,ab bR q),(3,aa 0)];.bind PUnit.unit fun _=> .ai [St.mk (ah 19 [(0,ab bR l),(3,aa 0)]) [] []=St.mk q1 [] [],aN (Env.P C6) 0 (blk Pz uK 0) (St.mk q1 [] []) (Ex.exit 0) (St.mk (ah
  19 [(0,ab bR q)]) [] [])] (dz (.bool (decide ((↑(List.length q):Int)<=8))) [] []):T _):=fz
def G0 (o:Op'):Option bM:=some (aK o,178)
def H6 (o:Op') (i:Int):St:=⟨ah 168 [(1,.ptr 0 0),(3,.int .i64 i)],[G0 o],[]⟩
def H7 (o:Op') (i:Int):St:=⟨ah 168 [(1,.ptr 0 0),(4,.int .i64 i)],[G0 o],[]⟩
def Ca (o:Op'):St:=⟨ah 168 [(1,.ptr 0 0)],[G0 o],[]⟩
def ap2:Ex->Kp:=fun ex=>match ex with
 | .normal=>{keep:=[1,3]}
 | .ret=>{keep:=[2]}
 | _=>{keep:=[1]}
def ap3:Ex->Kp:=fun ex=>match ex with
 | .normal=>{keep:=[1,4]}
 | .ret=>{keep:=[2]}
 | _=>{keep:=[1]}
theorem OT (o:Op') (i:Int):bp j6 0 ap2 (lp Pz c7 0) (H6 o i)=(
 let q:=List.getD (af aR (ae aR o.row)) i.toNat (Sx.mk [] [] []);bif decide (i<(o.row.length:Int)) then .ai [0<=i/\i<(o.row.length:Int),td 3 i (ae aR o.row)=aR q] (.bind PUnit.unit fun _=> .ai [au
  (Env.P j6) 221 [.agg (aR q)] [] (aF.mk (.bool true) [] [])] (nz (ah 168 [(1,pp 0),(3,aa (wz (i+1)))]) [some (aK o,178)])) else .done (Ex.exit 0,St.mk (ah 168 [(1,pp 0)]) [some (aK o,178)] []):T _):=kz
theorem OW (o:Op') (i:Int):bp j6 0 ap3 (lp Pz c7 2) (H7 o i)=(
 let q:=List.getD (af encStr (ae encStr o.av)) i.toNat [];bif decide (i<(o.av.length:Int)) then .ai [0<=i/\i<(o.av.length:Int),td 1 i (ae encStr o.av)=[.str q]] (bif decide ((↑(List.length q):Int)>40)
  then .done (Ex.ret,St.mk (ah 168 [(2,.bool false)]) [] []) else nz (ah 168 [(1,pp 0),(4,aa (wz (i+1)))]) [some (aK o,178)]) else .done (Ex.exit 2,St.mk (ah 168 [(1,pp 0)]) [some (aK o,178)] []):T _):=kz
def Il (l:List Op') (i:Int):St:=⟨ah 19 [(0,ab aK l),(3,.int .i64 i)],[],[]⟩
def ar2:Ex->Kp:=fun ex=>match ex with
 | .normal=>{keep:=[0,3]}
 | .ret=>{keep:=[2]}
 | _=>{keep:=[]}
theorem RO (l:List Op') (i:Int):bp j6 0 ar2 (lp Pz r9 0) (Il l i)=(
 let q:=List.getD (af aK (ae aK l)) i.toNat (Op'.mk (0:Int) [] [] [] [] [] [] false);bif decide (i<(l.length:Int)) then .ai [0<=i/\i<(l.length:Int),td 8 i (ae aK l)=aK q] (.bind PUnit.unit fun _=>
  .ai [au (Env.P j6) 153 [.agg (aK q)] [] (aF.mk (.bool true) [] [])] (nz (ah 19 [(0,ab aK l),(3,aa (wz (i+1)))]) [])) else .done (Ex.exit 0,St.mk (ah 19 []) [] []):T _):=kz
def Je:Env:={P:=Pz,vw:=cj,res:=yi,ls:=fun id s=>match id,s.tm.get 0 with
 | 0,.dsl _ _ cs=>some ⟨(),fun _=> .one {keep:=[0,3]} (Il (af aK cs) 0) (.exit 0) ⟨ah 19 [],[],[]⟩⟩
 | _,_=>none}
theorem zqT (l:List Op'):fnT Je 0 r9 [ab aK l] []=(
 let q:=ah 19 [(0,ab aK (af aK (ae aK l))),(3,aa 0)];bif decide ((l.length:Int)>8) then dz (aa 6) [] [] else .bind PUnit.unit fun _=> .ai [St.mk (ah 19 [(0,ab aK l),(3,aa 0)]) [] []=St.mk q []
  [],aN (Env.P Je) 0 (blk Pz r9 0) (St.mk q [] []) (Ex.exit 0) (St.mk (ah 19 []) [] [])] (dz (aa 0) [] []):T _):=kz
theorem ar5 {n:List UInt8} (h:n=[112]\/n=[113]):au Pz KT [.str n] [] ⟨.bool true,[],[]⟩:=by
 rcases h with rfl | rfl
 ·exact jV (n:=100) (d:=10) kz
 ·exact jV (n:=100) (d:=10) kz
theorem NY (l:List (List UInt8)) (hc:∀n∈l,n=[112]\/n=[113]) (hl:l.length<=1048576):∀(k i:Nat),i+k=l.length->aT Pz 0 (lp Pz uM 0) (H0 l i) (.exit 0) ⟨ah 19 [(0,ab encStr l)],[],[]⟩
 | 0,i,hi=>by
  have hi:i=l.length:=hi;subst hi;refine bt (NX l (l.length:Nat)) ?_;simp only [sz];exact ⟨fun h=>ag,fun _=>⟨rfl,rfl⟩⟩
 | k+1,i,hi=>by
  have bA:i<l.length:=ag;have aD:=cx.at l [] i 1 bA rfl;have w1:=cX i;have ih:=NY l hc hl k (i+1) ag;refine bt (NX l (i:Nat)) ?_;simp only [sz,w1,cx.af,Int.toNat_natCast];refine ⟨fun _=>⟨⟨aB,aD⟩,?_⟩,fun h=>ag⟩;rintro _ -;exact ⟨ar5 (hc _ (bH _ bA)),ih⟩
theorem ar6 {l:List (List UInt8)} (hc:∀n∈l,n=[112]\/n=[113]) (hl:l.length<=8):au Tryz.prog uM [ab encStr l] [] ⟨.bool true,[],[]⟩:=by
 have dy:=NY l hc (by omega) l.length 0 (by omega);refine iG (E:=C7) follows named (ar7 l) (by simp) ?_;simp only [T.WP,All,bg,cx.af];rintro _ -;refine ⟨⟨a8,.aV dy⟩,?_⟩;rw [decide_eq_true (show (l.length:Int)<=8 by omega)];exact ⟨rfl,rfl,by simp⟩
structure zQ (s:Sx):Prop where
 c:s.aC.length<=40
 d:∃k,cq k s.val
 l:s.val.length<=8
 n:∀n∈s.names,n=[112]\/n=[113]
 nl:s.names.length<=8
 e:s.names=[]\/s.val=[]
theorem aL6 {s:Sx} (h:zQ s):au Pz EX [.agg (aR s)] [] ⟨.bool true,[],[]⟩:=by
 obtain ⟨k,hd⟩:=h.d;refine a6 (aL5 s) ?_;simp only [sz];refine ⟨fun _ => ?_,fun hh=>absurd (show (s.aC.length:Int)<=40 by have:=h.c;omega) hh⟩;rintro _ -;refine ⟨Aa hd h.l,?_⟩;rintro _ -;refine ⟨ar6 h.n h.nl,fun _=>aH,fun hn => ?_⟩;rcases h.e with e | e
 ·rw [e] at hn;exact absurd rfl hn
 ·rw [e];exact aH
structure wL (m:Mt):Prop where
 f:1<=m.func/\m.func<=7
 d:∃k,cq k m.val
 l:m.val.length<=8
 c:m.aC.length<=40
theorem ai3 {m:Mt} (h:wL m):au Pz EI [.agg (bR m)] [] ⟨.bool true,[],[]⟩:=by
 obtain ⟨k,hd⟩:=h.d;refine a6 (ai2 m) ?_;simp only [sz];rintro y e;have hy:y=true:=by rw [e];unfold bC;rw [Bool.and_eq_true,decide_eq_true_eq,decide_eq_true_eq];exact h.f
 refine ⟨by rw [e];exact fB _ _ _,fun _ => ?_,fun h=>by rw [hy] at h;cases h⟩;rintro _ -;refine ⟨Aa hd h.l,?_⟩;rw [decide_eq_true (show (m.aC.length:Int)<=40 by have:=h.c;omega)];exact aH
theorem Ni (l:List Mt) (hc:∀c∈l,wL c) (hl:l.length<=1048576):∀(k i:Nat),i+k=l.length->aT Pz 0 (lp Pz uK 0) (HZ l i) (.exit 0) ⟨ah 19 [(0,ab bR l)],[],[]⟩
 | 0,i,hi=>by
  have hi:i=l.length:=hi;subst hi;refine bt (Nh l (l.length:Nat)) ?_;simp only [sz];exact ⟨fun h=>ag,fun _=>⟨rfl,rfl⟩⟩
 | k+1,i,hi=>by
  have bA:i<l.length:=ag;have aD:=cp.at l ⟨[],0,[]⟩ i 3 bA rfl;have w1:=cX i;have ih:=Ni l hc hl k (i+1) ag;refine bt (Nh l (i:Nat)) ?_;simp only [sz,w1,cp.af,Int.toNat_natCast];refine ⟨fun _=>⟨⟨aB,aD⟩,?_⟩,fun h=>ag⟩;rintro _ -;exact ⟨ai3 (hc _ (bH _ bA)),ih⟩
theorem ou {l:List Mt} (hc:∀c∈l,wL c) (hl:l.length<=8):au Tryz.prog uK [ab bR l] [] ⟨.bool true,[],[]⟩:=by
 have dy:=Ni l hc (by omega) l.length 0 (by omega);refine iG (E:=C6) follows named (mqT l) (by simp) ?_;simp only [T.WP,All,bg,cp.af];rintro _ -;refine ⟨⟨a8,.aV dy⟩,?_⟩;rw [decide_eq_true (show (l.length:Int)<=8 by omega)];exact ⟨rfl,rfl,by simp⟩
theorem m4 {o:Op'} (hc:∀s∈o.row,zQ s) (hl:o.row.length<=1048576):∀(k i:Nat),i+k=o.row.length->aT Pz 0 (lp Pz c7 0) (H6 o i) (.exit 0) (Ca o)
 | 0,i,hi=>by
  have hi:i=o.row.length:=hi;subst hi;refine bt (OT o (o.row.length:Nat)) ?_;simp only [sz];exact ⟨fun h=>ag,fun _=>⟨rfl,rfl⟩⟩
 | k+1,i,hi=>by
  have bA:i<o.row.length:=ag;have aD:=eE.at o.row ⟨[],[],[]⟩ i 3 bA rfl;have w1:=cX i;have ih:=m4 hc hl k (i+1) ag;refine bt (OT o (i:Nat)) ?_;simp only [sz,w1,eE.af,Int.toNat_natCast];refine ⟨fun _=>⟨⟨aB,aD⟩,?_⟩,fun h=>ag⟩;rintro _ -;exact ⟨aL6 (hc _ (bH _ bA)),ih⟩
theorem m5 {o:Op'} (hc:∀n∈o.av,n.length<=40) (hl:o.av.length<=1048576):∀(k i:Nat),i+k=o.av.length->aT Pz 0 (lp Pz c7 2) (H7 o i) (.exit 2) (Ca o)
 | 0,i,hi=>by
  have hi:i=o.av.length:=hi;subst hi;refine bt (OW o (o.av.length:Nat)) ?_;simp only [sz];exact ⟨fun h=>ag,fun _=>⟨rfl,rfl⟩⟩
 | k+1,i,hi=>by
  have bA:i<o.av.length:=ag;have aD:=cx.at o.av [] i 1 bA rfl;have w1:=cX i;have ih:=m5 hc hl k (i+1) ag;have hle:=hc _ (bH ([]:List UInt8) bA);refine bt (OW o (i:Nat)) ?_;simp only [sz,w1,cx.af,Int.toNat_natCast];exact ⟨fun _=>⟨⟨aB,aD⟩,fun h=>ag,fun _=>ih⟩,fun h=>ag⟩
structure nB (o:Op'):Prop where
 t:o.table.length<=40
 n:o.name.length<=40
 w:∀q∈o.aS,nu q
 wl:o.aS.length<=8
 m:∀q∈o.cC,wL q
 ml:o.cC.length<=8
 r:∀q∈o.row,zQ q
 rl:o.row.length<=6
 c:∀q∈o.av,q.length<=40
 cl:o.av.length<=6
abbrev pf:Nat:=76
abbrev xe:Nat:=27
abbrev rA:Nat:=185
abbrev Q2:Nat:=53
def IG:Vw:=fun t cs i=>bif Nat.beq t rA then some (bL ((af bL cs).getD i bV.zero)) else cj t cs i
def Ht:cy:=fun f vs hp=>match vs,hp with
 | [.agg [.int _ n,.dsl _ _ cs]],[]=>bif Nat.beq f ly then some ⟨(),fun _=>⟨.agg [.int .i64 n,.sl 0 0 (af aG cs).length false],[some ([.aw (ae aG (af aG cs))],ix)],[]⟩⟩ else none
 | [.agg [.dsl _ _ _],.agg [.dsl _ _ _,.int _ _]],[]=>bif Nat.beq f E4 then some ⟨(),fun _=>⟨.bool true,[],[]⟩⟩ else none
 | [.agg [.dsl _ _ ts,.int _ n]],[]=>bif Nat.beq f eT then some ⟨(),fun _=>⟨.agg (aM ⟨af az ts,n⟩),[],[]⟩⟩ else none
 | [.dsl _ _ cs],[]=>bif Nat.beq f r9 then some ⟨(),fun _=>⟨.int .i64 0,[],[]⟩⟩ else bif Nat.beq f pf then some ⟨(),fun _=>⟨ab bL (af bL cs),[],[]⟩⟩ else none
 | [.agg [.dsl _ _ cs],.agg [.dsl _ _ ts,.int _ n],.dsl _ _ os,.dsl _ _ ws],[]=>bif Nat.beq f jA then some ⟨dt (af ao cs) ⟨af az ts,n⟩ (af aK os) (af encStr ws),fun y=>⟨.tup [.agg (aM y.1),ab bL y.2.1,.bool y.2.2],[],[]⟩⟩ else none
 | _,_=>none
def oP:Env:={P:=Pz,vw:=IG,res:=Ht}
def B8 (L o:List bV) (i:Int) (r:bV) (rs:List Rw) (k:Int):St:=⟨ah 48 [(0,ab bL L),(3,.sl 0 0 o.length false),(4,.int .i64 i),(5,.ptr 1 0),(6,.sl 2 0 rs.length false),(7,.int .i64 k)],[some ([.aw (ae bL o)],rA),some (bL r,rA),some ([.aw (ae aq rs)],Q2)],[]⟩
def QK (L o:List bV) (i:Int) (r:bV) (rs:List Rw):St:=⟨ah 48 [(0,ab bL L),(3,.sl 0 0 o.length false),(4,.int .i64 i),(5,.ptr 1 0),(6,.sl 2 0 rs.length false)],[some ([.aw (ae bL o)],rA),some (bL r,rA),some ([.aw (ae aq rs)],Q2)],[]⟩
def ao4:Ex->Kp:=fun ex=>match ex with
 | .normal=>{keep:=[0,3,4,5,6,7],rk:=true}
 | .ret=>{keep:=[2]}
 | _=>{keep:=[0,3,4,5,6]}
def B7 (L o:List bV) (i:Int):St:=⟨ah 48 [(0,ab bL L),(3,.sl 0 0 o.length false),(4,.int .i64 i)],[some ([.aw (ae bL o)],rA)],[]⟩
def ao3:Ex->Kp:=fun ex=>match ex with
 | .normal=>{keep:=[0,3,4],rk:=true}
 | .ret=>{keep:=[2]}
 | _=>{keep:=[3]}
theorem OI (L o:List bV) (i:Int) (r:bV) (rs:List Rw) (k:Int):bp oP 0 ao4 (lp Pz pf 2) (B8 L o i r rs k)=(
 let q:=List.getD (af aq (ae aq r.rows)) k.toNat (Rw.mk (0:Int) []);
 let q1:=af aG (ae aG (Rw.cells q));bif decide (k<(r.rows.length:Int)) then .ai [0<=k/\k<(r.rows.length:Int),td 2 k (ae aq r.rows)=(aq q)] (.bind PUnit.unit fun _=> .ai [au (Env.P oP) 154 [.agg
  (aq q)] [] (aF.mk (.agg [aa (Rw.id q),.sl 0 0 (List.length q1) false]) [some ([.aw (ae aG q1)],32)] [])] (.ai [0=0,List.length (ae aq rs)=rs.length*2,rs.length+1<=9223372036854775807,(rs.length+1) *
  32<=140737488355328] (nz (ah 48 [(0,ab bL L),(3,.sl 0 0 o.length false),(4,aa i),(5,pp 1),(6,.sl 2 0 (rs.length+1) false),(7,aa (wz (k+1)))]) [some ([.aw (ae bL o)],185),some ([aa r.code,aa r.count,
  aa r.id,ab encStr r.av,ab aq r.rows],185),some ([.aw (ae aq rs++[aa (Rw.id q),ab aG q1])],53)]))) else .done (Ex.exit 2,St.mk (ah 48 [(0,ab bL L),(3,.sl 0 0 o.length false),(4,aa i),(5,pp 1),
  (6,.sl 2 0 rs.length false)]) [some ([.aw (ae bL o)],185),some ([aa r.code,aa r.count,aa r.id,ab encStr r.av,ab aq r.rows],185),some ([.aw (ae aq rs)],53)] []):T _):=kz
def Si (L o:List bV) (i:Int) (r:bV):Env:={P:=Pz,vw:=IG,res:=Ht,ls:=fun id s=>match id,s.tm.get 3,s.tm.get 5,s.tm.get 6 with
 | 2,.sl ob _ _ _,.ptr bx _,.sl rb _ _ _=>some ⟨(),fun _=> .one {keep:=[0,3,4,5,6,7],eu:=[6],perm:=some ([ob,bx,rb],[0,2])} (B8 L o i r [] 0) (.exit 2) (QK L o i r r.rows)⟩
 | _,_,_,_=>none}
theorem OG (L o:List bV) (i:Int) (r:bV):bp (Si L o i r) 0 ao3 (lp Pz pf 0) (B7 L o i)=(
 let q:=List.getD (af bL (ae bL L)) i.toNat (bV.mk (0:Int) (0:Int) (0:Int) [] []);
 let q1:=ah 48 [(0,ab bL L),(3,.sl 0 0 o.length false),(4,aa i),(5,pp 1),(6,.sl 2 0 0 false),(7,aa 0)];
 let q3:List V:=[.aw (ae bL o)];
 let q2:Hp:=[some (q3,185),some ([aa r.code,aa r.count,aa r.id,ab encStr r.av,ab aq r.rows],185),some ([.aw []],53)];
 let q4:=ae encStr (bV.av q);
 let q5:=0+List.length (bV.av q);bif decide (i<(L.length:Int)) then .ai [0<=i/\i<(L.length:Int),td 5 i (ae bL L)=[aa (bV.code q),aa (bV.count q),aa (bV.id q),ab encStr (bV.av q),ab aq
  (bV.rows q)]] (.ai [List.length q4=List.length (bV.av q)*1,List.all q4 V.one=true,0=0,0=0,0+List.length (bV.av q)<=9223372036854775807,q5*16<=140737488355328] (.bind PUnit.unit fun _=> .ai [St.mk q1
  [some (q3,185),some ([aa (bV.code q),aa (bV.count q),aa (bV.id q),.dsl q5 false q4,ab aq (bV.rows q)],185),some ([.aw []],53)] []=St.mk q1 q2 [],aN Pz 0 (blk Pz pf 2) (St.mk q1 q2 []) (Ex.exit 2) (St.mk
  (ah 48 [(0,ab bL L),(3,.sl 0 0 o.length false),(4,aa i),(5,pp 1),(6,.sl 2 0 r.rows.length false)]) [some (q3,185),some ([aa r.code,aa r.count,aa r.id,ab encStr r.av,ab aq r.rows],185),some ([.aw
  (ae aq r.rows)],53)] [])] (.ai [0=0,List.length (ae bL o)=o.length*5,o.length+1<=9223372036854775807,(o.length+1)*72<=140737488355328] (nz (ah 48 [(0,ab bL L),(3,.sl 0 0 (o.length+1) false),
  (4,aa (wz (i+1)))]) [some ([.aw (ae bL o++[aa r.code,aa r.count,aa r.id,ab encStr r.av,ab aq r.rows])],185)])))) else .done (Ex.exit 0,St.mk (ah 48 [(3,.sl 0 0 o.length false)]) [some (q3,185)] []):T _):=kz
def Sj (L:List bV):Env:={P:=Pz,vw:=IG,res:=Ht,ls:=fun id _=>match id with
 | 0=>some ⟨(),fun _=> .one {keep:=[0,3,4],eu:=[3]} (B7 L [] 0) (.exit 0) ⟨ah 48 [(3,.sl 0 0 L.length false)],[some ([.aw (ae bL L)],rA)],[]⟩⟩
 | _=>none}
theorem az5 (L:List bV):fnT (Sj L) 0 pf [ab bL L] []=(
 let q:=ah 48 [(0,ab bL L),(3,.sl 0 0 0 false),(4,aa 0)];
 let q1:Hp:=[some ([.aw []],185)];.bind PUnit.unit fun _=> .ai [St.mk q q1 []=St.mk q q1 [],aN Pz 0 (blk Pz pf 0) (St.mk q q1 []) (Ex.exit 0) (St.mk (ah 48 [(3,.sl 0 0 L.length false)]) [some ([.aw (ae bL
  L)],185)] [])] (dz (ab bL L) [] []):T _):=fz
theorem aS6 (S:aO) (x:aA) (ops:List Op') (ow:List (List UInt8)):fnT oP 0 xe [.agg [ab ao S],.agg (aM x),ab aK ops,ab encStr ow] []=(
 let q:=aA.mk (af az (ae az x.ak)) x.next;
 let q1:V:= .tup [.agg [.dsl 0 false [],aa 0],.dsl 0 false [],aa 2];bif decide ((ops.length:Int)>4096) then dz q1 [] [] else bif decide ((ow.length:Int)>4096) then dz q1 [] [] else .bind PUnit.unit fun _=> .ai [au
  (Env.P oP) 72 [.agg [ab ao S],.agg (aM x)] [] (aF.mk (.bool true) [] [])] (.bind PUnit.unit fun _=> .ai [au (Env.P oP) 73 [ab aK ops] [] (aF.mk (aa 0) [] [])] (bif decide (wz (x.next+(ops.length:Int)) >
  1000000) then .bind PUnit.unit fun _=> .ai [au (Env.P oP) 74 [.agg (aM x)] [] (aF.mk (.agg (aM q)) [] [])] (dz (.tup [.agg (aM q),.dsl 0 false [],aa 7]) [] []) else .bind (dt (af ao (ae ao S)) q (af
  aK (ae aK ops)) (af encStr (ae encStr ow))) fun y3=>
 let q2:=aM (aA.mk (af az (ae az y3.1.ak)) y3.1.next);
 let q3:=af bL (ae bL (y3.2.1));.ai [au (Env.P oP) 75 [.agg [ab ao S],.agg (aM x),ab aK ops,ab encStr ow] [] (aF.mk (.tup [.agg (aM y3.1),ab bL (y3.2.1),.bool (y3.2.2)]) [] [])] (.bind
  PUnit.unit fun _=> .ai [au (Env.P oP) 74 [.agg (aM y3.1)] [] (aF.mk (.agg q2) [] [])] (.bind PUnit.unit fun _=> .ai [au (Env.P oP) 76 [ab bL (y3.2.1)] [] (aF.mk (ab bL q3) [] [])] (dz (.tup [.agg q2,ab
  bL q3,aa 0]) [] []))))):T _):=kz
end Go.Proofs.YtlomaojlpodibaaGreat
end

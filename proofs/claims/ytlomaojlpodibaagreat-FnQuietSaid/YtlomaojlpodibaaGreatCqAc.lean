/-
  Conditions that are drawn.
  What is drawn, as a function of the source; lists of conditions that are drawn.
  Mutations that are drawn.
  Names of columns that are drawn; mutations as a function of the source.
  Steps one behind the other; a contract's blocks, said in another way ahead of the call or behind it.
  Copies of rows and stores.
  Searches of the reference: a row's place, a column, a table; are two sets the same; does a set fit a column.
  Copies of stores, all one's own.
  What searches give, in one table; how many cells refer to a row strongly.
  What is referred to is there; what must be unique is.
  What must be unique is; the code of a commit.
  Sets joined, lessened; what a column has first; numbers reckoned; a row's cell by its name.
  Which rows do.
  Mutations.
  Copies of stores whose rows are only read; a new store.
  A row put into a store, a row dropped.
  Copies of stores; of the first table, all is one's own.
  A row of the second table dropped; of the first table, all is one's own.
  Weak references to what is not there go.
  Weak references to what is not there go: all tables.
  Rows that nobody holds go: trees.
  Rows that nobody holds go; pruning.
  Pruning, as a function.
  Pruning, as a function: all sweeps.
  Pruning, as a function: the function.
-/
import Derived.Test.YtlomaojlpodibaaGreatCqAb
noncomputable section
namespace Go.Proofs.YtlomaojlpodibaaGreat
open Go.RowKit
set_option maxRecDepth 100000
theorem kL {E:Env} (hm:E.P.follows .mixedOrders=true) (hn:ee E.P) {mode:Nat} {f:FuncId} {vs:List V} {hp:Hp} {t:T aF} {Q:aF->Prop} (e:fnT E mode f vs hp=t) (h:t.WP Q):∃r,au E.P f vs hp r/\Q r:=by
 subst e;exact Fb hm hn h
theorem qY:au Pz nR [] [] ⟨.agg [ab ao aI],[],[]⟩:=by
 refine a6 aB3 ?_;exact aH
structure qd (tb:Tb):Prop where
 ne:1<=tb.av.length
 le:tb.av.length<=1000
 kd:∀c∈tb.av,1<=c.kind/\c.kind<=4
def mz:List UInt8:=[95,117,117,105,100]
structure gE (tb:Tb) (q:aZ):Prop where
 fn:1<=q.func/\q.func<=8
 len:q.val.length<=8
 aC:(q.aC=mz/\cq 4 q.val/\q.val.length=1/\¬(3<=q.func/\q.func<=6))\/∃c∈tb.av,q.aC=c.name/\cq c.kind q.val/\(3<=q.func/\q.func<=6->c.kind=1/\q.val.length=1)
theorem fB (n lo hi:Int):au Pz mK [.int .i64 n,.int .i64 lo,.int .i64 hi] [] ⟨.bool (decide (lo<=n)&&decide (n<=hi)),[],[]⟩:=by
 refine a6 (Zm n lo hi) ?_;simp only [sz];refine ⟨fun h => ?_,fun h => ?_⟩
 ·rw [decide_eq_true h];exact aH
 ·rw [decide_eq_false h];exact aH
theorem fx {x:Src} {c:Nat} {n:Int} (h:x.OK (c+3)) (hn:1<=n):(bq x n).2.OK c:=(dJ h hn).1
theorem M1 (n:Int) (h:0<=n/\n<4):([V.int .i64 1,.int .i64 2,.int .i64 7,.int .i64 8]:List V)[0+n.toNat*1]?=some (.int .i64 ([1,2,7,8].getD n.toNat 0))/\¬(3<=([1,2,7,8]:List Int).getD n.toNat 0/\([1,2,7,8]:List Int).getD n.toNat 0<=6)/\1<=([1,2,7,8]:List Int).getD n.toNat 0/\([1,2,7,8]:List Int).getD n.toNat 0<=8:=by
 have:n=0\/n=1\/n=2\/n=3:=ag;rcases this with rfl | rfl | rfl | rfl <;> exact ⟨rfl,by decide,by decide,by decide⟩
theorem zf (S:aO) (t:Int) (ht:0<=t/\t<S.length):((ae ao S).drop (t.toNat*4)).take 4=ao (S.getD t.toNat ⟨[],[],[],false⟩):=bN.at' S ⟨[],[],[],false⟩ t 4 ht rfl
theorem oQ (C:List aL) (n:Int) (h:0<=n/\n<C.length):((ae aY C).drop (n.toNat*8)).take 8=aY (C.getD n.toNat ⟨[],0,0,0,0,0,[],false⟩)/\C.getD n.toNat ⟨[],0,0,0,0,0,[],false⟩∈C:=by
 refine ⟨db.at' C ⟨[],0,0,0,0,0,[],false⟩ n 8 h rfl,?_⟩;rw [List.getD_eq_getElem?_getD,List.getElem?_eq_getElem ag];exact List.getElem_mem _
def RR (tb:Tb) (c:Nat) (r:aF):Prop:=∃q x',r=⟨.agg (aE q),[ar x'],[0]⟩/\gE tb q/\x'.OK c
theorem TY {S:aO} (hS:au Tryz.prog nR [] [] ⟨.agg [ab ao S],[],[]⟩) (x:Src) (t:Int) (ht:0<=t/\t<S.length) (hT:qd (S.getD t.toNat ⟨[],[],[],false⟩)) {c:Nat} (h:x.OK (c+40)):
  ∃q x',au Tryz.prog oV [.ptr 0 0,.int .i64 t] [ar x] ⟨.agg (aE q),[ar x'],[0]⟩/\gE (S.getD t.toNat ⟨[],[],[],false⟩) q/\x'.OK c:=by
 have aD:=zf S t ht;suffices hh:∃r,au Tryz.prog oV [.ptr 0 0,.int .i64 t] [ar x] r/\RR (S.getD t.toNat ⟨[],[],[],false⟩) c r by
  obtain ⟨r,h1,q,x',rfl,h2,h3⟩:=hh;exact ⟨q,x',h1,h2,h3⟩
 have o1:(bq x 8).2.OK (c+37):=fx (c:=c+37) (h.less (by omega)) (by omega);by_cases hc:(bq x 8).1=true
 ·have o2:=dJ (c:=c+34) (n:=4) (o1.less (by omega)) (by omega);obtain ⟨l1,l2,l3,l4⟩:=M1 _ o2.2;refine kL (E:=CL S _) follows named (JZ S x (([1,2,7,8]:List Int).getD (aU (bq x 8).2 4).1.toNat 0) t) ?_;simp only [ba,T.WP,All,bg,bm,bn,bo,dZ,bN.af,db.af];rintro y -;refine ⟨hS,⟨⟨ht.1,ht.2⟩,aD⟩,?_⟩;rintro y rfl;refine ⟨gy (c:=c+37) _ _ (h.less (by omega)) (by omega),fun _ => ?_,(fun h=>by rw [hc] at h;cases h)⟩;rintro y rfl;refine ⟨fD (c:=c+34) _ _ (o1.less (by omega)),⟨o2.2.1,o2.2.2⟩,l1,?_⟩;rintro y rfl;have ha:=rP (x:=(aU (bq x 8).2 4).2) (k:=4) (c:=c+31) (o2.1.less (by omega)) (by omega);have Xb:=lX (aU (bq x 8).2 4).2 4 (c:=c+31) (o2.1.less (by omega));exact ⟨rQ (c:=c+31) _ _ (o2.1.less (by omega)),⟨mz,_,[_]⟩,_,rfl,⟨⟨l3,l4⟩,by simp,.inl ⟨rfl,.one ha,rfl,l2⟩⟩,Xb.less (by omega)⟩
 ·have hc:(bq x 8).1=false:=by simpa using hc
  generalize Ga:S.getD t.toNat ⟨[],[],[],false⟩=tb at *;have o4:=dJ (c:=c+34) (n:=(tb.av.length:Int)) (o1.less (by omega)) (by have:=hT.ne;omega);obtain ⟨b6,cN⟩:=oQ tb.av _ o4.2;have kN:=hT.kd _ cN;have o5:=dJ (c:=c+31) (n:=4) (o4.1.less (by omega)) (by omega);obtain ⟨l1,l2,l3,l4⟩:=M1 _ o5.2;refine kL (E:=CL S _) follows named (JZ S x (([1,2,7,8]:List Int).getD (aU (aU (bq x 8).2 (tb.av.length:Int)).2 4).1.toNat 0) t) ?_;simp only [ba,T.WP,All,bg,bm,bn,bo,dZ,bN.af,db.af,Ga];generalize ic:tb.av.getD (aU (bq x 8).2 (tb.av.length:Int)).1.toNat ⟨[],0,0,0,0,0,[],false⟩=aC at *;generalize hv:([1,2,7,8]:List Int).getD (aU (aU (bq x 8).2 (tb.av.length:Int)).2 4).1.toNat 0=v at *;have o6:=wY (aU (aU (bq x 8).2 (tb.av.length:Int)).2 4).2 aC.kind (c:=c+16) (o5.1.less (by omega));have d6:=Ad (x:=(aU (aU (bq x 8).2 (tb.av.length:Int)).2 4).2) (k:=aC.kind) (c:=c+16) (o5.1.less (by omega)) kN;rintro y -;refine ⟨hS,⟨⟨ht.1,ht.2⟩,aD⟩,?_⟩;rintro y rfl;refine ⟨gy (c:=c+37) _ _ (h.less (by omega)) (by omega),(fun h=>by rw [hc] at h;cases h),fun _ => ?_⟩;rintro y rfl;simp only [ic];refine ⟨fD (c:=c+34) _ _ (o1.less (by omega)),⟨⟨o4.2.1,o4.2.2⟩,b6⟩,?_⟩;rintro y rfl;refine ⟨fD (c:=c+31) _ _ (o4.1.less (by omega)),⟨o5.2.1,o5.2.2⟩,l1,?_⟩;rintro y rfl;generalize Yu:jc (aU (aU (bq x 8).2 (tb.av.length:Int)).2 4).2 aC.kind=y6 at *;refine ⟨by rw [<- Yu];exact Ae (c:=c+16) _ _ (o5.1.less (by omega)),fun hk => ?_,fun hk => ?_⟩
  ·have o7:=fx (x:=y6.2) (n:=2) (c:=c+13) (o6.less (by omega)) (by omega);rintro y rfl;refine ⟨gy (c:=c+13) _ _ (o6.less (by omega)) (by omega),fun h7 => ?_,fun h7 => ?_⟩
   ·have o8:=dJ (x:=(bq y6.2 2).2) (c:=c+10) (n:=4) (o7.less (by omega)) (by omega);have o9:=fx (x:=(aU (bq y6.2 2).2 4).2) (n:=2) (c:=c+7) (o8.1.less (by omega)) (by omega);have w3:IntKind.i64.wrap (3+(aU (bq y6.2 2).2 4).1)=3+(aU (bq y6.2 2).2 4).1:=du (by omega);rintro y rfl;simp only [w3];refine ⟨fD (c:=c+10) _ _ (o7.less (by omega)),?_⟩;rintro y rfl;refine ⟨gy (c:=c+7) _ _ (o8.1.less (by omega)) (by omega),fun h9 => ?_,fun h9 => ?_⟩
    ·rintro y rfl;have Dr:=rP (x:=(bq (aU (bq y6.2 2).2 4).2 2).2) (k:=aC.kind) (c:=c+4) (o9.less (by omega)) kN;have DM:=lX (bq (aU (bq y6.2 2).2 4).2 2).2 aC.kind (c:=c+4) (o9.less (by omega));refine ⟨rQ (c:=c+4) _ _ (o9.less (by omega)),?_⟩;rintro y rfl;refine ⟨fB _ _ _,fun _ => ?_,fun _ => ?_⟩;all_goals exact ⟨⟨aC.name,3+(aU (bq y6.2 2).2 4).1,[_]⟩,_,rfl,⟨by show 1<=3+(aU (bq y6.2 2).2 4).1/\3+(aU (bq y6.2 2).2 4).1<=8;omega,by simp,.inr ⟨aC,cN,rfl,.one Dr,fun _=>⟨hk,rfl⟩⟩⟩,DM.less (by omega)⟩
    ·rintro y rfl;refine ⟨fB _ _ _,fun _=>⟨fun bc => ?_,fun heq => ?_⟩,fun gA => ?_⟩
     ·rintro y rfl;have Dr:=rP (x:=(bq (aU (bq y6.2 2).2 4).2 2).2) (k:=aC.kind) (c:=c+4) (o9.less (by omega)) kN;have DM:=lX (bq (aU (bq y6.2 2).2 4).2 2).2 aC.kind (c:=c+4) (o9.less (by omega));refine ⟨rQ (c:=c+4) _ _ (o9.less (by omega)),?_⟩;exact ⟨⟨aC.name,3+(aU (bq y6.2 2).2 4).1,[_]⟩,_,rfl,⟨by show 1<=3+(aU (bq y6.2 2).2 4).1/\3+(aU (bq y6.2 2).2 4).1<=8;omega,by simp,.inr ⟨aC,cN,rfl,.one Dr,fun _=>⟨hk,rfl⟩⟩⟩,DM.less (by omega)⟩
     ·have fJ:y6.1.length=1:=by simp at heq;omega
      exact ⟨⟨aC.name,3+(aU (bq y6.2 2).2 4).1,y6.1⟩,_,rfl,⟨by show 1<=3+(aU (bq y6.2 2).2 4).1/\3+(aU (bq y6.2 2).2 4).1<=8;omega,by show y6.1.length<=8;omega,.inr ⟨aC,cN,rfl,d6.1,fun _=>⟨hk,fJ⟩⟩⟩,o9.less (by omega)⟩
     ·exfalso;rw [decide_eq_true (show (3:Int)<=3+(aU (bq y6.2 2).2 4).1 by omega),decide_eq_true (show 3+(aU (bq y6.2 2).2 4).1<=(6:Int) by omega)] at gA;cases gA
   ·have x2:=fx (x:=(bq y6.2 2).2) (n:=2) (c:=c+10) (o7.less (by omega)) (by omega);rintro y rfl;exact ⟨gy (c:=c+10) _ _ (o7.less (by omega)) (by omega),(fun Fl=>by
   rintro y rfl;have Ds:=rP (x:=(bq (bq y6.2 2).2 2).2) (k:=aC.kind) (c:=c+7) (x2.less (by omega)) kN;have wT:=lX (bq (bq y6.2 2).2 2).2 aC.kind (c:=c+7) (x2.less (by omega));refine ⟨rQ (c:=c+7) _ _ (x2.less (by omega)),?_⟩;rintro y rfl;refine ⟨fB _ _ _,fun _ => ?_,fun _ => ?_⟩;all_goals exact ⟨⟨aC.name,v,[_]⟩,_,rfl,⟨⟨l3,l4⟩,by simp,.inr ⟨aC,cN,rfl,.one Ds,fun h=>absurd h l2⟩⟩,wT.less (by omega)⟩),(fun Fl=>by
   rintro y rfl;have wT:=lX (bq (bq y6.2 2).2 2).2 aC.kind (c:=c+7) (x2.less (by omega));refine ⟨fB _ _ _,fun dp => ?_,fun _ => ?_⟩
   ·rw [Bool.and_eq_true,decide_eq_true_eq,decide_eq_true_eq] at dp;exact absurd dp l2
   ·exact ⟨⟨aC.name,v,y6.1⟩,_,rfl,⟨⟨l3,l4⟩,by show y6.1.length<=8;omega,.inr ⟨aC,cN,rfl,d6.1,fun h=>absurd h l2⟩⟩,x2.less (by omega)⟩)⟩
  ·have x3:=fx (x:=y6.2) (n:=2) (c:=c+13) (o6.less (by omega)) (by omega);rintro y rfl;exact ⟨gy (c:=c+13) _ _ (o6.less (by omega)) (by omega),(fun Fl=>by
   rintro y rfl;have Ds:=rP (x:=(bq y6.2 2).2) (k:=aC.kind) (c:=c+7) (x3.less (by omega)) kN;have wT:=lX (bq y6.2 2).2 aC.kind (c:=c+7) (x3.less (by omega));refine ⟨rQ (c:=c+7) _ _ (x3.less (by omega)),?_⟩;rintro y rfl;refine ⟨fB _ _ _,fun _ => ?_,fun _ => ?_⟩;all_goals exact ⟨⟨aC.name,v,[_]⟩,_,rfl,⟨⟨l3,l4⟩,by simp,.inr ⟨aC,cN,rfl,.one Ds,fun h=>absurd h l2⟩⟩,wT.less (by omega)⟩),(fun Fl=>by
   rintro y rfl;have wT:=lX (bq y6.2 2).2 aC.kind (c:=c+7) (x3.less (by omega));refine ⟨fB _ _ _,fun dp => ?_,fun _ => ?_⟩
   ·rw [Bool.and_eq_true,decide_eq_true_eq,decide_eq_true_eq] at dp;exact absurd dp l2
   ·exact ⟨⟨aC.name,v,y6.1⟩,_,rfl,⟨⟨l3,l4⟩,by show y6.1.length<=8;omega,.inr ⟨aC,cN,rfl,d6.1,fun h=>absurd h l2⟩⟩,x3.less (by omega)⟩)⟩
theorem D9 {α:Type} [Inhabited α] {q:Nat} {R:Src->α->Src->Prop} (h:∀(c:Nat) (x:Src),x.OK (c+q)->∃a x',R x a x'/\x'.OK c):
  ∃g:Src->α×Src,∀(c:Nat) (x:Src),x.OK (c+q)->R x (g x).1 (g x).2/\(g x).2.OK c:=by
 have key:∀x:Src,∃p:α×Src,∀c,x.OK (c+q)->R x p.1 p.2/\p.2.OK c:=by
  intro x;by_cases hx:∃c,x.OK (c+q)
  ·obtain ⟨c0,h0⟩:=hx;have hm:x.OK ((1099511627776 - x.k - q)+q):=⟨h0.hl,by have:=h0.hk;omega,h0.h0,h0.h1⟩;obtain ⟨a,x',h1,h2⟩:=h _ x hm;exact ⟨(a,x'),fun c hc=>⟨h1,h2.less (by have:=hc.hk;omega)⟩⟩
  ·exact ⟨(default,x),fun c hc=>absurd ⟨c,hc⟩ hx⟩
 exact ⟨fun x=>Classical.choose (key x),fun c x=>Classical.choose_spec (key x) c⟩
theorem aR4:qd Iv:=⟨by decide,by decide,by decide⟩
theorem aR5:qd Iw:=⟨by decide,by decide,by decide⟩
theorem aR6:qd Ix:=⟨by decide,by decide,by decide⟩
abbrev df (t:Int):Tb:=aI.getD t.toNat ⟨[],[],[],false⟩
theorem Cu {t:Int} (ht:0<=t/\t<3):qd (df t):=by
 have:t=0\/t=1\/t=2:=ag;rcases this with rfl | rfl | rfl
 ·exact aR4
 ·exact aR5
 ·exact aR6
instance:Inhabited aZ:=⟨.zero⟩
theorem J0 {t:Int} (ht:0<=t/\t<3):∃g:Src->aZ×Src,∀(c:Nat) (x:Src),x.OK (c+40) ->
  (au Pz oV [.ptr 0 0,.int .i64 t] [ar x] ⟨.agg (aE (g x).1),[ar (g x).2],[0]⟩/\gE (df t) (g x).1)/\(g x).2.OK c:=
 D9 (R:=fun x q x'=>au Pz oV [.ptr 0 0,.int .i64 t] [ar x] ⟨.agg (aE q),[ar x'],[0]⟩/\gE (df t) q) fun c x hx=>by
  obtain ⟨q,x',h1,h2,h3⟩:=TY qY x t ht (Cu ht) hx;exact ⟨q,x',⟨h1,h2⟩,h3⟩
def ja (x:Src) (t:Int):aZ×Src:=if h:0<=t/\t<3 then Classical.choose (J0 h) x else (default,x)
theorem DU {x:Src} {t:Int} (ht:0<=t/\t<3) {c:Nat} (h:x.OK (c+40)):
  au Pz oV [.ptr 0 0,.int .i64 t] [ar x] ⟨.agg (aE (ja x t).1),[ar (ja x t).2],[0]⟩/\gE (df t) (ja x t).1/\(ja x t).2.OK c:=by
 have:=Classical.choose_spec (J0 ht) c x h;unfold ja;rw [dif_pos ht];exact ⟨this.1.1,this.1.2,this.2⟩
def cndsL (t:Int):Nat->Src->List aZ->List aZ×Src
 | 0,x,l=>(l,x)
 | n+1,x,l=>cndsL t n (ja x t).2 (l++[(ja x t).1])
def gj (x:Src) (t:Int):List aZ×Src:=cndsL t (aU x 3).1.toNat (aU x 3).2 []
theorem J2 {t:Int} (ht:0<=t/\t<3):∀(n:Nat) (x:Src) (l:List aZ) (c:Nat),x.OK (c+n*40)->(∀q∈l,gE (df t) q) ->
  (∀q∈(cndsL t n x l).1,gE (df t) q)/\(cndsL t n x l).1.length=l.length+n/\(cndsL t n x l).2.OK c
 | 0,x,l,c,h,hl=>⟨hl,rfl,h.less ag⟩
 | n+1,x,l,c,h,hl=>by
  have h1:=DU ht (x:=x) (c:=c+n*40) (h.less ag);have ih:=J2 ht n (ja x t).2 (l++[(ja x t).1]) c h1.2.2 (by
   intro q hq;rcases List.mem_append.1 hq with hq | hq
   ·exact hl q hq
   ·rw [List.mem_singleton.1 hq];exact h1.2.1)
  rw [cndsL];exact ⟨ih.1,by rw [ih.2.1,List.length_append,List.length_singleton];omega,ih.2.2⟩
def PN:cy:=fun f vs hp=>match vs,hp with
 | [.ptr 0 0,.int _ n],[some ([.dsl _ _ cs,.int _ k,.int _ s],_)]=>bif Nat.beq f lx then some ⟨aU (aX cs k s) n,fun y=>⟨.int .i64 y.1,[ar y.2],[0]⟩⟩
  else bif Nat.beq f oV then some ⟨ja (aX cs k s) n,fun y=>⟨.agg (aE y.1),[ar y.2],[0]⟩⟩ else none
 | _,_=>none
abbrev Co:Nat:=34
def IM:Env:={P:=Pz,vw:=mA,res:=PN}
def v7 (x:Src) (t:Int) (l:List aZ) (i:Int):St:=⟨ah 21 [(0,.ptr 0 0),(1,.int .i64 t),(5,.sl 1 0 l.length false),(6,.int .i64 i)],[ar x,some ([.aw (ae aE l)],Co)],[0]⟩
def al4:Ex->Kp:=fun _=>{keep:=[0,1,5,6],wr:=[0]}
theorem J1 (x:Src) (t:Int) (l:List aZ) (i:Int):bp IM 1 al4 (lp Pz uw 0) (v7 x t l i)=(
 bif decide (i>0) then .bind (ja (aX (ae aP x.l) (x.k:Int) x.s) t) fun y0=> .ai [au (Env.P IM) 41 [pp 0,aa t] [some ([ab aP x.l,aa (x.k:Int),aa x.s],138)] (aF.mk (.agg (aE y0.1)) [some ([ab
  aP y0.2.l,aa (y0.2.k:Int),aa y0.2.s],138)] [0])] (.ai [0=0,List.length (ae aE l)=l.length*3,l.length+1<=9223372036854775807,(l.length+1)*48<=140737488355328] (.done (Ex.normal,St.mk (ah 21 [(0,
  pp 0),(1,aa t),(5,.sl 1 0 (l.length+1) false),(6,aa (wz (i - 1)))]) [some ([ab aP y0.2.l,aa (y0.2.k:Int),aa y0.2.s],138),some ([.aw (ae aE l++(aE y0.1))],34)] [0]))) else .done (Ex.exit 0,St.mk
  (ah 21 [(0,pp 0),(1,aa t),(5,.sl 1 0 l.length false),(6,aa i)]) [some ([ab aP x.l,aa (x.k:Int),aa x.s],138),some ([.aw (ae aE l)],34)] [0]):T _):=kz
theorem J3 {t:Int} (ht:0<=t/\t<3):∀(n:Nat) (x:Src) (l:List aZ) (c:Nat),x.OK (c+n*40)->l.length+n<=1000000 ->
  aT Tryz.prog 1 (lp Tryz.prog uw 0) (v7 x t l n) (.exit 0) (v7 (cndsL t n x l).2 t (cndsL t n x l).1 0)
 | 0,x,l,c,h,hl=>by
  refine bt (J1 x t l ((0:Nat):Int)) ?_
  simp only [ba,T.WP,All,bh,bl,bg]
  exact ⟨fun h=>ag,fun _=>⟨rfl,rfl⟩⟩
 | n+1,x,l,c,h,hl=>by
  have h1:=DU ht (x:=x) (c:=c+n*40) (h.less ag)
  have ih:=J3 ht n (ja x t).2 (l++[(ja x t).1]) c h1.2.2 (by simp only [List.length_append,List.length_singleton];omega)
  have w1:IntKind.i64.wrap (((n+1:Nat):Int) - 1)=(n:Nat):=by rw [du ag];omega
  refine bt (J1 x t l ((n+1:Nat):Int)) ?_
  simp only [ba,T.WP,All,bh,bl,bg,w1,dZ]
  refine ⟨fun _ => ?_,fun h=>ag⟩
  rintro y rfl
  refine ⟨h1.1,⟨a8,by rw [cp.length],ag,ag⟩,?_⟩
  simp only [v7,dF,aE,ab,List.length_append,List.length_singleton] at ih ⊢
  exact ih
def Z8:Nat->St->Option b8:=fun id s=>match id,s.tm.get 1,s.tm.get 6,s.hp with
 | 0,.int _ t,.int _ i,some ([.dsl _ _ cs,.int _ a,.int _ b],_)::_=>some ⟨cndsL t i.toNat (aX cs a b) [],fun y=> .one {keep:=[0,1,5,6],wr:=[0],eu:=[5]} (v7 (aX cs a b) t [] i) (.exit 0) (v7 y.2 t y.1 0)⟩
 | _,_,_,_=>none
def zp:Env:={P:=Pz,vw:=mA,res:=PN,ls:=Z8}
theorem TZ (x:Src) (t:Int):fnT zp 0 uw [.ptr 0 0,.int .i64 t] [ar x]=(
 .bind (aU (aX (ae aP x.l) (x.k:Int) x.s) (3:Int)) fun y0=>
 let q3:=(y0.2.k:Int);
 let q:=aX (ae aP y0.2.l) q3 y0.2.s;
 let q1:=ah 21 [(0,pp 0),(1,aa t),(5,.sl 1 0 0 false),(6,aa y0.1)];
 let q2:Hp:=[some ([ab aP (Src.l q),aa (↑(Src.k q):Int),aa (Src.s q)],138),some ([.aw []],34)];.ai [au (Env.P zp) 103 [pp 0,aa 3] [some ([ab aP x.l,aa (x.k:Int),aa x.s],138)] (aF.mk (aa y0.1)
  [some ([ab aP y0.2.l,aa q3,aa y0.2.s],138)] [0])] (.bind (cndsL t y0.1.toNat q []) fun y1=> .ai [St.mk q1 [some ([ab aP y0.2.l,aa q3,aa y0.2.s],138),some ([.aw []],34)] [0]=St.mk q1 q2 [0],aN (Env.P
  zp) 1 (blk Pz uw 0) (St.mk q1 q2 [0]) (Ex.exit 0) (St.mk (ah 21 [(0,pp 0),(1,aa t),(5,.sl 1 0 y1.1.length false),(6,aa 0)]) [some ([ab aP y1.2.l,aa (y1.2.k:Int),aa y1.2.s],138),some ([.aw (ae aE
  y1.1)],34)] [0])] (dz (ab aE y1.1) [some ([ab aP y1.2.l,aa (y1.2.k:Int),aa y1.2.s],138)] [0])):T _):=fz
theorem wX {x:Src} {t:Int} (ht:0<=t/\t<3) {c:Nat} (h:x.OK (c+123)):
  au Tryz.prog uw [.ptr 0 0,.int .i64 t] [ar x] ⟨ab aE (gj x t).1,[ar (gj x t).2],[0]⟩:=by
 have h1:=dJ (c:=c+120) (n:=3) (h.less (by omega)) (by omega);refine iG (E:=zp) follows named (TZ x t) (by simp) ?_;simp only [T.WP,All,bg,dZ];have hl:=J3 ht (aU x 3).1.toNat (aU x 3).2 [] c (h1.1.less (by omega)) (by simp only [List.length_nil];omega);rw [show (((aU x 3).1.toNat:Nat):Int)=(aU x 3).1 by omega] at hl;rintro y rfl;refine ⟨fD (c:=c+120) _ _ (h.less (by omega)),?_⟩;rintro y rfl;exact ⟨⟨a8,.aV hl⟩,⟨rfl,rfl,by simp⟩⟩
theorem wV {x:Src} {t:Int} (ht:0<=t/\t<3) {c:Nat} (h:x.OK (c+123)):
  (∀q∈(gj x t).1,gE (df t) q)/\(gj x t).1.length<=2/\(gj x t).2.OK c:=by
 have h1:=dJ (c:=c+120) (n:=3) (h.less ag) ag;have:=J2 ht (aU x 3).1.toNat (aU x 3).2 [] c (h1.1.less ag) (by simp);exact ⟨this.1,by unfold gj;rw [this.2.1,List.length_nil];omega,this.2.2⟩
abbrev lL:Nat:=189
abbrev Cq:Nat:=241
abbrev iQ:Nat:=178
def zl:Vw:=fun t cs i=>bif Nat.beq t lL then some (aR ((af aR cs).getD i Sx.zero)) else bif Nat.beq t Cq then some (bR ((af bR cs).getD i aZ.zero)) else bif Nat.beq t Co then some (aE ((af aE cs).getD i aZ.zero)) else bif Nat.beq t iQ then some (aK ((af aK cs).getD i Op'.zero)) else mA t cs i
def IY (S:aO):Env:={P:=Pz,vw:=mA,res:=rf S}
theorem aj3 (S:aO) (x:Src) (t:Int):fnT (IY S) 0 si [.ptr 0 0,.int .i64 t] [ar x]=(
 let q5:=List.getD (af ao (ae ao S)) t.toNat (Tb.mk [] [] [] false);
 let q:=q5.av;
 let q1:=aL.mk [] (0:Int) (0:Int) (0:Int) (0:Int) (0:Int) [] false;
 let q7:=ae aY q;
 let q2:=af aY q7;
 let q4:=(↑q.length:Int);
 let q3:=q4 - 1;
 let q6:List V:=[.ptr 0 0,aa 2];.bind PUnit.unit fun _=> .ai [au Tryz.prog 7 [] [] (aF.mk (.agg [ab ao S]) [] [])] (.ai [0<=t/\t<(↑S.length:Int),List.take 4 (List.drop (t.toNat*4) (ae ao S))=(ao q5)]
  (.bind (aU (aX (ae aP x.l) (↑x.k:Int) x.s) q4) fun y1=>
 let q8:=List.getD q2 y1.1.toNat q1;.ai [au Tryz.prog 103 [.ptr 0 0,aa q4] [ar x] (aF.mk (aa y1.1) [ar y1.2] [0])] (.ai [0<=y1.1/\y1.1<q4,List.take 8 (List.drop (y1.1.toNat*8) q7)=[.str q8.name,aa q8.kind,aa
  q8.min,aa q8.max,aa q8.low,aa q8.high,.str q8.ref,.bool q8.fF]] (.bind (bq (aX (ae aP y1.2.l) (↑y1.2.k:Int) y1.2.s) (2:Int)) fun y2=>
 let q9:=aU (aX (ae aP y2.2.l) (↑y2.2.k:Int) y2.2.s) (2:Int);.ai [au Tryz.prog 105 q6 [ar y1.2] (aF.mk (.bool y2.1) [ar y2.2] [0])] (bif y2.1 then .bind q9 fun y3=>
 let bS:=IntKind.i64.wrap q3 - y3.1;
 let dq:=IntKind.i64.wrap bS;
 let bK:=List.getD q2 dq.toNat q1;
 let cF:=bK.name;.ai [au Tryz.prog 103 q6 [ar y2.2] (aF.mk (aa y3.1) [ar y3.2] [0])] (.ai [0<=IntKind.i64.wrap bS/\IntKind.i64.wrap bS<q4,List.take 8 (List.drop (dq.toNat*8) q7)=[.str cF,aa bK.kind,aa
  bK.min,aa bK.max,aa bK.low,aa bK.high,.str bK.ref,.bool bK.fF]] (.bind (aU (aX (ae aP y3.2.l) (↑y3.2.k:Int) y3.2.s) (2:Int)) fun y4=>
 let dS:=IntKind.i64.wrap ((6:Int)+y4.1);.ai [au Tryz.prog 103 q6 [ar y3.2] (aF.mk (aa y4.1) [ar y4.2] [0])] (.bind (jc (aX (ae aP y4.2.l) (↑y4.2.k:Int) y4.2.s) bK.kind) fun y5=>
 let gT:V:= .agg [.str cF,aa dS,ab aj y5.1];.ai [au Tryz.prog 107 [.ptr 0 0,aa bK.kind] [ar y4.2] (aF.mk (ab aj y5.1) [ar y5.2] [0])] (bif bK.kind==1 then .bind (bq (aX (ae aP y5.2.l)
  (↑y5.2.k:Int) y5.2.s) (4:Int)) fun y6=> .ai [au Tryz.prog 105 [.ptr 0 0,aa 4] [ar y5.2] (aF.mk (.bool y6.1) [ar y6.2] [0])] (bif !y6.1 then .bind (aU (aX (ae aP y6.2.l) (↑y6.2.k:Int) y6.2.s) (5:Int))
  fun y7=> .ai [au Tryz.prog 103 [.ptr 0 0,aa 5] [ar y6.2] (aF.mk (aa y7.1) [ar y7.2] [0])] (.bind (aU (aX (ae aP y7.2.l) (↑y7.2.k:Int) y7.2.s) (9:Int)) fun y8=> .ai [au Tryz.prog 103 [.ptr 0 0,aa 9]
  [ar y7.2] (aF.mk (aa y8.1) [ar y8.2] [0])] (.done (aF.mk (.agg [.str cF,aa (IntKind.i64.wrap ((1:Int)+y7.1)),.dsl 1 false [aa 1,aa (IntKind.i64.wrap (y8.1 - 3)),.str []]]) [ar y8.2] [0]))) else .done (aF.mk gT
  [ar y6.2] [0])) else .done (aF.mk gT [ar y5.2] [0]))))) else .bind q9 fun y9=>
 let jN:=IntKind.i64.wrap ((6:Int)+y9.1);.ai [au Tryz.prog 103 q6 [ar y2.2] (aF.mk (aa y9.1) [ar y9.2] [0])] (.bind (jc (aX (ae aP y9.2.l) (↑y9.2.k:Int) y9.2.s) q8.kind) fun cY=>
 let jr:V:= .agg [.str q8.name,aa jN,ab aj cY.1];.ai [au Tryz.prog 107 [.ptr 0 0,aa q8.kind] [ar y9.2] (aF.mk (ab aj cY.1) [ar cY.2] [0])] (bif q8.kind==1 then .bind (bq (aX (ae aP cY.2.l)
  (↑cY.2.k:Int) cY.2.s) (4:Int)) fun cG=> .ai [au Tryz.prog 105 [.ptr 0 0,aa 4] [ar cY.2] (aF.mk (.bool cG.1) [ar cG.2] [0])] (bif !cG.1 then .bind (aU (aX (ae aP cG.2.l) (↑cG.2.k:Int) cG.2.s) (5
  : Int)) fun dD=> .ai [au Tryz.prog 103 [.ptr 0 0,aa 5] [ar cG.2] (aF.mk (aa dD.1) [ar dD.2] [0])] (.bind (aU (aX (ae aP dD.2.l) (↑dD.2.k:Int) dD.2.s) (9:Int)) fun ff=> .ai [au Tryz.prog 103
  [.ptr 0 0,aa 9] [ar dD.2] (aF.mk (aa ff.1) [ar ff.2] [0])] (.done (aF.mk (.agg [.str q8.name,aa (IntKind.i64.wrap ((1:Int)+dD.1)),.dsl 1 false [aa 1,aa (IntKind.i64.wrap (ff.1 - 3)),.str []]]) [ar ff.2]
  [0]))) else .done (aF.mk jr [ar cG.2] [0])) else .done (aF.mk jr [ar cY.2] [0])))))))):T _):=(T.force_eq _).symm.trans (by kernel_rfl)
structure j7 (tb:Tb) (m:Mt):Prop where
 fn:1<=m.func/\m.func<=7
 len:m.val.length<=8
 aC:∃c∈tb.av,m.aC=c.name/\cq c.kind m.val/\(m.func<=5->c.kind=1/\m.val.length=1)
theorem GR {n:Int} (h: -1000000000<=n/\n<=1000000000):fV ⟨1,n,[]⟩=true:=by
 simp [fV,vH,bC,h.1,h.2]
def SE (tb:Tb) (c:Nat) (r:aF):Prop:=∃q x',r=⟨.agg (bR q),[ar x'],[0]⟩/\j7 tb q/\x'.OK c
theorem aj4 {S:aO} (hS:au Tryz.prog nR [] [] ⟨.agg [ab ao S],[],[]⟩) (x:Src) (t:Int) (ht:0<=t/\t<S.length) (hT:qd (S.getD t.toNat ⟨[],[],[],false⟩)) (h2:2<=(S.getD t.toNat ⟨[],[],[],false⟩).av.length) {c:Nat} (h:x.OK (c+36)):
  ∃q x',au Tryz.prog si [.ptr 0 0,.int .i64 t] [ar x] ⟨.agg (bR q),[ar x'],[0]⟩/\j7 (S.getD t.toNat ⟨[],[],[],false⟩) q/\x'.OK c:=by
 have aD:=zf S t ht
 suffices hh:∃r,au Tryz.prog si [.ptr 0 0,.int .i64 t] [ar x] r/\SE (S.getD t.toNat ⟨[],[],[],false⟩) c r by
  obtain ⟨r,h1,q,x',rfl,h2,h3⟩:=hh
  exact ⟨q,x',h1,h2,h3⟩
 generalize Ga:S.getD t.toNat ⟨[],[],[],false⟩=tb at *
 have hle:=hT.le
 have o1:=dJ (c:=c+33) (n:=(tb.av.length:Int)) (h.less ag) ag
 obtain ⟨b6,cN⟩:=oQ tb.av _ o1.2
 have o2:=fx (x:=(aU x (tb.av.length:Int)).2) (n:=2) (c:=c+30) (o1.1.less ag) ag
 refine kL (E:=IY S) follows named (aj3 S x t) ?_
 simp only [ba,T.WP,All,bg,bm,bn,bo,dZ,bN.af,db.af,Ga]
 rintro y -
 refine ⟨hS,⟨⟨ht.1,ht.2⟩,aD⟩,?_⟩
 rintro y1 e1
 have n1:=fD (c:=c+33) x (tb.av.length:Int) (h.less ag)
 rw [<- e1] at o1 o2 b6 cN n1
 clear e1
 refine ⟨n1,⟨⟨o1.2.1,o1.2.2⟩,b6⟩,?_⟩
 rintro y2 e2
 have n2:=gy (c:=c+30) y1.2 2 (o1.1.less ag) ag
 rw [<- e2] at o2 n2
 clear e2
 refine ⟨n2,fun hc => ?_,fun hc => ?_⟩
 ·clear b6 cN
  rintro y3 e3
  have o3:=dJ (x:=y2.2) (c:=c+27) (n:=2) (o2.less ag) ag
  have n3:=fD (c:=c+27) y2.2 2 (o2.less ag)
  rw [<- e3] at o3 n3
  clear e3
  have w0:IntKind.i64.wrap (IntKind.i64.wrap ((tb.av.length:Int) - 1) - y3.1)=(tb.av.length:Int) - 1 - y3.1:=by
   rw [du (n:=(tb.av.length:Int) - 1) ag,du ag]
  have hr:0<=(tb.av.length:Int) - 1 - y3.1/\(tb.av.length:Int) - 1 - y3.1<tb.av.length:=ag
  refine ⟨n3,?_⟩
  rw [w0]
  obtain ⟨b6,cN⟩:=oQ tb.av _ hr
  refine ⟨⟨⟨hr.1,hr.2⟩,b6⟩,?_⟩
  clear b6
  generalize ic:tb.av.getD ((tb.av.length:Int) - 1 - y3.1).toNat ⟨[],0,0,0,0,0,[],false⟩=aC at *
  have kN:=hT.kd _ cN
  rintro y4 e4
  have o4:=dJ (x:=y3.2) (c:=c+24) (n:=2) (o3.1.less ag) ag
  have n4:=fD (c:=c+24) y3.2 2 (o3.1.less ag)
  rw [<- e4] at o4 n4
  clear e4
  refine ⟨n4,?_⟩
  rintro y5 e5
  have d5:=Ad (x:=y4.2) (k:=aC.kind) (c:=c+9) (o4.1.less ag) kN
  have o5:=wY y4.2 aC.kind (c:=c+9) (o4.1.less ag)
  have n5:=Ae (c:=c+9) y4.2 aC.kind (o4.1.less ag)
  rw [<- e5] at d5 o5 n5
  clear e5
  have w4:IntKind.i64.wrap (6+y4.1)=6+y4.1:=du ag
  refine ⟨n5,fun hk => ?_,fun hk => ?_⟩
  ·rintro y6 e6
   have o6:=fx (x:=y5.2) (n:=4) (c:=c+6) (o5.less ag) ag
   have n6:=gy (c:=c+6) y5.2 4 (o5.less ag) ag
   rw [<- e6] at o6 n6
   clear e6
   refine ⟨n6,fun h6 => ?_,fun h6 => ?_⟩
   ·rintro y7 e7
    have o7:=dJ (x:=y6.2) (c:=c+3) (n:=5) (o6.less ag) ag
    have n7:=fD (c:=c+3) y6.2 5 (o6.less ag)
    rw [<- e7] at o7 n7
    clear e7
    refine ⟨n7,?_⟩
    rintro y8 e8
    have o8:=dJ (x:=y7.2) (c:=c) (n:=9) (o7.1.less ag) ag
    have n8:=fD (c:=c) y7.2 9 (o7.1.less ag)
    rw [<- e8] at o8 n8
    clear e8
    refine ⟨n8,?_⟩
    have w7:IntKind.i64.wrap (1+y7.1)=1+y7.1:=du ag
    have w8:IntKind.i64.wrap (y8.1 - 3)=y8.1 - 3:=du ag
    rw [w7,w8]
    exact ⟨⟨aC.name,1+y7.1,[⟨1,y8.1 - 3,[]⟩]⟩,_,rfl,⟨by show 1<=1+y7.1/\1+y7.1<=7;omega,by simp,⟨aC,cN,rfl,.one ⟨GR ag,hk.symm⟩,fun _=>⟨hk,rfl⟩⟩⟩,o8.1⟩
   ·rw [w4]
    exact ⟨⟨aC.name,6+y4.1,y5.1⟩,_,rfl,⟨by show 1<=6+y4.1/\6+y4.1<=7;omega,by show y5.1.length<=8;omega,⟨aC,cN,rfl,d5.1,fun h=>by have h':6+y4.1<=5:=h;omega⟩⟩,o6.less ag⟩
  ·rw [w4]
   exact ⟨⟨aC.name,6+y4.1,y5.1⟩,_,rfl,⟨by show 1<=6+y4.1/\6+y4.1<=7;omega,by show y5.1.length<=8;omega,⟨aC,cN,rfl,d5.1,fun h=>by have h':6+y4.1<=5:=h;omega⟩⟩,o5.less ag⟩
 ·clear b6
  generalize ic:tb.av.getD y1.1.toNat ⟨[],0,0,0,0,0,[],false⟩=aC at *
  have kN:=hT.kd _ cN
  rintro y4 e4
  have o4:=dJ (x:=y2.2) (c:=c+24) (n:=2) (o2.less ag) ag
  have n4:=fD (c:=c+24) y2.2 2 (o2.less ag)
  rw [<- e4] at o4 n4
  clear e4
  refine ⟨n4,?_⟩
  rintro y5 e5
  have d5:=Ad (x:=y4.2) (k:=aC.kind) (c:=c+9) (o4.1.less ag) kN
  have o5:=wY y4.2 aC.kind (c:=c+9) (o4.1.less ag)
  have n5:=Ae (c:=c+9) y4.2 aC.kind (o4.1.less ag)
  rw [<- e5] at d5 o5 n5
  clear e5
  have w4:IntKind.i64.wrap (6+y4.1)=6+y4.1:=du ag
  refine ⟨n5,fun hk => ?_,fun hk => ?_⟩
  ·rintro y6 e6
   have o6:=fx (x:=y5.2) (n:=4) (c:=c+6) (o5.less ag) ag
   have n6:=gy (c:=c+6) y5.2 4 (o5.less ag) ag
   rw [<- e6] at o6 n6
   clear e6
   refine ⟨n6,fun h6 => ?_,fun h6 => ?_⟩
   ·rintro y7 e7
    have o7:=dJ (x:=y6.2) (c:=c+3) (n:=5) (o6.less ag) ag
    have n7:=fD (c:=c+3) y6.2 5 (o6.less ag)
    rw [<- e7] at o7 n7
    clear e7
    refine ⟨n7,?_⟩
    rintro y8 e8
    have o8:=dJ (x:=y7.2) (c:=c) (n:=9) (o7.1.less ag) ag
    have n8:=fD (c:=c) y7.2 9 (o7.1.less ag)
    rw [<- e8] at o8 n8
    clear e8
    refine ⟨n8,?_⟩
    have w7:IntKind.i64.wrap (1+y7.1)=1+y7.1:=du ag
    have w8:IntKind.i64.wrap (y8.1 - 3)=y8.1 - 3:=du ag
    rw [w7,w8]
    exact ⟨⟨aC.name,1+y7.1,[⟨1,y8.1 - 3,[]⟩]⟩,_,rfl,⟨by show 1<=1+y7.1/\1+y7.1<=7;omega,by simp,⟨aC,cN,rfl,.one ⟨GR ag,hk.symm⟩,fun _=>⟨hk,rfl⟩⟩⟩,o8.1⟩
   ·rw [w4]
    exact ⟨⟨aC.name,6+y4.1,y5.1⟩,_,rfl,⟨by show 1<=6+y4.1/\6+y4.1<=7;omega,by show y5.1.length<=8;omega,⟨aC,cN,rfl,d5.1,fun h=>by have h':6+y4.1<=5:=h;omega⟩⟩,o6.less ag⟩
  ·rw [w4]
   exact ⟨⟨aC.name,6+y4.1,y5.1⟩,_,rfl,⟨by show 1<=6+y4.1/\6+y4.1<=7;omega,by show y5.1.length<=8;omega,⟨aC,cN,rfl,d5.1,fun h=>by have h':6+y4.1<=5:=h;omega⟩⟩,o5.less ag⟩
theorem xU {t:Int} (ht:0<=t/\t<3):2<=(df t).av.length/\(df t).av.length<=3:=by
 have:t=0\/t=1\/t=2:=ag;rcases this with rfl | rfl | rfl <;> decide
theorem Nn {t:Int} (ht:0<=t/\t<3):∃g:Src->Mt×Src,∀(c:Nat) (x:Src),x.OK (c+36) ->
  (au Pz si [.ptr 0 0,.int .i64 t] [ar x] ⟨.agg (bR (g x).1),[ar (g x).2],[0]⟩/\j7 (df t) (g x).1)/\(g x).2.OK c:=
 D9 (R:=fun x q x'=>au Pz si [.ptr 0 0,.int .i64 t] [ar x] ⟨.agg (bR q),[ar x'],[0]⟩/\j7 (df t) q) fun c x hx=>by
  obtain ⟨q,x',h1,h2,h3⟩:=aj4 qY x t ht (Cu ht) (xU ht).1 hx;exact ⟨q,x',⟨h1,h2⟩,h3⟩
def j1 (x:Src) (t:Int):Mt×Src:=if h:0<=t/\t<3 then Classical.choose (Nn h) x else (default,x)
theorem GD {x:Src} {t:Int} (ht:0<=t/\t<3) {c:Nat} (h:x.OK (c+36)):
  au Pz si [.ptr 0 0,.int .i64 t] [ar x] ⟨.agg (bR (j1 x t).1),[ar (j1 x t).2],[0]⟩/\j7 (df t) (j1 x t).1/\(j1 x t).2.OK c:=by
 have:=Classical.choose_spec (Nn ht) c x h;unfold j1;rw [dif_pos ht];exact ⟨this.1.1,this.1.2,this.2⟩
abbrev uO:Nat:=230
abbrev ni:Nat:=9
def pkL (tb:Tb):Nat->Nat->Src->List (List UInt8)->List (List UInt8)×Src
 | 0,_,x,l=>(l,x)
 | k+1,i,x,l=>pkL tb k (i+1) (bq x 2).2 (bif (bq x 2).1 then l++[(tb.av.getD i ⟨[],0,0,0,0,0,[],false⟩).name] else l)
def wj (x:Src) (tb:Tb) (l:List (List UInt8)) (i:Int):St:=⟨ah 38 [(0,.ptr 0 0),(5,.ptr 1 0),(6,.sl 2 0 l.length false),(7,.int .i64 i)],[ar x,some (ao tb,gp),some ([.aw (ae encStr l)],ni)],[0]⟩
def ao7:Ex->Kp:=fun _=>{keep:=[0,5,6,7],wr:=[0]}
def Sk (S:aO):Env:={P:=Pz,vw:=mA,res:=rf S}
theorem O7 (x:Src) (tb:Tb) (l:List (List UInt8)) (i:Int):bp (Sk []) 1 ao7 (lp Pz uO 0) (wj x tb l i)=(
 let q:=List.getD (af aY (ae aY tb.av)) i.toNat (aL.mk [] (0:Int) (0:Int) (0:Int) (0:Int) (0:Int) [] false);
 let q1:=ae encStr l;bif decide (i<(tb.av.length:Int)) then .bind (bq (aX (ae aP x.l) (x.k:Int) x.s) (2:Int)) fun y0=>cz 105 [pp 0,aa 2] [ar x] (.bool y0.1) [ar y0.2] [0] (bif y0.1 then .ai [0<=i /\
  i<(tb.av.length:Int),td 8 i (ae aY tb.av)=(aY q)] (.ai [0=0,List.length q1=l.length*1,l.length+1<=9223372036854775807,(l.length+1)*16<=140737488355328] (.done (Ex.normal,St.mk (ah 38 [(0,pp
  0),(5,pp 1),(6,.sl 2 0 (l.length+1) false),(7,aa (wz (i+1)))]) [ar y0.2,some ((ao tb),44),some ([.aw (ae encStr l++[.str (aL.name q)])],9)] [0]))) else .done (Ex.normal,St.mk (ah 38 [(0,pp 0),(5,pp 1),
  (6,.sl 2 0 l.length false),(7,aa (wz (i+1)))]) [ar y0.2,some ((ao tb),44),some ([.aw q1],9)] [0])) else .done (Ex.exit 0,St.mk (ah 38 [(0,pp 0),(5,pp 1),(6,.sl 2 0 l.length false),(7,aa i)]) [ar x,some
  ((ao tb),44),some ([.aw q1],9)] [0]):T _):=kz
theorem He (tb:Tb) (hle:tb.av.length<=1000):∀(k i:Nat) (x:Src) (l:List (List UInt8)) (c:Nat),i+k=tb.av.length->x.OK (c+k*3)->l.length<=i ->
  aT Pz 1 (lp Pz uO 0) (wj x tb l i) (.exit 0) (wj (pkL tb k i x l).2 tb (pkL tb k i x l).1 tb.av.length)
 | 0,i,x,l,c,hi,h,hl=>by
  obtain rfl:i=tb.av.length:=hi;refine bt (O7 x tb l (tb.av.length:Nat)) ?_;simp only [sz];exact ⟨fun h=>ag,fun _=>⟨rfl,rfl⟩⟩
 | k+1,i,x,l,c,hi,h,hl=>by
  have o1:=fx (x:=x) (n:=2) (c:=c+k*3) (h.less ag) ag;have aD:=(oQ tb.av i ag).1;have w1:=cX i;refine bt (O7 x tb l (i:Nat)) ?_;simp only [sz,w1,dZ,db.af];refine ⟨fun _ => ?_,fun h=>ag⟩;rintro y e;have n1:=gy (c:=c+k*3) x 2 (h.less ag) ag;rw [pkL];rw [<- e] at o1 n1 ⊢;clear e;refine ⟨n1,fun hy => ?_,fun hy => ?_⟩
  ·rw [hy,cond_true];have ih:=He tb hle k (i+1) y.2 (l++[(tb.av.getD i ⟨[],0,0,0,0,0,[],false⟩).name]) c ag o1 (by simp only [List.length_append,List.length_singleton];omega);refine ⟨⟨⟨ag,ag⟩,aD⟩,⟨a8,by rw [cx.length],ag,ag⟩,?_⟩;simp only [wj,dF,encStr,List.length_append,List.length_singleton,Int.toNat_natCast] at ih ⊢;exact ih
  ·rw [hy,cond_false];exact He tb hle k (i+1) y.2 l c ag o1 ag
def m7 (x:Src) (t:Int):List (List UInt8)×Src:=
 let p:=pkL (df t) (df t).av.length 0 x []
 (bif (bq p.2 3).1 then p.1++[mz] else p.1,(bq p.2 3).2)
def aW9 (cs:List V):Tb:=match cs with
 | [.str nm,.dsl _ _ cc,.dsl _ _ uu,.bool b]=>bw nm cc uu b
 | _=> .zero
def ad1:Nat->St->Option b8:=fun id s=>match id,s.hp with
 | 0,some ([.dsl _ _ cs,.int _ a,.int _ b],_)::some ([.str nm,.dsl _ _ cc,.dsl _ _ uu,.bool r],_)::_=>some ⟨pkL (bw nm cc uu r) (bw nm cc uu r).av.length 0 (aX cs a b) [],fun y=> .one {keep:=[0,5,6,7],wr:=[0],eu:=[6]} (wj (aX cs a b) (bw nm cc uu r) [] 0) (.exit 0) (wj y.2 (bw nm cc uu r) y.1 (bw nm cc uu r).av.length)⟩
 | _,_=>none
def Sl (S:aO):Env:={P:=Pz,vw:=mA,res:=rf S,ls:=ad1}
theorem pkT (S:aO) (x:Src) (t:Int):fnT (Sl S) 0 uO [.ptr 0 0,.int .i64 t] [ar x]=(
 let q1:=List.getD (af ao (ae ao S)) t.toNat (Tb.mk [] [] [] false);
 let q:=bw (Tb.name q1) (ae aY (Tb.av q1)) (ae aJ (Tb.uniq q1)) (Tb.root q1);
 let q2:List V:=[.str (Tb.name q),ab aY (Tb.av q),ab aJ (Tb.uniq q),.bool (Tb.root q)];
 let q3:=ah 38 [(0,pp 0),(5,pp 1),(6,.sl 2 0 0 false),(7,aa 0)];
 let q4:=aX (ae aP x.l) (x.k:Int) x.s;.bind PUnit.unit fun _=>cz 7 [] [] (.agg [ab ao S]) [] [] (.ai [0<=t/\t<(S.length:Int),td 4 t (ae ao S)=(ao q1)] (.bind (pkL q (List.length (Tb.av q)) 0 q4
  []) fun y1=> .ai [St.mk q3 [ar x,some ((ao q1),44),some ([.aw []],9)] [0]=St.mk q3 [ar q4,some (q2,44),some ([.aw []],9)] [0],aN Pz 1 (blk Pz uO 0) (St.mk q3 [ar q4,some (q2,44),some ([.aw []],9)]
  [0]) (Ex.exit 0) (St.mk (ah 38 [(0,pp 0),(5,pp 1),(6,.sl 2 0 y1.1.length false),(7,aa (↑(List.length (Tb.av q)):Int))]) [ar y1.2,some (q2,44),some ([.aw (ae encStr y1.1)],9)] [0])] (.bind (bq (aX (ae
  aP y1.2.l) (y1.2.k:Int) y1.2.s) (3:Int)) fun y2=>cz 105 [pp 0,aa 3] [ar y1.2] (.bool y2.1) [ar y2.2] [0] (bif y2.1 then .ai [0=0,List.length (ae encStr y1.1)=y1.1.length*1,y1.1.length+1 <=
  9223372036854775807,(y1.1.length+1)*16<=140737488355328] (dz (.dsl (y1.1.length+1) false (ae encStr y1.1++[.str [95,117,117,105,100]])) [ar y2.2] [0]) else dz (ab encStr y1.1) [ar y2.2] [0])))):T _):=fz
theorem Bw (tb:Tb):∀(k i:Nat) (x:Src) (l:List (List UInt8)) (c:Nat),i+k=tb.av.length->x.OK (c+k*3)->(∀n∈l,n=mz\/∃q∈tb.av,n=q.name) ->
  (∀n∈(pkL tb k i x l).1,n=mz\/∃q∈tb.av,n=q.name)/\(pkL tb k i x l).1.length<=l.length+k/\(pkL tb k i x l).2.OK c
 | 0,i,x,l,c,hi,h,hl=>⟨hl,Nat.le_refl _,h.less ag⟩
 | k+1,i,x,l,c,hi,h,hl=>by
  have o1:=fx (x:=x) (n:=2) (c:=c+k*3) (h.less ag) ag;rw [pkL];cases (bq x 2).1
  ·have:=Bw tb k (i+1) (bq x 2).2 l c ag o1 hl;exact ⟨this.1,by have:=this.2.1;simp only [cond_false];omega,this.2.2⟩
  ·have:=Bw tb k (i+1) (bq x 2).2 (l++[(tb.av.getD i ⟨[],0,0,0,0,0,[],false⟩).name]) c ag o1 (by
    intro n hn;rcases List.mem_append.1 hn with hn | hn
    ·exact hl n hn
    ·rw [List.mem_singleton.1 hn];exact .inr ⟨_,(oQ tb.av i ag).2,rfl⟩)
   exact ⟨this.1,by have:=this.2.1;rw [List.length_append,List.length_singleton] at this;simp only [cond_true];omega,this.2.2⟩
theorem aA6 {x:Src} {t:Int} (ht:0<=t/\t<3) {c:Nat} (h:x.OK (c+12)):
  au Pz uO [.ptr 0 0,.int .i64 t] [ar x] ⟨ab encStr (m7 x t).1,[ar (m7 x t).2],[0]⟩/\(∀n∈(m7 x t).1,n=mz\/∃q∈(df t).av,n=q.name)/\(m7 x t).1.length<=4/\(m7 x t).2.OK c:=by
 have aD:=zf aI t ht;have hlen:=xU ht;unfold m7;dsimp only;change List.take 4 (List.drop (t.toNat*4) (ae ao aI))=ao (df t) at aD
 generalize hS:aI=S at *;have hp:au Pz nR [] [] ⟨.agg [ab ao S],[],[]⟩:=hS▸qY;have pH:t<S.length:=by rw [<- hS];exact ht.2
 have hs:S.getD t.toNat ⟨[],[],[],false⟩=df t:=by rw [<- hS]
 generalize df t=tb at *;have a1:=Bw tb tb.av.length 0 x [] (c+3) ag (h.less ag) (by simp);have hl:=He tb ag tb.av.length 0 x [] (c+3) ag (h.less ag) (Nat.le_refl _);generalize hy:pkL tb tb.av.length 0 x []=y at *;have o2:=fx (x:=y.2) (n:=3) (c:=c) (a1.2.2.less ag) ag;have a2:=a1.2.1;rw [List.length_nil] at a2;have n2:=gy (c:=c) y.2 3 (a1.2.2.less ag) ag;generalize hz:bq y.2 3=z at *;refine ⟨?_,?_,?_,o2⟩
 ·refine a6 (pkT S x t) ?_;simp only [sz,dZ,bN.af,cH,hs,hy];rintro _ -;refine ⟨hp,⟨⟨ht.1,pH⟩,aD⟩,?_⟩;rintro _ rfl;refine ⟨⟨a8,.aV hl⟩,?_⟩;rintro y' e;rw [hz] at e;subst e;refine ⟨n2,fun h3 => ?_,fun h3 => ?_⟩
  ·rw [h3,cond_true];refine ⟨⟨a8,by rw [cx.length],ag,ag⟩,?_⟩;unfold ab;rw [dF,List.length_append,List.length_singleton];exact aH
  ·rw [h3,cond_false];exact aH
 ·intro n hn;cases hb:z.1
  ·rw [hb] at hn;exact a1.1 n hn
  ·rw [hb,cond_true] at hn;rcases List.mem_append.1 hn with hn | hn
   ·exact a1.1 n hn
   ·exact .inl (List.mem_singleton.1 hn)
 ·cases z.1
  ·simp only [cond_false];omega
  ·simp only [cond_true,List.length_append,List.length_singleton];omega
section
variable {P:Program} {I I1 I2:Nat->Prop} {μ μ1 μ2:Mu} {w w1 w2:World} {hp br dY:Hp}
theorem Good.trans {jQ eM wr:List Nat} (G1:Good P I I1 μ μ1 w w1 hp br (List.range hp.length) jQ) (G2:Good P I1 I2 μ1 μ2 w1 w2 br dY (List.range br.length) eM)
  (fJ:hp.length<=br.length) (eh:br.length<=dY.length) (m1:∀b∈eM,b<hp.length) (Dv:∀b,b<hp.length->dU br b->dU hp b) (ue:∀b,b<br.length->dU dY b->dU br b)
  (Dw:∀b∈eM,b∈jQ->dU br b) (h1:∀b∈jQ,b∈wr) (h2:∀b∈eM,b∈wr):Good P I I2 μ μ2 w w2 hp dY (List.range hp.length) wr:=by
 have back:∀b g,b<hp.length->μ1 b=some g->μ b=some g:=by
  intro b g hb hg
  rcases G1.cP b g hg with h | h
  ·exact h
  ·omega
 have wS:∀b g,b<hp.length->∀blk,br[b]?=some (some blk)->μ1.own b g->w.heap.size<=g\/∃c,(c=b\/c∈jQ)/\μ.own c g/\∃blk,hp[c]?=some (some blk):=by
  intro b g hb blk bz hg
  by_cases hw:b∈jQ
  ·rcases G1.er b (.inr hw) blk bz g hg with h | ⟨c,c1,c2⟩
   ·exact .inl h
   ·exact .inr ⟨c,.inr c1,c2⟩
  ·refine .inr ⟨b,.inl rfl,?_,Dv b hb ⟨blk,bz⟩⟩
   rcases hg with hg | hg
   ·exact .inl (back b g hb hg)
   ·rw [G1.dj b hw ag] at hg;exact .inr hg
 have pM:∀(hp:Hp) (b:Nat),b∈List.range hp.length\/hp.length<=b:=fun hp b=>by rw [List.mem_range];omega
 have rS:∀c k,c∈eM->∀blk,br[c]?=some (some blk)->μ1.own c k->w.heap.size<=k/\k<w2.heap.size\/∃c∈wr,μ.own c k/\∃blk,hp[c]?=some (some blk):=by
  intro c k c1 blk c3 c2
  have hc:=m1 c c1
  rcases wS c k hc blk c3 c2 with h | ⟨d,d1,d2,d3⟩
  ·exact .inl ⟨h,Nat.lt_of_lt_of_le ((G1.holds c (pM hp c) blk c3).lt c2) G2.cJ.size⟩
  ·refine .inr ⟨d,?_,d2,d3⟩
   rcases d1 with rfl | d1
   ·exact h2 d c1
   ·exact h1 d d1
 refine ⟨fun k hk=>G2.dI k (G1.dI k hk),fun k hk => ?_,?_,G1.le.trans G2.le,fun b g hg => ?_,fun b hb hn => ?_,fun b hb blk bz=>G2.holds b (pM br b) blk bz,fun b hb blk bz g hg => ?_,fun b c blk bG g bc hb hc lz eC Fw cg=>G2.inj b c blk bG g bc (pM br b) (pM br c) lz eC Fw cg⟩
 ·rcases G2.eY k hk with h | ⟨h,h'⟩ | ⟨c,c1,c2,⟨blk,c3⟩⟩
  ·rcases G1.eY k h with h | ⟨h,h'⟩ | ⟨c,c1,c2,c3⟩
   ·exact .inl h
   ·exact .inr (.inl ⟨h,Nat.lt_of_lt_of_le h' G2.cJ.size⟩)
   ·exact .inr (.inr ⟨c,h1 c c1,c2,c3⟩)
  ·exact .inr (.inl ⟨Nat.le_trans G1.cJ.size h,h'⟩)
  ·exact .inr (rS c k c1 blk c3 c2)
 ·refine (G1.cJ.mono fun k ⟨b,hb,hg⟩=>⟨b,h1 b hb,hg⟩).trans G2.cJ G1.dI fun j hj ⟨b,hb,hg⟩ => ?_
  by_cases fy:b∈jQ
  ·obtain ⟨blk,bz⟩:=Dw b hb fy
   rcases rS b j hb blk bz hg with h | ⟨c,c1,c2,_⟩
   ·omega
   ·exact ⟨c,c1,c2⟩
  ·refine ⟨b,h2 b hb,?_⟩
   have bO:=m1 b hb
   rcases hg with hg | hg
   ·exact .inl (back b j bO hg)
   ·rw [G1.dj b fy ag] at hg;exact .inr hg
 ·rcases G2.cP b g hg with h | h
  ·rcases G1.cP b g h with h | h
   ·exact .inl h
   ·exact .inr ag
  ·exact .inr ag
 ·rw [G2.dj b (fun h=>hb (h2 b h)) (fun h=>hn ag),G1.dj b (fun h=>hb (h1 b h)) (fun h=>hn ag)]
 ·by_cases pn:br.length<=b\/b∈eM
  ·rcases G2.er b pn blk bz g hg with h' | ⟨c,c1,c2,⟨qg,c3⟩⟩
   ·exact .inl (Nat.le_trans G1.cJ.size h')
   ·exact (rS c g c1 qg c3 c2).imp (fun h=>h.1) id
  ·simp only [not_or,Nat.not_le] at pn
   obtain ⟨qg,eO⟩:=ue b pn.1 ⟨blk,bz⟩
   have u6:μ1.own b g:=by
    rcases hg with hg | hg
    ·rcases G2.cP b g hg with h' | h'
     ·exact .inl h'
     ·omega
    ·rw [G2.dj b pn.2 ag] at hg;exact .inr hg
   by_cases Fm:hp.length<=b\/b∈jQ
   ·rcases G1.er b Fm qg eO g u6 with h' | ⟨c,c1,c2,c3⟩
    ·exact .inl h'
    ·exact .inr ⟨c,h1 c c1,c2,c3⟩
   ·simp only [not_or,Nat.not_le] at Fm
    rcases wS b g Fm.1 qg eO u6 with h | ⟨c,c1,c2,c3⟩
    ·exact .inl h
    ·refine .inr ⟨c,?_,c2,c3⟩
     rcases c1 with rfl | c1
     ·rcases hb with hb | hb
      ·omega
      ·exact hb
     ·exact h1 c c1
theorem Good.pre {wr:List Nat} (G:Good P I I1 μ μ1 w w1 hp br (List.range hp.length) wr) (fJ:hp.length<=br.length) {t0:Nat} (p0:cV P I μ w hp (List.range hp.length) t0) (dN:∀b g,μ b=some g->b<hp.length) (top:Nat):cV P I1 μ1 w1 br (List.range br.length) top:=by
 refine ⟨p0.dB.step G.cJ G.dI fun k hk => ?_,fun b hb blk h => ?_,fun b hb c hc blk bG g bc h1 h2 h3 h4 => ?_,fun b hb _ => ?_⟩
 ·rcases G.eY k hk with h | ⟨_,h⟩ | ⟨c,c1,c2,⟨blk,c3⟩⟩
  ·exact Nat.lt_of_lt_of_le (p0.dB k h) G.cJ.size
  ·exact h
  ·exact Nat.lt_of_lt_of_le ((p0.holds c (by simpa using fk c3) _ c3).lt c2) G.cJ.size
 ·refine G.holds b ?_ blk h;by_cases h:b<hp.length
  ·exact .inl dT
  ·exact .inr ag
 ·have key:∀b:Nat,b∈List.range hp.length\/hp.length<=b:=by
   intro b;by_cases h:b<hp.length
   ·exact .inl dT
   ·exact .inr ag
  exact G.inj b c blk bG g bc (key b) (key c) h1 h2 h3 h4
 ·cases hμ:μ1 b with
  | none=>rfl
  | some g=>
   rcases G.cP b g hμ with h | h
   ·have:=dN b g h;omega
   ·omega
theorem Good.aS7 {jQ eM wr:List Nat} (G1:Good P I I1 μ μ1 w w1 hp br (List.range hp.length) jQ) (G2:Good P I1 I2 μ1 μ2 w1 w2 br dY (List.range br.length) eM)
  (fJ:hp.length<=br.length) (eh:br.length<=dY.length) (m1:∀b∈eM,b<br.length) (Dv:∀b,b<hp.length->dU br b->dU hp b) (ue:∀b,b<br.length->dU dY b->dU br b)
  (Dw:∀b∈eM,b∈jQ\/hp.length<=b->dU br b) (h1:∀b∈jQ,b∈wr) (h2:∀b∈eM,b<hp.length->b∈wr) (_:∀b∈wr,b∈jQ\/b∈eM) (_:∀b g,μ b=some g->b<hp.length):Good P I I2 μ μ2 w w2 hp dY (List.range hp.length) wr:=by
 have back:∀b g,b<hp.length->μ1 b=some g->μ b=some g:=by
  intro b g hb hg
  rcases G1.cP b g hg with h | h
  ·exact h
  ·omega
 have wS:∀b g,(∃blk,br[b]?=some (some blk))->μ1.own b g->w.heap.size<=g\/∃c,(c=b\/c∈jQ)/\c<hp.length+1/\μ.own c g/\(c<hp.length->∃blk,hp[c]?=some (some blk))/\(c=b->b<hp.length)/\∃blk,hp[c]?=some (some blk):=by
  rintro b g ⟨blk,bz⟩ hg
  have fin:∀c,(c=b\/c∈jQ)->μ.own c g->(c=b->b<hp.length)->(∃blk,hp[c]?=some (some blk))->∃c,(c=b\/c∈jQ)/\c<hp.length+1/\μ.own c g/\(c<hp.length->∃blk,hp[c]?=some (some blk))/\(c=b->b<hp.length)/\∃blk,hp[c]?=some (some blk):=by
   intro c q1 q2 q3 q4
   refine ⟨c,q1,?_,q2,fun _=>q4,q3,q4⟩
   obtain ⟨blk,q4⟩:=q4
   have:=fk q4;omega
  by_cases hb:b<hp.length
  ·by_cases hw:b∈jQ
   ·rcases G1.er b (.inr hw) blk bz g hg with h | ⟨c,c1,c2,c3⟩
    ·exact .inl h
    ·exact .inr (fin c (.inr c1) c2 (fun _=>hb) c3)
   ·refine .inr (fin b (.inl rfl) ?_ (fun _=>hb) (Dv b hb ⟨blk,bz⟩))
    rcases hg with hg | hg
    ·exact .inl (back b g hb hg)
    ·rw [G1.dj b hw ag] at hg;exact .inr hg
  ·rcases G1.er b (.inl ag) blk bz g hg with h | ⟨c,c1,c2,c3⟩
   ·exact .inl h
   ·refine .inr (fin c (.inr c1) c2 (fun e => ?_) c3)
    obtain ⟨blk,c3⟩:=c3
    rw [<- e];exact fk c3
 have pM:∀(hp:Hp) (b:Nat),b∈List.range hp.length\/hp.length<=b:=fun hp b=>by rw [List.mem_range];omega
 have rS:∀c k,c∈eM->(∃blk,br[c]?=some (some blk))->μ1.own c k->w.heap.size<=k/\k<w2.heap.size\/∃c∈wr,μ.own c k/\∃blk,hp[c]?=some (some blk):=by
  rintro c k c1 ⟨blk,c3⟩ c2
  rcases wS c k ⟨blk,c3⟩ c2 with h | ⟨d,d1,_,d2,_,d5,d3⟩
  ·exact .inl ⟨h,Nat.lt_of_lt_of_le ((G1.holds c (pM hp c) blk c3).lt c2) G2.cJ.size⟩
  ·refine .inr ⟨d,?_,d2,d3⟩
   rcases d1 with rfl | d1
   ·exact h2 d c1 (d5 rfl)
   ·exact h1 d d1
 refine ⟨fun k hk=>G2.dI k (G1.dI k hk),fun k hk => ?_,?_,G1.le.trans G2.le,fun b g hg => ?_,fun b hb hn => ?_,fun b hb blk bz=>G2.holds b (pM br b) blk bz,fun b hb blk bz g hg => ?_,fun b c blk bG g bc hb hc lz eC Fw cg=>G2.inj b c blk bG g bc (pM br b) (pM br c) lz eC Fw cg⟩
 ·rcases G2.eY k hk with h | ⟨h,h'⟩ | ⟨c,c1,c2,c3⟩
  ·rcases G1.eY k h with h | ⟨h,h'⟩ | ⟨c,c1,c2,c3⟩
   ·exact .inl h
   ·exact .inr (.inl ⟨h,Nat.lt_of_lt_of_le h' G2.cJ.size⟩)
   ·exact .inr (.inr ⟨c,h1 c c1,c2,c3⟩)
  ·exact .inr (.inl ⟨Nat.le_trans G1.cJ.size h,h'⟩)
  ·exact .inr (rS c k c1 c3 c2)
 ·refine (G1.cJ.mono fun k ⟨b,hb,hg⟩=>⟨b,h1 b hb,hg⟩).trans G2.cJ G1.dI fun j hj ⟨b,hb,hg⟩ => ?_
  by_cases hq:b∈jQ\/hp.length<=b
  ·rcases rS b j hb (Dw b hb hq) hg with h | ⟨c,c1,c2,_⟩
   ·omega
   ·exact ⟨c,c1,c2⟩
  ·simp only [not_or,Nat.not_le] at hq
   refine ⟨b,h2 b hb hq.2,?_⟩
   rcases hg with hg | hg
   ·exact .inl (back b j hq.2 hg)
   ·rw [G1.dj b hq.1 ag] at hg;exact .inr hg
 ·rcases G2.cP b g hg with h | h
  ·rcases G1.cP b g h with h | h
   ·exact .inl h
   ·exact .inr ag
  ·exact .inr ag
 ·have je:b∉eM:=by
   intro h
   rcases Nat.lt_or_ge b hp.length with h' | h'
   ·exact hb (h2 b h h')
   ·have:=m1 b h;omega
  rw [G2.dj b je (fun h=>hn ag),G1.dj b (fun h=>hb (h1 b h)) (fun h=>hn ag)]
 ·by_cases pn:br.length<=b\/b∈eM
  ·rcases G2.er b pn blk bz g hg with h' | ⟨c,c1,c2,c3⟩
   ·exact .inl (Nat.le_trans G1.cJ.size h')
   ·exact (rS c g c1 c3 c2).imp (fun h=>h.1) id
  ·simp only [not_or,Nat.not_le] at pn
   obtain ⟨qg,eO⟩:=ue b pn.1 ⟨blk,bz⟩
   have u6:μ1.own b g:=by
    rcases hg with hg | hg
    ·rcases G2.cP b g hg with h' | h'
     ·exact .inl h'
     ·omega
    ·rw [G2.dj b pn.2 ag] at hg;exact .inr hg
   rcases wS b g ⟨qg,eO⟩ u6 with h | ⟨c,c1,_,c2,_,c5,c3⟩
   ·exact .inl h
   ·refine .inr ⟨c,?_,c2,c3⟩
    rcases c1 with rfl | c1
    ·rcases hb with hb | hb
     ·have:=c5 rfl;omega
     ·exact hb
    ·exact h1 c c1
end
theorem au.aC5 {P:Program} {f:FuncId} {vs:List V} {hp br dY:Hp} {v:V} {wr bs:List Nat} (h:au P f vs hp ⟨v,br,wr⟩) (p:fu P br dY bs):
  au P f vs hp ⟨v,dY,wr++lG hp bs⟩:=by
 obtain ⟨ht,mX⟩:=h
 have t:=p.tidy
 have ue:∀b,b<br.length->dU dY b->dU br b:=fun b hb ⟨blk,dX⟩=>by
  by_cases n9:b∈bs
  ·exact t.lh b n9
  ·exact ⟨blk,by rw [<- t.frame b hb n9];exact dX⟩
 have fJ:hp.length<=br.length:=ht.len
 refine ⟨⟨Nat.le_trans ht.len t.len,fun b hb hn => ?_,fun b hb => ?_,fun b hb dX=>ht.alive b hb (ue b (Nat.lt_of_lt_of_le hb fJ) dX)⟩,fun I w μ b9 hv pre dN => ?_⟩
 ·simp only [List.mem_append,not_or,fO] at hn
  show dY[b]?=_
  rw [t.frame b (Nat.lt_of_lt_of_le hb fJ) (fun h=>hn.2 ⟨h,hb⟩)]
  exact ht.frame b hb hn.1
 ·rcases List.mem_append.1 hb with hb | hb
  ·exact ht.CE b hb
  ·exact (fO.1 hb).2
 ·have vK:cV P I μ w hp (List.range hp.length) br.length:=pre.top t.len
  refine (mX I w μ b9 hv vK dN).mono fun e w' ⟨val,μ',I',he,hR,G⟩ => ?_
  have ku:=G.pre fJ vK dN dY.length
  obtain ⟨μ2,G2⟩:=p.run ku (fun b hb=>by simpa using t.jx b hb)
  refine ⟨val,μ2,I',he,hR.keep (.refl w' (fun _=>False)) (.refl _) G2.le,?_⟩
  exact G.aS7 G2 fJ t.len t.jx ht.alive ue (fun b hb _=>t.lh b hb) (fun b hb=>by simp [hb]) (fun b hb hl=>by simp [fO,hb,hl]) (fun b hb=>by
   rcases List.mem_append.1 hb with hb | hb
   ·exact .inl hb
   ·exact .inr (fO.1 hb).1) dN
abbrev ly:Nat:=154
abbrev eT:Nat:=74
abbrev eb:Nat:=53
abbrev ix:Nat:=32
abbrev ez:Nat:=46
abbrev da:Nat:=29
def gi:Vw:=fun t cs i=>bif Nat.beq t ix then some (aG ((af aG cs).getD i [])) else bif Nat.beq t eb then some (aq ((af aq cs).getD i Rw.zero)) else bif Nat.beq t ez then some (az ((af az cs).getD i [])) else zl t cs i
def EM:Env:={P:=Pz,vw:=gi,res:=fun _ _ _=>none}
structure fv (r:Rw):Prop where
 n:r.cells.length<=1048576
 d:∀d∈r.cells,d.length<=1048576
theorem fU {α:Type} {l:List α} {i:Nat} (d:α) (h:i<l.length):l.take (i+1)=l.take i++[l.getD i d]:=by
 rw [List.take_add_one,List.getD_eq_getElem?_getD,List.getElem?_eq_getElem h];rfl
theorem bH {α:Type} {l:List α} {i:Nat} (d:α) (h:i<l.length):l.getD i d∈l:=by
 rw [List.getD_eq_getElem?_getD,List.getElem?_eq_getElem h];exact List.getElem_mem h
def wg (r:Rw) (l:List aQ) (i:Int):St:=⟨ah 29 [(1,.ptr 0 0),(2,.ptr 1 0),(3,.ptr 2 0),(4,.int .i64 i)],[some (aq r,eb),some ([.int .i64 0,.dsl 0 true []],eb),some ([.int .i64 r.id,.sl 3 0 l.length false],eb),some ([.aw (ae aG l)],ix)],[]⟩
def an8:Ex->Kp:=fun ex=>match ex with
 | .normal=>{keep:=[1,2,3,4],perm:=some ([0,1,2,7],[3])}
 | _=>{keep:=[1,2,3,4]}
theorem OE (r:Rw) (l:List aQ) (i:Int):bp EM 0 an8 (lp Pz ly 0) (wg r l i)=(
 let q:=List.getD (af aG (ae aG r.cells)) i.toNat [];
 let q1:=ae aj q;bif decide (i<(r.cells.length:Int)) then .ai [0<=i/\i<(r.cells.length:Int),td 1 i (ae aG r.cells)=[ab aj q]] (.ai [List.length q1=List.length q*3,List.all q1 V.one=true,0=0,0
  = 0,0+List.length q<=9223372036854775807,(0+List.length q)*32<=140737488355328] (.ai [0=0,List.length (ae aG l)=l.length*1,l.length+1<=9223372036854775807,(l.length+1)*24<=140737488355328] (nz (ah
  29 [(1,pp 0),(2,pp 1),(3,pp 2),(4,aa (wz (i+1)))]) [some ((aq r),53),some ([aa 0,.dsl 0 true []],53),some ([aa r.id,.sl 3 0 (l.length+1) false],53),some ([.aw (ae aG l++[.dsl (0+List.length q) false
  q1])],32)]))) else .done (Ex.exit 0,St.mk (ah 29 [(1,pp 0),(2,pp 1),(3,pp 2),(4,aa i)]) [some ((aq r),53),some ([aa 0,.dsl 0 true []],53),some ([aa r.id,.sl 3 0 l.length false],53),some ([.aw (ae aG l)],
  32)] []):T _):=kz
theorem G8 (r:Rw) (hr:fv r):∀(k i:Nat),i+k=r.cells.length->aT Tryz.prog 0 (lp Tryz.prog ly 0) (wg r (r.cells.take i) i) (.exit 0) (wg r r.cells r.cells.length)
 | 0,i,hi=>by
  obtain rfl:i=r.cells.length:=hi;rw [List.take_length];refine bZ (E:=EM) follows named (OE r r.cells (r.cells.length:Nat)) ?_;simp only [ba,T.WP,All,bh,bl,bg];exact ⟨fun h=>by omega,fun _=>⟨rfl,rfl⟩⟩
 | k+1,i,hi=>by
  have hn:=hr.n;have aD:=bP.at r.cells [] i 1 (by omega) rfl;have hd:=hr.d _ (bH [] (show i<r.cells.length by omega));have ih:=G8 r hr k (i+1) (by omega);have w1:IntKind.i64.wrap ((i:Int)+1)=((i+1:Nat):Int):=bW (by omega);have hl:(r.cells.take i).length=i:=by rw [List.length_take];omega
  refine bZ (E:=EM) follows named (OE r (r.cells.take i) (i:Nat)) ?_;simp only [ba,T.WP,All,bh,bl,bg,w1,bP.af,bu.length,bu.all,bP.length,Int.toNat_natCast,hl,Nat.zero_add];refine ⟨fun _=>⟨aB,aB,aB,?_⟩,fun h=>by omega⟩;rw [fU [] (show i<r.cells.length by omega)] at ih;simp only [wg,dF,aG,encS,ab,List.length_append,List.length_singleton,hl] at ih ⊢;exact ih
def ac2:Nat->St->Option b8:=fun id s=>match id,s.hp with
 | 0,some ([.int _ d,.dsl _ _ cs],_)::_=>some ⟨(),fun _=> .one {keep:=[1,2,3,4],lI:=[(3,1)]} (wg ⟨d,af aG cs⟩ [] 0) (.exit 0) (wg ⟨d,af aG cs⟩ (af aG cs) (af aG cs).length)⟩
 | _,_=>none
def zw:Env:={P:=Pz,vw:=gi,res:=fun _ _ _=>none,ls:=ac2}
theorem orT (r:Rw):fnT zw 0 ly [.agg (aq r)] []=(
 let q:=af aG (ae aG r.cells);
 let q3:=Rw.mk r.id q;
 let q1:Hp:=[some ((aq q3),53),some ([aa 0,.dsl 0 true []],53),some ([aa (Rw.id q3),.sl 3 0 0 false],53),some ([.aw []],32)];
 let q2:=ah 29 [(1,pp 0),(2,pp 1),(3,pp 2),(4,aa 0)];.bind PUnit.unit fun _=> .ai [St.mk q2 [some ((aq r),53),some ([aa 0,.dsl 0 true []],53),some ([aa r.id,.sl 3 0 0 false],53),some ([.aw []],32)] [] =
  St.mk q2 q1 [],aN (Env.P zw) 0 (blk Pz ly 0) (St.mk q2 q1 []) (Ex.exit 0) (St.mk (ah 29 [(1,pp 0),(2,pp 1),(3,pp 2),(4,aa (↑(List.length q):Int))]) [some ((aq q3),53),some ([aa 0,.dsl 0 true []],53),some
  ([aa (Rw.id q3),.sl 3 0 (List.length q) false],53),some ([.aw (ae aG q)],32)] [])] (dz (.agg [aa (Rw.id q3),ab aG q]) [] []):T _):=fz
theorem az2 (r:Rw):fnT zw 1 ly [.agg (aq r)] []=(
 let q:=af aG (ae aG r.cells);
 let q3:=Rw.mk r.id q;
 let q1:Hp:=[some ((aq q3),53),some ([aa 0,.dsl 0 true []],53),some ([aa (Rw.id q3),.sl 3 0 0 false],53),some ([.aw []],32)];
 let q2:=ah 29 [(1,pp 0),(2,pp 1),(3,pp 2),(4,aa 0)];
 let q4:=List.length q;.bind PUnit.unit fun _=> .ai [St.mk q2 [some ((aq r),53),some ([aa 0,.dsl 0 true []],53),some ([aa r.id,.sl 3 0 0 false],53),some ([.aw []],32)] []=St.mk q2 q1 [],aN (Env.P zw) 0 (blk
  Pz ly 0) (St.mk q2 q1 []) (Ex.exit 0) (St.mk (ah 29 [(1,pp 0),(2,pp 1),(3,pp 2),(4,aa (↑q4:Int))]) [some ((aq q3),53),some ([aa 0,.dsl 0 true []],53),some ([aa (Rw.id q3),.sl 3 0 q4 false],53),some ([.aw
  (ae aG q)],32)] [])] (dz (.agg [aa (Rw.id q3),.sl 0 0 q4 false]) [some ([.aw (ae aG q)],32)] []):T _):=fz
theorem x5 (r:Rw) (hr:fv r):au Pz ly [.agg (aq r)] [] ⟨.agg (aq r),[],[]⟩:=by
 refine a6 (orT r) ?_;simp only [sz,bP.af];have hl:=G8 r hr r.cells.length 0 ag;rintro _ -;exact ⟨⟨a8,.aV hl⟩,aH⟩
theorem Bs (r:Rw) (hr:fv r):au Pz ly [.agg (aq r)] [] ⟨.agg [.int .i64 r.id,.sl 0 0 r.cells.length false],[some ([.aw (ae aG r.cells)],ix)],[]⟩:=by
 refine a6 (az2 r) ?_;simp only [sz,bP.af];have hl:=G8 r hr r.cells.length 0 ag;rintro _ -;exact ⟨⟨a8,.aV hl⟩,aH⟩
section
variable {E:Env} {m:Nat} {nf:Ex->Kp} {c:Code}
theorem iE {α:Type} {l:List α} {i:Nat} (d:α) (h:i<l.length):l.drop i=l.getD i d::l.drop (i+1):=by
 rw [List.drop_eq_getElem_cons h,List.getD_eq_getElem?_getD,List.getElem?_eq_getElem h];rfl
theorem mN {α:Type} {st:Nat->St} {sr:Int->St} {sx:St} (p:α->Bool) (L:List α) (d:α) {t:Nat->T (Ex×St)} {ex ex':Ex}
  (hm:E.P.follows .mixedOrders=true) (hn:ee E.P) (hx:ex≠ .normal) (kq:ex'≠ .normal) (e:∀i,bp E m nf c (st i)=t i)
  (h:∀i,i<L.length->(t i).WP (· = bif p (L.getD i d) then (ex',sr i) else (.normal,st (i+1))))
  (he:(t L.length).WP (· = (ex,sx))):∀(k i:Nat),i+k=L.length ->
   (fidx p (L.drop i) i<0->aT E.P m c (st i) ex sx)/\(0<=fidx p (L.drop i) i->aT E.P m c (st i) ex' (sr (fidx p (L.drop i) i)))
 | 0,i,hi=>by
  obtain rfl:i=L.length:=by omega
  rw [List.drop_length]
  exact ⟨fun _=> .done (jP hm hn (e _) he) hx,fun h=>by simp [fidx] at h⟩
 | k+1,i,hi=>by
  have h1:=h i (by omega)
  have ih:=mN p L d hm hn hx kq e h he k (i+1) (by omega)
  rw [iE d (show i<L.length by omega),fidx]
  cases hg:p (L.getD i d) with
  | true=>
   rw [hg] at h1
   have hb:=jP hm hn (e i) h1
   simp only [cond_true]
   exact ⟨fun h=>by omega,fun _=> .done hb kq⟩
  | false=>
   rw [hg] at h1
   have hb:=jP hm hn (e i) h1
   simp only [cond_false]
   exact ⟨fun h=> .step hb (ih.1 h),fun h=> .step hb (ih.2 h)⟩
end
theorem kK {α:Type} (p:α->Bool):∀(l:List α) (i:Nat),fidx p l i= -1\/(i:Int)<=fidx p l i/\fidx p l i<(i:Int)+l.length
 | [],_=> .inl rfl
 | x::xs,i=>by
  rw [fidx];cases p x
  ·simp only [cond_false,List.length_cons];rcases kK p xs (i+1) with h | h
   ·exact .inl h
   ·exact .inr ag
  ·simp only [cond_true,List.length_cons];exact .inr ag
theorem KX {α:Type} (p:α->Bool) (d:α):∀(l:List α) (i:Nat),0<=fidx p l i->p (l.getD ((fidx p l i).toNat - i) d)=true
 | [],_,h=>by simp [fidx] at h
 | x::xs,i,h=>by
  rw [fidx] at h ⊢;cases hp:p x
  ·rw [hp] at h;simp only [cond_false] at h ⊢;have:=KX p d xs (i+1) h;rcases kK p xs (i+1) with h2 | h2
   ·omega
   ·rw [show (fidx p xs (i+1)).toNat - i=(fidx p xs (i+1)).toNat - (i+1)+1 by omega,List.getD_cons_succ];exact this
  ·simp only [cond_true];rw [show ((i:Int)).toNat - i=0 by omega,List.getD_cons_zero];exact hp
theorem uT {α:Type} {p:α->Bool} {l:List α} (d:α) (h:0<=fidx p l 0):(fidx p l 0).toNat<l.length/\p (l.getD (fidx p l 0).toNat d)=true:=by
 refine ⟨?_,by simpa using KX p d l 0 h⟩;rcases kK p l 0 with h2 | h2 <;> omega
abbrev pg:Nat:=140
abbrev qz:Nat:=215
abbrev qn:Nat:=178
abbrev oZ:Nat:=113
abbrev pa:Nat:=191
def oM:Env:={P:=Pz,vw:=gi,res:=fun _ _ _=>none}
def yP (rows:List Rw) (id:Int) (i:Int):St:=⟨ah 20 [(0,ab aq rows),(1,.int .i64 id),(5,.int .i64 i)],[],[]⟩
def ND:Ex->Kp:=fun ex=>match ex with
 | .normal=>{keep:=[0,1,5]}
 | .ret=>{keep:=[4]}
 | _=>{keep:=[]}
theorem plL (rows:List Rw) (id:Int) (i:Int):bp oM 0 ND (lp Pz pg 0) (yP rows id i)=(
 let q:=List.getD (af aq (ae aq rows)) i.toNat (Rw.mk (0:Int) []);bif decide (i<(rows.length:Int)) then .ai [0<=i/\i<(rows.length:Int),td 2 i (ae aq rows)=(aq q)] (bif Rw.id q==id then .done
  (Ex.ret,St.mk (ah 20 [(4,aa i)]) [] []) else nz (ah 20 [(0,ab aq rows),(1,aa id),(5,aa (wz (i+1)))]) []) else .done (Ex.exit 0,St.mk (ah 20 []) [] []):T _):=kz
theorem aA7 (rows:List Rw) (id:Int) (h:rows.length<=1048576):
  (cE rows id<0->aT Tryz.prog 0 (lp Tryz.prog pg 0) (yP rows id 0) (.exit 0) ⟨ah 20 [],[],[]⟩) /\
  (0<=cE rows id->aT Tryz.prog 0 (lp Tryz.prog pg 0) (yP rows id 0) .ret ⟨ah 20 [(4,.int .i64 (cE rows id))],[],[]⟩):=by
 refine mN (E:=oM) (nf:=ND) (st:=fun i=>yP rows id (i:Nat)) (sr:=fun j=>⟨ah 20 [(4,.int .i64 j)],[],[]⟩) (fun r:Rw=>r.id==id) rows ⟨0,[]⟩ follows named (by simp) (by simp) (fun i=>plL rows id (i:Nat)) (fun i hi => ?_) ?_ rows.length 0 (by simp)
 ·have aD:=bI.at rows ⟨0,[]⟩ i 2 hi rfl
  simp only [ba,T.WP,All,bh,bl,bg,bm,bn,bo,Int.toNat_natCast,bI.af,bW (show i<9223372036854775807 by omega)]
  refine ⟨fun _=>⟨⟨aB,aD⟩,fun h => ?_,fun h => ?_⟩,fun h=>by omega⟩
  ·rw [show ((rows.getD i ⟨0,[]⟩).id==id)=true from by simpa using h];rfl
  ·rw [show ((rows.getD i ⟨0,[]⟩).id==id)=false from by simpa using h];rfl
 ·simp only [ba,T.WP,All,bh,bl,bg,bm,bn,bo]
  exact ⟨fun h=>by omega,fun _=>trivial⟩
def ad2:Nat->St->Option b8:=fun id s=>match id,s.tm.get 0,s.tm.get 1 with
 | 0,.dsl _ _ cs,.int _ k=>some ⟨cE (af aq cs) k,fun y=> .two {keep:=[0,1,5]} (yP (af aq cs) k 0) (decide (y<0)) (.exit 0) ⟨ah 20 [],[],[]⟩ .ret ⟨ah 20 [(4,.int .i64 y)],[],[]⟩⟩
 | _,_,_=>none
def Da:Env:={P:=Pz,vw:=gi,res:=fun _ _ _=>none,ls:=ad2}
theorem plT (rows:List Rw) (id:Int):fnT Da 0 pg [ab aq rows,.int .i64 id] []=(
 let q1:=af aq (ae aq rows);
 let q:=ah 20 [(0,ab aq q1),(1,aa id),(5,aa 0)];.bind (cE q1 id) fun y0=> .ai [St.mk (ah 20 [(0,ab aq rows),(1,aa id),(5,aa 0)]) [] []=St.mk q [] []] (bif decide (y0<0) then .ai [aN (Env.P
  Da) 0 (blk Pz pg 0) (St.mk q [] []) (Ex.exit 0) (St.mk (ah 20 []) [] [])] (dz (aa (-1:Int)) [] []) else .ai [aN (Env.P Da) 0 (blk Pz pg 0) (St.mk q [] []) Ex.ret (St.mk (ah 20 [(4,aa y0)]) [] [])] (dz (aa y0)
  [] [])):T _):=fz
theorem aA8 {rows:List Rw} {id:Int} (h:cE rows id<0):cE rows id= -1:=by
 unfold cE at *;rcases kK (fun r:Rw=>r.id==id) rows 0 with h2 | h2 <;> omega
theorem Bx (rows:List Rw) (id:Int) (h:rows.length<=1048576):au Pz pg [ab aq rows,.int .i64 id] [] ⟨.int .i64 (cE rows id),[],[]⟩:=by
 refine a6 (plT rows id) ?_;simp only [sz,bI.af];have hl:=aA7 rows id h;rintro y rfl;refine ⟨a8,fun h=>⟨.aV (hl.1 h),?_⟩,fun h=>⟨.aV (hl.2 ag),?_⟩⟩
 ·rw [aA8 h];exact aH
 ·exact aH
def yY (a b:aQ) (i:Int):St:=⟨ah 26 [(0,ab aj a),(1,ab aj b),(5,.int .i64 i)],[],[]⟩
def NM:Ex->Kp:=fun ex=>match ex with
 | .normal=>{keep:=[0,1,5]}
 | .ret=>{keep:=[4]}
 | _=>{keep:=[]}
theorem smL (a b:aQ) (i:Int):bp oM 0 NM (lp Pz qz 0) (yY a b i)=(
 let q2:=At.mk (0:Int) (0:Int) [];
 let q:=List.getD (af aj (ae aj a)) i.toNat q2;
 let q1:=List.getD (af aj (ae aj b)) i.toNat q2;bif decide (i<(a.length:Int)) then .ai [0<=i/\i<(a.length:Int),td 3 i (ae aj a)=aj q] (.ai [0<=i/\i<(b.length:Int),td 3 i (ae aj b)=aj
  q1] (bif !(At.kind q==At.kind q1&&(At.n q==At.n q1&&(At.t q==At.t q1&&true))) then .done (Ex.ret,St.mk (ah 26 [(4,.bool false)]) [] []) else nz (ah 26 [(0,ab aj a),(1,ab aj b),(5,aa (wz (i+1)))]) []))
  else .done (Ex.exit 0,St.mk (ah 26 []) [] []):T _):=kz
def ae4:Nat->St->Option b8:=fun id s=>match id,s.tm.get 0,s.tm.get 1 with
 | 0,.dsl _ _ cs,.dsl _ _ ds=>some ⟨decide (af aj cs=af aj ds),fun y=> .two {keep:=[0,1,5]} (yY (af aj cs) (af aj ds) 0) y (.exit 0) ⟨ah 26 [],[],[]⟩ .ret ⟨ah 26 [(4,.bool false)],[],[]⟩⟩
 | _,_,_=>none
def Db:Env:={P:=Pz,vw:=gi,res:=fun _ _ _=>none,ls:=ae4}
theorem smT (a b:aQ):fnT Db 0 qz [ab aj a,ab aj b] []=(
 let q:=ah 26 [(0,ab aj (af aj (ae aj a))),(1,ab aj (af aj (ae aj b))),(5,aa 0)];bif (a.length:Int) != (b.length:Int) then dz (.bool false) [] [] else .bind (decide (af aj (ae aj a) =
  af aj (ae aj b))) fun y0=> .ai [St.mk (ah 26 [(0,ab aj a),(1,ab aj b),(5,aa 0)]) [] []=St.mk q [] []] (bif y0 then .ai [aN (Env.P Db) 0 (blk Pz qz 0) (St.mk q [] []) (Ex.exit 0) (St.mk (ah 26
  []) [] [])] (dz (.bool true) [] []) else .ai [aN (Env.P Db) 0 (blk Pz qz 0) (St.mk q [] []) Ex.ret (St.mk (ah 26 [(4,.bool false)]) [] [])] (dz (.bool false) [] [])):T _):=kz
def yo (a b:aQ) (i:Nat):Bool:=dM (a.getD i ⟨0,0,[]⟩) (b.getD i ⟨0,0,[]⟩)
theorem aN1 {a b:aQ} (h:a.length=b.length):allN (yo a b) a.length 0=decide (a=b):=by
 rw [Bool.eq_iff_iff,decide_eq_true_eq,nF];constructor
 ·intro hh;refine List.ext_getElem h fun i h1 h2 => ?_;have:=rN.1 (hh i (Nat.zero_le _) ag);rw [List.getD_eq_getElem?_getD,List.getD_eq_getElem?_getD,List.getElem?_eq_getElem h1,List.getElem?_eq_getElem h2] at this;exact this
 ·rintro rfl j _ _;exact rN.2 rfl
theorem aN2 (a b:aQ) (ha:a.length<=1048576) (h:a.length=b.length):
  (allN (yo a b) a.length 0=true->aT Tryz.prog 0 (lp Tryz.prog qz 0) (yY a b 0) (.exit 0) ⟨ah 26 [],[],[]⟩) /\
  (allN (yo a b) a.length 0=false->aT Tryz.prog 0 (lp Tryz.prog qz 0) (yY a b 0) .ret ⟨ah 26 [(4,.bool false)],[],[]⟩):=by
 refine ju (E:=oM) (nf:=NM) (st:=fun i=>yY a b (i:Nat)) (n:=a.length) (yo a b) follows named (by simp) (by simp) (fun i=>smL a b (i:Nat)) (fun i hi => ?_) ?_ a.length 0 (by simp)
 ·have aD:=bu.at a ⟨0,0,[]⟩ i 3 hi rfl
  have cB:=bu.at b ⟨0,0,[]⟩ i 3 (by omega) rfl
  unfold yo
  simp only [ba,T.WP,All,decide_eq_true_eq,decide_eq_false_iff_not,and_true,Int.toNat_natCast,bu.af,bW (show i<9223372036854775807 by omega)]
  refine ⟨fun _=>⟨⟨aB,aD⟩,⟨aB,cB⟩,fun h => ?_,fun h => ?_⟩,fun h=>by omega⟩
  ·rw [show dM (a.getD i ⟨0,0,[]⟩) (b.getD i ⟨0,0,[]⟩)=false from by have h2:(!dM (a.getD i ⟨0,0,[]⟩) (b.getD i ⟨0,0,[]⟩))=true:=h;rw [Bool.not_eq_true'] at h2;exact h2];rfl
  ·rw [show dM (a.getD i ⟨0,0,[]⟩) (b.getD i ⟨0,0,[]⟩)=true from by have h2:(!dM (a.getD i ⟨0,0,[]⟩) (b.getD i ⟨0,0,[]⟩))=false:=h;rw [Bool.not_eq_false'] at h2;exact h2];rfl
 ·simp only [ba,T.WP,All,bh,bl,bg]
  exact ⟨fun h=>by omega,fun _=>trivial⟩
theorem BQ (a b:aQ) (ha:a.length<=1048576):au Pz qz [ab aj a,ab aj b] [] ⟨.bool (decide (a=b)),[],[]⟩:=by
 refine a6 (smT a b) ?_;simp only [sz,bu.af];refine ⟨fun h => ?_,fun h => ?_⟩
 ·have bc:¬a=b:=by
   rintro rfl;simp at h
  rw [decide_eq_false bc];exact aH
 ·have h':a.length=b.length:=by simp at h;omega
  have hl:=aN2 a b ha h';rw [aN1 h'] at hl;rintro y rfl;refine ⟨a8,fun h=>⟨.aV (hl.1 dT),?_⟩,fun h=>⟨.aV (hl.2 dT),?_⟩⟩
  ·rw [h];exact aH
  ·rw [h];exact aH
def yq (t:Tb) (nm:List UInt8) (i:Int):St:=⟨ah 22 [(1,.str nm),(2,.ptr 0 0),(5,.int .i64 i)],[some (ao t,gp)],[]⟩
def Bl:Ex->Kp:=fun ex=>match ex with
 | .normal=>{keep:=[1,2,5]}
 | .ret=>{keep:=[4]}
 | _=>{keep:=[]}
theorem T0 (t:Tb) (nm:List UInt8) (i:Int):bp oM 0 Bl (lp Pz qn 0) (yq t nm i)=(
 let q:=List.getD (af aY (ae aY t.av)) i.toNat (aL.mk [] (0:Int) (0:Int) (0:Int) (0:Int) (0:Int) [] false);bif decide (i<(t.av.length:Int)) then .ai [0<=i/\i<(t.av.length:Int),td 8 i (ae
  aY t.av)=(aY q)] (bif aL.name q==nm then .done (Ex.ret,St.mk (ah 22 [(4,aa i)]) [] []) else nz (ah 22 [(1,.str nm),(2,pp 0),(5,aa (wz (i+1)))]) [some ((ao t),44)]) else .done (Ex.exit 0,St.mk (ah 22
  []) [] []):T _):=kz
theorem Uf (t:Tb) (nm:List UInt8) (h:t.av.length<=1048576):
  (bf t nm<0->aT Tryz.prog 0 (lp Tryz.prog qn 0) (yq t nm 0) (.exit 0) ⟨ah 22 [],[],[]⟩) /\
  (0<=bf t nm->aT Tryz.prog 0 (lp Tryz.prog qn 0) (yq t nm 0) .ret ⟨ah 22 [(4,.int .i64 (bf t nm))],[],[]⟩):=by
 refine mN (E:=oM) (nf:=Bl) (st:=fun i=>yq t nm (i:Nat)) (sr:=fun j=>⟨ah 22 [(4,.int .i64 j)],[],[]⟩) (fun c:aL=>c.name==nm) t.av .zero follows named (by simp) (by simp) (fun i=>T0 t nm (i:Nat)) (fun i hi => ?_) ?_ t.av.length 0 (by simp)
 ·have aD:=db.at t.av .zero i 8 hi rfl
  simp only [ba,T.WP,All,bh,bl,bg,bm,bn,bo,Int.toNat_natCast,db.af,bW (show i<9223372036854775807 by omega)]
  refine ⟨fun _=>⟨⟨aB,aD⟩,fun h => ?_,fun h => ?_⟩,fun h=>by omega⟩
  ·change (t.av.getD i .zero).name=nm at h
   rw [show ((t.av.getD i .zero).name==nm)=true from by simpa using h];rfl
  ·change ¬(t.av.getD i .zero).name=nm at h
   rw [show ((t.av.getD i .zero).name==nm)=false from by simpa using h];rfl
 ·simp only [ba,T.WP,All,bh,bl,bg,bm,bn,bo]
  exact ⟨fun h=>by omega,fun _=>trivial⟩
def Z9:Nat->St->Option b8:=fun id s=>match id,s.tm.get 1,s.hp with
 | 0,.str nm,some ([.str tn,.dsl _ _ cc,.dsl _ _ uu,.bool r],_)::_=>some ⟨bf (bw tn cc uu r) nm,fun y=> .two {keep:=[1,2,5]} (yq (bw tn cc uu r) nm 0) (decide (y<0)) (.exit 0) ⟨ah 22 [],[],[]⟩ .ret ⟨ah 22 [(4,.int .i64 y)],[],[]⟩⟩
 | _,_,_=>none
def CM:Env:={P:=Pz,vw:=gi,res:=fun _ _ _=>none,ls:=Z9}
theorem T9 (t:Tb) (nm:List UInt8):fnT CM 0 qn [.agg (ao t),.str nm] []=(
 let q:=bw t.name (ae aY t.av) (ae aJ t.uniq) t.root;
 let q1:=ah 22 [(1,.str nm),(2,pp 0),(5,aa 0)];
 let q2:Hp:=[some ((ao q),44)];.bind (bf q nm) fun y0=> .ai [St.mk q1 [some ((ao t),44)] []=St.mk q1 q2 []] (bif decide (y0<0) then .ai [aN (Env.P CM) 0 (blk Pz qn 0) (St.mk q1 q2 []) (Ex.exit 0) (St.mk
  (ah 22 []) [] [])] (dz (aa (-1:Int)) [] []) else .ai [aN (Env.P CM) 0 (blk Pz qn 0) (St.mk q1 q2 []) Ex.ret (St.mk (ah 22 [(4,aa y0)]) [] [])] (dz (aa y0) [] [])):T _):=fz
theorem Uh {t:Tb} {nm:List UInt8} (h:bf t nm<0):bf t nm= -1:=by
 unfold bf at *;rcases kK (fun c:aL=>c.name==nm) t.av 0 with h2 | h2 <;> omega
theorem qj (t:Tb) (nm:List UInt8) (h:t.av.length<=1048576):au Pz qn [.agg (ao t),.str nm] [] ⟨.int .i64 (bf t nm),[],[]⟩:=by
 refine a6 (T9 t nm) ?_;simp only [sz,cH];have hl:=Uf t nm h;rintro y rfl;refine ⟨a8,fun h=>⟨.aV (hl.1 h),?_⟩,fun h=>⟨.aV (hl.2 ag),?_⟩⟩
 ·rw [Uh h];exact aH
 ·exact aH
def yy (S:aO) (nm:List UInt8) (i:Int):St:=⟨ah 22 [(1,.str nm),(2,.ptr 0 0),(5,.int .i64 i)],[some ([ab ao S],25)],[]⟩
theorem VK (S:aO) (nm:List UInt8) (i:Int):bp oM 0 Bl (lp Pz oZ 0) (yy S nm i)=(
 let q:=List.getD (af ao (ae ao S)) i.toNat (Tb.mk [] [] [] false);bif decide (i<(S.length:Int)) then .ai [0<=i/\i<(S.length:Int),td 4 i (ae ao S)=(ao q)] (bif Tb.name q==nm then .done (Ex.ret,St.mk
  (ah 22 [(4,aa i)]) [] []) else nz (ah 22 [(1,.str nm),(2,pp 0),(5,aa (wz (i+1)))]) [some ([ab ao S],25)]) else .done (Ex.exit 0,St.mk (ah 22 []) [] []):T _):=kz
theorem VM (S:aO) (nm:List UInt8) (h:S.length<=1048576):
  (dk S nm<0->aT Tryz.prog 0 (lp Tryz.prog oZ 0) (yy S nm 0) (.exit 0) ⟨ah 22 [],[],[]⟩) /\
  (0<=dk S nm->aT Tryz.prog 0 (lp Tryz.prog oZ 0) (yy S nm 0) .ret ⟨ah 22 [(4,.int .i64 (dk S nm))],[],[]⟩):=by
 refine mN (E:=oM) (nf:=Bl) (st:=fun i=>yy S nm (i:Nat)) (sr:=fun j=>⟨ah 22 [(4,.int .i64 j)],[],[]⟩) (fun c:Tb=>c.name==nm) S .zero follows named (by simp) (by simp) (fun i=>VK S nm (i:Nat)) (fun i hi => ?_) ?_ S.length 0 (by simp)
 ·have aD:=bN.at S .zero i 4 hi rfl
  simp only [ba,T.WP,All,bh,bl,bg,bm,bn,bo,Int.toNat_natCast,bN.af,bW (show i<9223372036854775807 by omega)]
  refine ⟨fun _=>⟨⟨aB,aD⟩,fun h => ?_,fun h => ?_⟩,fun h=>by omega⟩
  ·change (S.getD i .zero).name=nm at h
   rw [show ((S.getD i .zero).name==nm)=true from by simpa using h];rfl
  ·change ¬(S.getD i .zero).name=nm at h
   rw [show ((S.getD i .zero).name==nm)=false from by simpa using h];rfl
 ·simp only [ba,T.WP,All,bh,bl,bg,bm,bn,bo]
  exact ⟨fun h=>by omega,fun _=>trivial⟩
def aa4:Nat->St->Option b8:=fun id s=>match id,s.tm.get 1,s.hp with
 | 0,.str nm,some ([.dsl _ _ cs],_)::_=>some ⟨dk (af ao cs) nm,fun y=> .two {keep:=[1,2,5]} (yy (af ao cs) nm 0) (decide (y<0)) (.exit 0) ⟨ah 22 [],[],[]⟩ .ret ⟨ah 22 [(4,.int .i64 y)],[],[]⟩⟩
 | _,_,_=>none
def CS:Env:={P:=Pz,vw:=gi,res:=fun _ _ _=>none,ls:=aa4}
theorem VL (S:aO) (nm:List UInt8):fnT CS 0 oZ [.agg [ab ao S],.str nm] []=(
 let q:=ah 22 [(1,.str nm),(2,pp 0),(5,aa 0)];
 let q2:=af ao (ae ao S);
 let q1:Hp:=[some ([ab ao q2],25)];.bind (dk q2 nm) fun y0=> .ai [St.mk q [some ([ab ao S],25)] []=St.mk q q1 []] (bif decide (y0<0) then .ai [aN (Env.P CS) 0 (blk Pz oZ 0) (St.mk q q1 []) (Ex.exit 0)
  (St.mk (ah 22 []) [] [])] (dz (aa (-1:Int)) [] []) else .ai [aN (Env.P CS) 0 (blk Pz oZ 0) (St.mk q q1 []) Ex.ret (St.mk (ah 22 [(4,aa y0)]) [] [])] (dz (aa y0) [] [])):T _):=fz
theorem aQ8 {S:aO} {nm:List UInt8} (h:dk S nm<0):dk S nm= -1:=by
 unfold dk at *;rcases kK (fun c:Tb=>c.name==nm) S 0 with h2 | h2 <;> omega
theorem Ay (S:aO) (nm:List UInt8) (h:S.length<=1048576):au Pz oZ [.agg [ab ao S],.str nm] [] ⟨.int .i64 (dk S nm),[],[]⟩:=by
 refine a6 (VL S nm) ?_;simp only [sz,bN.af];have hl:=VM S nm h;rintro y rfl;refine ⟨a8,fun h=>⟨.aV (hl.1 h),?_⟩,fun h=>⟨.aV (hl.2 ag),?_⟩⟩
 ·rw [aQ8 h];exact aH
 ·exact aH
def PR:cy:=fun f vs hp=>match vs,hp with
 | [.int _ n,.int _ lo,.int _ hi],[]=>bif Nat.beq f mK then some ⟨bC n lo hi,fun y=>⟨.bool y,[],[]⟩⟩ else none
 | _,_=>none
def CU:Env:={P:=Pz,vw:=gi,res:=PR}
def yA (c:aL) (d:aQ) (i:Int):St:=⟨ah 48 [(1,ab aj d),(2,.ptr 0 0),(5,.int .i64 i)],[some (aY c,ze)],[]⟩
def Nt:Ex->Kp:=fun ex=>match ex with
 | .normal=>{keep:=[1,2,5]}
 | .ret=>{keep:=[4]}
 | _=>{keep:=[]}
theorem Wg (c:aL) (d:aQ) (i:Int):bp CU 0 Nt (lp Pz pa 0) (yA c d i)=(
 let q:=List.getD (af aj (ae aj d)) i.toNat (At.mk (0:Int) (0:Int) []);
 let q1:=ah 48 [(1,ab aj d),(2,pp 0),(5,aa (wz (i+1)))];bif decide (i<(d.length:Int)) then bif c.kind==1 then .ai [0<=i/\i<(d.length:Int),td 3 i (ae aj d)=aj q] (.bind (bC (At.n q) c.low c.high)
  fun y0=> .ai [au (Env.P CU) 51 [aa (At.n q),aa c.low,aa c.high] [] (aF.mk (.bool y0) [] [])] (bif !y0 then .done (Ex.ret,St.mk (ah 48 [(4,aa 4)]) [] []) else nz q1 [some ((aY c),85)])) else nz q1 [some ((aY
  c),85)] else .done (Ex.exit 0,St.mk (ah 48 []) [] []):T _):=kz
def qD (c:aL) (d:aQ) (i:Nat):Bool:= !(c.kind==1)||bC (d.getD i ⟨0,0,[]⟩).n c.low c.high
theorem Lm (c:aL) (d:aQ):allN (qD c d) d.length 0= !(c.kind==1&&d.any (fun a=> !bC a.n c.low c.high)):=by
 have:=qf (fun a:At=> !(c.kind==1)||bC a.n c.low c.high) ⟨0,0,[]⟩ d;show allN (fun i=> !(c.kind==1)||bC (d.getD i ⟨0,0,[]⟩).n c.low c.high) d.length 0=_;rw [this];cases c.kind==1
 ·simp
 ·simp [List.all_eq_not_any_not]
theorem pL (n lo hi:Int):au Pz mK [.int .i64 n,.int .i64 lo,.int .i64 hi] [] ⟨.bool (bC n lo hi),[],[]⟩:=fB n lo hi
theorem Wi (c:aL) (d:aQ) (hd:d.length<=1048576):
  (allN (qD c d) d.length 0=true->aT Tryz.prog 0 (lp Tryz.prog pa 0) (yA c d 0) (.exit 0) ⟨ah 48 [],[],[]⟩) /\
  (allN (qD c d) d.length 0=false->aT Tryz.prog 0 (lp Tryz.prog pa 0) (yA c d 0) .ret ⟨ah 48 [(4,.int .i64 4)],[],[]⟩):=by
 refine ju (E:=CU) (nf:=Nt) (st:=fun i=>yA c d (i:Nat)) (n:=d.length) (qD c d) follows named (by simp) (by simp) (fun i=>Wg c d (i:Nat)) (fun i hi => ?_) ?_ d.length 0 (by simp)
 ·have aD:=bu.at d ⟨0,0,[]⟩ i 3 hi rfl
  unfold qD
  simp only [ba,T.WP,All,bh,bl,bg,bm,bn,bo,Int.toNat_natCast,bu.af,bW (show i<9223372036854775807 by omega)]
  refine ⟨fun _=>⟨fun hk=>⟨⟨aB,aD⟩,?_⟩,fun hk => ?_⟩,fun h=>by omega⟩
  ·rintro y rfl
   rw [show (c.kind==1)=true by simpa using hk,Bool.not_true,Bool.false_or]
   refine ⟨pL _ _ _,fun h => ?_,fun h => ?_⟩
   ·rw [Bool.not_eq_true'] at h;rw [h];rfl
   ·rw [Bool.not_eq_false'] at h;rw [h];rfl
  ·rw [show (c.kind==1)=false by simpa using hk,Bool.not_false,Bool.true_or];rfl
 ·simp only [ba,T.WP,All,bh,bl,bg,bm,bn,bo]
  exact ⟨fun h=>by omega,fun _=>trivial⟩
def aa6:Nat->St->Option b8:=fun id s=>match id,s.tm.get 1,s.hp with
 | 0,.dsl _ _ cs,some ([.str nm,.int _ a,.int _ b,.int _ e,.int _ f,.int _ g,.str r,.bool q],_)::_=>some ⟨allN (qD ⟨nm,a,b,e,f,g,r,q⟩ (af aj cs)) (af aj cs).length 0,fun y=> .two {keep:=[1,2,5]} (yA ⟨nm,a,b,e,f,g,r,q⟩ (af aj cs) 0) y (.exit 0) ⟨ah 48 [],[],[]⟩ .ret ⟨ah 48 [(4,.int .i64 4)],[],[]⟩⟩
 | _,_,_=>none
def rH:Env:={P:=Pz,vw:=gi,res:=PR,ls:=aa6}
theorem Wh (c:aL) (d:aQ):fnT rH 0 pa [.agg (aY c),ab aj d] []=(
 let q3:=af aj (ae aj d);
 let q5:=ah 48 [(1,ab aj q3),(2,pp 0),(5,aa 0)];
 let q2:=aL.mk c.name c.kind c.min c.max c.low c.high c.ref c.fF;
 let q:=St.mk q5 [some ((aY q2),85)] [];
 let q1:List Prop:=[St.mk (ah 48 [(1,ab aj d),(2,pp 0),(5,aa 0)]) [some ((aY c),85)] []=St.mk q5 [some ((aY q2),85)] []];
 let q4:=(d.length:Int);
 let q6:=List.getD q3 0 (At.mk (0:Int) (0:Int) []);
 let q7:=blk Pz pa 0;
 let q8:=allN (qD q2 q3) (List.length q3) 0;
 let q9:=St.mk (ah 48 [(4,aa 4)]) [] [];bif decide (q4>0) then .ai [(0:Int)<=0/\(0:Int)<q4,List.take 3 (List.drop 0 (ae aj d))=aj q6] (bif At.kind q6 != c.kind then dz (aa 9) [] [] else .bind (bC q4 c.min
  c.max) fun y0=> .ai [au (Env.P rH) 51 [aa q4,aa c.min,aa c.max] [] (aF.mk (.bool y0) [] [])] (bif !y0 then dz (aa 6) [] [] else .bind q8 fun y1=> .ai q1 (bif y1 then .ai [aN (Env.P rH) 0 q7 q (Ex.exit 0) (St.mk
  (ah 48 []) [] [])] (dz (aa 0) [] []) else .ai [aN (Env.P rH) 0 q7 q Ex.ret q9] (dz (aa 4) [] [])))) else .bind (bC q4 c.min c.max) fun y2=> .ai [au (Env.P rH) 51 [aa q4,aa c.min,aa c.max] [] (aF.mk (.bool y2)
  [] [])] (bif !y2 then dz (aa 6) [] [] else .bind q8 fun y3=> .ai q1 (bif y3 then .ai [aN (Env.P rH) 0 q7 q (Ex.exit 0) (St.mk (ah 48 []) [] [])] (dz (aa 0) [] []) else .ai [aN (Env.P rH) 0 q7 q Ex.ret q9] (dz
  (aa 4) [] []))):T _):=kz
theorem E8 (c:aL) (d:aQ) (hd:d.length<=1048576):au Pz pa [.agg (aY c),ab aj d] [] ⟨.int .i64 (dn c d),[],[]⟩:=by
 refine a6 (Wh c d) ?_;simp only [sz,bu.af];have hl:=Wi c d hd;rw [Lm] at hl;have kM:=Lm c d;refine ⟨fun hp => ?_,fun hp => ?_⟩;have aD:=bu.at d ⟨0,0,[]⟩ 0 3 ag rfl;rw [Nat.zero_mul] at aD
 refine ⟨⟨aB,aD⟩,fun hk => ?_,fun hk => ?_⟩
 ·have hb:(decide (0<d.length) && !((d.getD 0 .zero).kind==c.kind))=true:=by
   rw [decide_eq_true (by omega:0<d.length),Bool.true_and];exact hk
  unfold dn;rw [hb];exact aH
 all_goals
  have hb:(decide (0<d.length) && !((d.getD 0 .zero).kind==c.kind))=false:=by
   first
   | (rw [decide_eq_false (by omega:¬0<d.length)];rfl)
   | (rw [decide_eq_true (by omega:0<d.length),Bool.true_and];exact hk)
  unfold dn;rw [hb];rintro y rfl;refine ⟨pL _ _ _,fun h => ?_,fun h => ?_⟩
  ·rw [h];exact aH
  ·rw [h];rintro y rfl;have WR:allN (qD ⟨c.name,c.kind,c.min,c.max,c.low,c.high,c.ref,c.fF⟩ d) d.length 0=_:=kM;rw [WR];refine ⟨a8,fun h2=>⟨.aV (hl.1 h2),?_⟩,fun h2=>⟨.aV (hl.2 h2),?_⟩⟩
   ·rw [Bool.not_eq_true'] at h2;rw [h2];exact aH
   ·rw [Bool.not_eq_false'] at h2;rw [h2];exact aH
def ca (r:Rw):List V:=[.int .i64 r.id,.osl ix r.cells.length false (ae aG r.cells)]
def oR (rows:List Rw):List V:=[.osl eb rows.length true (ae ca rows)]
def fc:TypeId->Nat->Option TypeId:=fun t k=>bif Nat.beq t eb then (bif Nat.beq (k % 2) 1 then some ix else none) else bif Nat.beq t ez then some eb else bif Nat.beq t da then (bif Nat.beq (k % 2) 0 then some ez else none) else none
def PV:cy:=fun f vs hp=>match vs,hp with
 | [.agg [.int _ d,.dsl n _ cs]],[]=>bif Nat.beq f ly then some ⟨(),fun _=>⟨.agg [.int .i64 d,.sl 0 0 n false],[some ([.aw cs],ix)],[]⟩⟩ else none
 | _,_=>none
structure lq (x:aA):Prop where
 n:x.ak.length<=1048576
 t:∀rows∈x.ak,rows.length<=1048576
 r:∀rows∈x.ak,∀r∈rows,fv r
theorem KI {α:Type} {enc:α->List V} {s:Nat} (h:∀x,(enc x).length=s) (l:List α):(ae enc l).length=l.length*s:=by
 induction l with
 | nil=>simp [ae]
 | cons x l ih=>rw [eS,List.length_append,h,ih,List.length_cons,Nat.succ_mul];omega
theorem D4 (l:List Rw):(ae ca l).length=l.length*2:=KI (enc:=ca) (s:=2) (fun _=>rfl) l
theorem VD (l:List (List Rw)):(ae oR l).length=l.length*1:=KI (enc:=oR) (s:=1) (fun _=>rfl) l
def zB:Env:={P:=Pz,vw:=gi,res:=PV}
def rq (x:aA) (D:List (List Rw)) (l:List Rw) (i k:Int):St:=⟨ah 48 [(1,.ptr 0 0),(2,.ptr 1 0),(3,.ptr 2 0),(4,.int .i64 i),(5,.sl 3 0 l.length false),(6,.int .i64 k)],
 [some (aM x,da),some ([.osl ez 0 false [],.int .i64 0],da),some ([.osl ez D.length true (ae oR D),.int .i64 x.next],da),some ([.cS (ae ca l)],eb)],[]⟩
def NA:Ex->Kp:=fun _=>{keep:=[1,2,3,4,5,6],pk:=some fc}
theorem OP (x:aA) (D:List (List Rw)) (l:List Rw) (i k:Int):bp zB 0 NA (lp Pz eT 2) (rq x D l i k)=(
 let q1:=List.getD (af az (ae az x.ak)) i.toNat [];
 let q:=List.getD (af aq (ae aq q1)) k.toNat (Rw.mk (0:Int) []);
 let q2:List Prop:=[0<=i/\i<(x.ak.length:Int),td 1 i (ae az x.ak)=[ab aq q1]];
 let q3:List V:=[.osl 46 D.length true (ae oR D),aa x.next];
 let q4:=List.length (Rw.cells q);
 let q5:=ae aG (Rw.cells q);.ai q2 (bif decide (k<(↑(List.length q1):Int)) then .ai q2 (.ai [0<=k/\k<(↑(List.length q1):Int),td 2 k (ae aq q1)=[aa (Rw.id q),ab aG (Rw.cells q)]] (.bind PUnit.unit
  fun _=> .ai [au (Env.P zB) 154 [.agg [aa (Rw.id q),ab aG (Rw.cells q)]] [] (aF.mk (.agg [aa (Rw.id q),.sl 0 0 q4 false]) [some ([.aw q5],32)] [])] (.ai [0=0,List.length (ae ca l)=l.length*2,l.length
  + 1<=9223372036854775807,(l.length+1)*32<=140737488355328] (nz (ah 48 [(1,pp 0),(2,pp 1),(3,pp 2),(4,aa i),(5,.sl 3 0 (l.length+1) false),(6,aa (wz (k+1)))]) [some ((aM x),29),some ([.osl 46 0 false [],
  aa 0],29),some (q3,29),some ([.cS (ae ca l++[aa (Rw.id q),.osl 32 q4 false q5])],53)])))) else .done (Ex.exit 2,St.mk (ah 48 [(1,pp 0),(2,pp 1),(3,pp 2),(4,aa i),(5,.sl 3 0 l.length false),(6,aa k)])
  [some ((aM x),29),some ([.osl 46 0 false [],aa 0],29),some (q3,29),some ([.cS (ae ca l)],53)] [])):T _):=fz
theorem OQ {x:aA} (hx:lq x) (D:List (List Rw)) (i:Nat) (hi:i<x.ak.length):∀(n k:Nat),k+n=(x.ak.getD i []).length ->
  aT Tryz.prog 0 (lp Tryz.prog eT 2) (rq x D ((x.ak.getD i []).take k) i k) (.exit 2) (rq x D (x.ak.getD i []) i (x.ak.getD i []).length)
 | 0,k,hk=>by
  have aD:=bB.at x.ak [] i 1 hi rfl;obtain rfl:k=(x.ak.getD i []).length:=hk;rw [List.take_length];refine bZ (E:=zB) follows named (OP x D (x.ak.getD i []) i ((x.ak.getD i []).length:Nat)) ?_;simp only [ba,T.WP,All,bh,bl,bg,bB.af,Int.toNat_natCast];exact ⟨⟨aB,aD⟩,fun h=>by omega,fun _=>⟨rfl,rfl⟩⟩
 | n+1,k,hk=>by
  have aD:=bB.at x.ak [] i 1 hi rfl;have hm:=bH [] hi;have ht:=hx.t _ hm;have ih:=OQ hx D i hi n (k+1) (by omega);generalize pF:x.ak.getD i []=rows at *;have cB:=bI.at rows ⟨0,[]⟩ k 2 (by omega) rfl;have hr:=hx.r _ hm _ (bH ⟨0,[]⟩ (show k<rows.length by omega));have w1:IntKind.i64.wrap ((k:Int)+1)=((k+1:Nat):Int):=bW (by omega);have hl:(rows.take k).length=k:=by rw [List.length_take];omega
  refine bZ (E:=zB) follows named (OP x D (rows.take k) i (k:Nat)) ?_;simp only [ba,T.WP,All,bh,bl,bg,w1,bB.af,bI.af,Int.toNat_natCast,pF,hl,D4];refine ⟨⟨aB,aD⟩,fun _=>⟨⟨aB,aD⟩,⟨aB,cB⟩,?_⟩,fun h=>by omega⟩;rintro _ -;refine ⟨Bs _ hr,aB,?_⟩;rw [fU ⟨0,[]⟩ (show k<rows.length by omega)] at ih;simp only [rq,dF,ca,List.length_append,List.length_singleton,hl] at ih ⊢;exact ih
def H5 (x:aA) (D:List (List Rw)) (i:Int):St:=⟨ah 48 [(1,.ptr 0 0),(2,.ptr 1 0),(3,.ptr 2 0),(4,.int .i64 i)],
 [some (aM x,da),some ([.osl ez 0 false [],.int .i64 0],da),some ([.osl ez D.length true (ae oR D),.int .i64 x.next],da)],[]⟩
def ao5:Ex->Kp:=fun _=>{keep:=[1,2,3,4],pk:=some fc}
def ac9:Nat->St->Option b8:=fun id s=>match id,s.tm.get 4,s.hp with
 | 2,.int _ i,some ([.dsl _ _ cs,.int _ nx],_)::_=>some ⟨(),fun _=> .one {keep:=[1,2,3,4,5,6],pk:=some fc,eu:=[5],yn:=[3]}
   (rq ⟨af az cs,nx⟩ ((af az cs).take i.toNat) [] i 0) (.exit 2) (rq ⟨af az cs,nx⟩ ((af az cs).take i.toNat) ((af az cs).getD i.toNat []) i ((af az cs).getD i.toNat []).length)⟩
 | _,_,_=>none
def I6:Env:={P:=Pz,vw:=gi,res:=PV,ls:=ac9}
theorem az6 (x:aA) (D:List (List Rw)) (i:Int):bp I6 0 ao5 (lp Pz eT 0) (H5 x D i)=(
 let q:=af az (ae az x.ak);
 let q3:=List.take i.toNat q;
 let q7:=aA.mk q x.next;
 let q1:List V:=[.osl 46 (List.length q3) true (ae oR q3),aa (aA.next q7)];
 let q2:=ah 48 [(1,pp 0),(2,pp 1),(3,pp 2),(4,aa i),(5,.sl 3 0 0 false),(6,aa 0)];
 let q4:List V:=[.osl 46 0 false [],aa 0];
 let q5:=List.getD q i.toNat [];
 let q6:Hp:=[some ((aM q7),29),some (q4,29),some (q1,29),some ([.cS []],53)];
 let q8:List V:=[.osl 46 D.length true (ae oR D),aa x.next];
 let q9:=List.length q5;bif decide (i<(x.ak.length:Int)) then .bind PUnit.unit fun _=> .ai [St.mk q2 [some ((aM x),29),some (q4,29),some (q8,29),some ([.cS []],53)] []=St.mk q2 q6 [],aN (Env.P I6) 0 (blk
  Pz eT 2) (St.mk q2 q6 []) (Ex.exit 2) (St.mk (ah 48 [(1,pp 0),(2,pp 1),(3,pp 2),(4,aa i),(5,.sl 3 0 q9 false),(6,aa (↑q9:Int))]) [some ((aM q7),29),some (q4,29),some (q1,29),some ([.cS (ae ca q5)],
  53)] [])] (.ai [0=0,List.length (ae oR q3)=List.length q3*1,List.length q3+1<=9223372036854775807,(List.length q3+1)*24<=140737488355328] (nz (ah 48 [(1,pp 0),(2,pp 1),(3,pp 2),(4,aa (wz (i+1)))])
  [some ((aM q7),29),some (q4,29),some ([.osl 46 (List.length q3+1) true (ae oR q3++[.osl 53 q9 true (ae ca q5)]),aa (aA.next q7)],29)])) else .done (Ex.exit 0,St.mk (ah 48 [(1,pp 0),(2,pp 1),(3,pp
  2),(4,aa i)]) [some ((aM x),29),some (q4,29),some (q8,29)] []):T _):=kz
abbrev rB:Nat:=25
def yd:cy:=fun f vs _=>
 bif Nat.beq f mK then (match vs with | [.int _ n,.int _ lo,.int _ hi]=>some ⟨bC n lo hi,fun y=>⟨.bool y,[],[]⟩⟩ | _=>none) else
 bif Nat.beq f An then (match vs with | [.bool b]=>some ⟨b,fun y=>⟨.int .i64 (y.toNat:Nat),[],[]⟩⟩ | _=>none) else
 bif Nat.beq f pb then (match vs with | [.dsl _ _ cs,.agg [.int _ k,.int _ n,.str t]]=>some ⟨cu (af aj cs) ⟨k,n,t⟩,fun y=>⟨.bool y,[],[]⟩⟩ | _=>none) else
 bif Nat.beq f pg then (match vs with | [.dsl _ _ cs,.int _ k]=>some ⟨cE (af aq cs) k,fun y=>⟨.int .i64 y,[],[]⟩⟩ | _=>none) else
 bif Nat.beq f qz then (match vs with | [.dsl _ _ cs,.dsl _ _ ds]=>some ⟨decide (af aj cs=af aj ds),fun y=>⟨.bool y,[],[]⟩⟩ | _=>none) else
 bif Nat.beq f qn then (match vs with | [.agg [.str tn,.dsl _ _ cc,.dsl _ _ uu,.bool r],.str nm]=>some ⟨bf (bw tn cc uu r) nm,fun y=>⟨.int .i64 y,[],[]⟩⟩ | _=>none) else
 bif Nat.beq f oZ then (match vs with | [.agg [.dsl _ _ cs],.str nm]=>some ⟨dk (af ao cs) nm,fun y=>⟨.int .i64 y,[],[]⟩⟩ | _=>none) else
 bif Nat.beq f pa then (match vs with | [.agg [.str nm,.int _ a,.int _ b,.int _ e,.int _ g,.int _ h,.str r,.bool q],.dsl _ _ cs]=>some ⟨dn ⟨nm,a,b,e,g,h,r,q⟩ (af aj cs),fun y=>⟨.int .i64 y,[],[]⟩⟩ | _=>none) else none
def zr:Env:={P:=Pz,vw:=gi,res:=yd}
structure eG (S:aO) (x:aA):Prop where
 s:lq x
 n:x.ak.length=S.length
 c:∀i,i<x.ak.length->∀r∈x.ak.getD i [],r.cells.length=(S.getD i .zero).av.length
 k:∀t∈S,t.av.length<=1048576/\t.uniq.length<=1048576
theorem eG.row {S:aO} {x:aA} (h:eG S x) {i k:Nat} (hi:i<x.ak.length) (hk:k<(x.ak.getD i []).length):fv (jO x i k)/\(jO x i k).cells.length=(S.getD i .zero).av.length:=
 ⟨h.s.r _ (bH [] hi) _ (bH _ hk),h.c i hi _ (bH _ hk)⟩
theorem eG.eA {S:aO} {x:aA} (h:eG S x) {i:Nat} (hi:i<x.ak.length):(x.ak.getD i []).length<=1048576:=h.s.t _ (bH [] hi)
theorem eG.cell {S:aO} {x:aA} (h:eG S x) {i k c:Nat} (hi:i<x.ak.length) (hk:k<(x.ak.getD i []).length) (hc:c<(S.getD i .zero).av.length):(j9 x i k c).length<=1048576:=
 (h.row hi hk).1.d _ (bH [] (by rw [(h.row hi hk).2];exact hc))
theorem eG.aC {S:aO} {x:aA} (h:eG S x) {i:Nat} (hi:i<x.ak.length):(S.getD i .zero).av.length<=1048576/\(S.getD i .zero).uniq.length<=1048576:=h.k _ (bH _ (by rw [<- h.n];exact hi))
theorem Cj {f:Nat->Nat} {M:Nat}:∀(n i:Nat),(∀j,i<=j->j<i+n->f j<=M)->sumN f n i<=n*M
 | 0,_,_=>by simp [sumN]
 | n+1,i,h=>by
  have:=Cj n (i+1) (fun j h1 h2=>h j ag ag);have:=h i ag ag;rw [sumN,Nat.succ_mul];omega
theorem QU (f:Nat->Nat):∀(n i:Nat),sumN f (n+1) i=sumN f n i+f (i+n)
 | 0,i=>by simp [sumN]
 | n+1,i=>by
  rw [sumN,QU f n (i+1),sumN];rw [show i+1+n=i+(n+1) by omega];omega
section
variable {E:Env} {m:Nat} {nf:Ex->Kp} {c:Code}
theorem Ck {st:Nat->Nat->St} {n:Nat} (f:Nat->Nat) (M a0:Nat) {t:Nat->Nat->T (Ex×St)} {ex:Ex} {sx:Nat->St}
  (hm:E.P.follows .mixedOrders=true) (hn:ee E.P) (hx:ex≠ .normal) (e:∀i a,bp E m nf c (st i a)=t i a) (hM:∀i,i<n->f i<=M)
  (h:∀i a,i<n->a<=a0+n*M->(t i a).WP (· = (.normal,st (i+1) (a+f i))))
  (he:∀a,(t n a).WP (· = (ex,sx a))):∀(k i:Nat),i+k=n->aT E.P m c (st i (a0+sumN f i 0)) ex (sx (a0+sumN f n 0))
 | 0,i,hi=>by
  obtain rfl:i=n:=ag
  exact .done (jP hm hn (e _ _) (he _)) hx
 | k+1,i,hi=>by
  have hle:=Cj (f:=f) (M:=M) i 0 (fun j _ h2=>hM j ag)
  have hmul:i*M<=n*M:=Nat.mul_le_mul_right M ag
  have h1:=h i (a0+sumN f i 0) ag ag
  have ih:=Ck f M a0 hm hn hx e hM h he k (i+1) ag
  rw [QU,Nat.zero_add,<- Nat.add_assoc] at ih
  exact .step (jP hm hn (e _ _) h1) ih
end
abbrev jd:Nat:=138
def mc (S:aO) (x:aA):Hp:=[some ([ab ao S],rB),some (aM x,da)]
def Ce (S:aO) (x:aA) (t id a i c k:Int):St:=⟨ah 84 [(2,.int .i64 t),(3,.int .i64 id),(4,.ptr 0 0),(5,.ptr 1 0),(9,.int .i64 a),(10,.int .i64 i),(11,.int .i64 c),(13,.int .i64 k)],mc S x,[]⟩
def NP:Ex->Kp:=fun ex=>match ex with
 | .normal=>{keep:=[2,3,4,5,9,10,11,13]}
 | _=>{keep:=[2,3,4,5,9,10,11],perm:=some ([0,1],[])}
theorem aO1 (S:aO) (x:aA) (t id a i c k:Int):bp zr 0 NP (lp Tryz.prog jd 4) (Ce S x t id a i c k)=(
 let q5:=ae az x.ak;
 let q1:=List.getD (af az q5) i.toNat [];
 let q:=List.getD (af aq (ae aq q1)) k.toNat (Rw.mk (0:Int) []);
 let q6:=ae aG q.cells;
 let q2:=List.getD (af aG q6) c.toNat [];
 let q3:List Prop:=[0<=i/\i<(↑x.ak.length:Int),List.take 1 (List.drop (i.toNat*1) q5)=[ab aq q1]];
 let q4:Hp:=[some ([ab ao S],25),some ((aM x),29)];.ai q3 (bif decide (k<(↑q1.length:Int)) then .ai q3 (.ai [0<=k/\k<(↑q1.length:Int),List.take 2 (List.drop (k.toNat*2) (ae aq q1))=[aa q.id,ab
  aG q.cells]] (.ai [0<=c/\c<(↑q.cells.length:Int),List.take 1 (List.drop (c.toNat*1) q6)=[ab aj q2]] (.bind (cu (af aj (ae aj q2)) (At.mk (4:Int) id [])) fun y0=> .ai [au (Env.P zr) 210 [ab
  aj q2,.agg [aa 4,aa id,.str []]] [] (aF.mk (.bool y0) [] [])] (.bind y0 fun y1=> .ai [au (Env.P zr) 209 [.bool y0] [] (aF.mk (aa (↑(Bool.toNat y1):Int)) [] [])] (.done (Ex.normal,St.mk (ah 84 [(2,aa t),(3,aa
  id),(4,.ptr 0 0),(5,.ptr 1 0),(9,aa (IntKind.i64.wrap (a+(↑(Bool.toNat y1):Int)))),(10,aa i),(11,aa c),(13,aa (IntKind.i64.wrap (k+1)))]) q4 [])))))) else .done (Ex.exit 4,St.mk (ah 84 [(2,aa t),(3,aa id),
  (4,.ptr 0 0),(5,.ptr 1 0),(9,aa a),(10,aa i),(11,aa c)]) q4 [])):T _):=(T.force_eq _).symm.trans (by kernel_rfl)
def tC (S:aO) (x:aA) (t id a i c:Int):St:=⟨ah 84 [(2,.int .i64 t),(3,.int .i64 id),(4,.ptr 0 0),(5,.ptr 1 0),(9,.int .i64 a),(10,.int .i64 i),(11,.int .i64 c)],mc S x,[]⟩
def tB (S:aO) (x:aA) (t id a i:Int):St:=⟨ah 84 [(2,.int .i64 t),(3,.int .i64 id),(4,.ptr 0 0),(5,.ptr 1 0),(9,.int .i64 a),(10,.int .i64 i)],mc S x,[]⟩
theorem Ip (x:aA) (id:Int) (i c k:Nat):nh x id i c k<=1:=by
 unfold nh;cases cu (j9 x i k c) ⟨4,id,[]⟩ <;> decide
theorem aN8 {S:aO} {x:aA} (h:eG S x) {i c:Nat} (hi:i<x.ak.length) (hc:c<(S.getD i .zero).av.length) (t id:Int) (a0:Nat) (ha:a0<=4611686018427387904):
  aT Tryz.prog 0 (lp Tryz.prog jd 4) (Ce S x t id a0 i c 0) (.exit 4) (tC S x t id ((a0+sumN (nh x id i c) (x.ak.getD i []).length 0:Nat):Int) i c):=by
 have aD:=bB.at x.ak [] i 1 hi rfl
 have hn:=h.eA hi
 have key:=Ck (E:=zr) (m:=0) (nf:=NP) (c:=lp Tryz.prog jd 4) (st:=fun k a=>Ce S x t id (a:Nat) i c (k:Nat)) (n:=(x.ak.getD i []).length) (nh x id i c) 1 a0 (ex:= .exit 4) (sx:=fun a=>tC S x t id (a:Nat) i c) follows named (by simp) (fun k a=>aO1 S x t id (a:Nat) i c (k:Nat)) (fun k _=>Ip x id i c k) (fun k a hk hb => ?_) (fun a => ?_) (x.ak.getD i []).length 0 (by simp)
 ·exact key
 ·have hr:=h.row hi hk
  have cd:=h.cell hi hk hc
  have cB:=bI.at (x.ak.getD i []) ⟨0,[]⟩ k 2 hk rfl
  have nX:=bP.at (jO x i k).cells [] c 1 (by rw [hr.2];exact hc) rfl
  have bQ:c<(jO x i k).cells.length:=by rw [hr.2];exact hc
  have gP:IntKind.i64.wrap ((k:Int)+1)=((k+1:Nat):Int):=bW ag
  unfold jO at nX bQ
  unfold Rw.zero at nX bQ
  simp only [ba,T.WP,All,bh,bl,bg,Int.toNat_natCast,bB.af,bI.af,bP.af,bu.af,gP]
  refine ⟨⟨aB,aD⟩,fun _=>⟨⟨aB,aD⟩,⟨aB,cB⟩,⟨aB,nX⟩,?_⟩,fun h=>ag⟩
  rintro y e
  have e':y=cu (j9 x i k c) ⟨4,id,[]⟩:=e
  refine ⟨by rw [e];exact Ft _ _ (Nat.le_trans cd ag),?_⟩
  rintro z rfl
  refine ⟨Ab _,?_⟩
  have hw:IntKind.i64.wrap ((a:Int)+(z.toNat:Nat))=((a+nh x id i c k:Nat):Int):=by
   have:=Ip x id i c k
   unfold nh at this ⊢
   rw [<- e'] at this ⊢
   rw [du ag];simp
  rw [hw]
  rfl
 ·simp only [ba,T.WP,All,bh,bl,bg,Int.toNat_natCast,bB.af]
  exact ⟨⟨aB,aD⟩,fun h=>ag,fun _=>rfl⟩
def ae5:Nat->St->Option b8:=fun id s=>match id,s.tm.get 2,s.tm.get 3,s.tm.get 9,s.tm.get 10,s.tm.get 11,s.hp with
 | 4,.int _ t,.int _ w,.int _ a,.int _ i,.int _ c,some ([.dsl _ _ cs],_)::some ([.dsl _ _ ts,.int _ nx],_)::_=>
  some ⟨a.toNat+sumN (nh ⟨af az ts,nx⟩ w i.toNat c.toNat) ((af az ts).getD i.toNat []).length 0,fun y=> .one {keep:=[2,3,4,5,9,10,11,13]} (Ce (af ao cs) ⟨af az ts,nx⟩ t w a i c 0) (.exit 4) (tC (af ao cs) ⟨af az ts,nx⟩ t w (y:Nat) i c)⟩
 | 2,.int _ t,.int _ w,.int _ a,.int _ i,_,some ([.dsl _ _ cs],_)::some ([.dsl _ _ ts,.int _ nx],_)::_=>
  some ⟨a.toNat+tI (af ao cs) ⟨af az ts,nx⟩ ((af ao cs).getD t.toNat .zero).name w i.toNat,fun y=> .one {keep:=[2,3,4,5,9,10,11]} (tC (af ao cs) ⟨af az ts,nx⟩ t w a i 0) (.exit 2) (tB (af ao cs) ⟨af az ts,nx⟩ t w (y:Nat) i)⟩
 | 0,.int _ t,.int _ w,_,_,_,some ([.dsl _ _ cs],_)::some ([.dsl _ _ ts,.int _ nx],_)::_=>
  some ⟨ey (af ao cs) ⟨af az ts,nx⟩ t.toNat w,fun y=> .one {keep:=[2,3,4,5,9,10]} (tB (af ao cs) ⟨af az ts,nx⟩ t w 0 0) (.exit 0) ⟨ah 84 [(9,.int .i64 (y:Nat))],[],[]⟩⟩
 | _,_,_,_,_,_,_=>none
def p8:Env:={P:=Pz,vw:=gi,res:=yd,ls:=ae5}
def NO:Ex->Kp:=fun ex=>match ex with
 | .normal=>{keep:=[2,3,4,5,9,10,11]}
 | _=>{keep:=[2,3,4,5,9,10]}
def NN:Ex->Kp:=fun ex=>match ex with
 | .normal=>{keep:=[2,3,4,5,9,10]}
 | _=>{keep:=[9]}
theorem aO0 (S:aO) (x:aA) (t id a i c:Int):bp p8 0 NO (lp Pz jd 2) (tC S x t id a i c)=(
 let q6:=af ao (ae ao S);
 let q2:=List.getD q6 i.toNat (Tb.mk [] [] [] false);
 let q:=List.getD (af aY (ae aY (Tb.av q2))) c.toNat (aL.mk [] (0:Int) (0:Int) (0:Int) (0:Int) (0:Int) [] false);
 let q7:=af az (ae az x.ak);
 let q1:Hp:=[some ([ab ao q6],25),some ((aM (aA.mk q7 x.next)),29)];
 let q3:=ah 84 [(2,aa t),(3,aa id),(4,pp 0),(5,pp 1),(9,aa a),(10,aa i),(11,aa c),(13,aa 0)];
 let q4:Hp:=[some ([ab ao S],25),some ((aM x),29)];
 let q5:=ah 84 [(2,aa t),(3,aa id),(4,pp 0),(5,pp 1),(9,aa a),(10,aa i),(11,aa (wz (c+1)))];
 let q8:List Prop:=[0<=i/\i<(S.length:Int),td 4 i (ae ao S)=(ao q2)];
 let q9:=List.getD q6 t.toNat (Tb.mk [] [] [] false);
 let bK:=(↑(List.length (Tb.av q2)):Int);.ai q8 (bif decide (c<bK) then .ai q8 (.ai [0<=c/\c<bK,td 8 c (ae aY (Tb.av q2))=[.str (aL.name q),aa (aL.kind q),aa (aL.min q),aa (aL.max q),aa
  (aL.low q),aa (aL.high q),.str (aL.ref q),.bool (aL.fF q)]] (bif !aL.fF q then nz q5 q4 else .ai [0<=t/\t<(S.length:Int),td 4 t (ae ao S)=(ao q9)] (bif !aL.ref q==Tb.name q9 then nz q5 q4 else
  .bind (a.toNat+sumN (nh (aA.mk q7 x.next) id i.toNat c.toNat) (List.length (List.getD q7 i.toNat [])) 0) fun y0=> .ai [St.mk q3 q4 []=St.mk q3 q1 [],aN (Env.P p8) 0 (blk Pz jd 4) (St.mk q3 q1 []) (Ex.exit 4)
  (St.mk (ah 84 [(2,aa t),(3,aa id),(4,pp 0),(5,pp 1),(9,aa (y0:Int)),(10,aa i),(11,aa c)]) q1 [])] (nz (ah 84 [(2,aa t),(3,aa id),(4,pp 0),(5,pp 1),(9,aa (y0:Int)),(10,aa i),(11,aa (wz (c +
  1)))]) q1)))) else .done (Ex.exit 2,St.mk (ah 84 [(2,aa t),(3,aa id),(4,pp 0),(5,pp 1),(9,aa a),(10,aa i)]) q4 [])):T _):=fz
theorem aN9 (S:aO) (x:aA) (t id a i:Int):bp p8 0 NN (lp Pz jd 0) (tB S x t id a i)=(
 let q2:=af ao (ae ao S);
 let q3:=aA.mk (af az (ae az x.ak)) x.next;
 let q:Hp:=[some ([ab ao q2],25),some ((aM q3),29)];
 let q1:=ah 84 [(2,aa t),(3,aa id),(4,pp 0),(5,pp 1),(9,aa a),(10,aa i),(11,aa 0)];bif decide (i<(x.ak.length:Int)) then .bind (a.toNat+tI q2 q3 (Tb.name (List.getD q2 t.toNat (Tb.mk [] [] [] false)))
  id i.toNat) fun y0=> .ai [St.mk q1 [some ([ab ao S],25),some ((aM x),29)] []=St.mk q1 q [],aN (Env.P p8) 0 (blk Pz jd 2) (St.mk q1 q []) (Ex.exit 2) (St.mk (ah 84 [(2,aa t),(3,aa id),(4,pp 0),(5,pp
  1),(9,aa (y0:Int)),(10,aa i)]) q [])] (nz (ah 84 [(2,aa t),(3,aa id),(4,pp 0),(5,pp 1),(9,aa (y0:Int)),(10,aa (wz (i+1)))]) q) else .done (Ex.exit 0,St.mk (ah 84 [(9,aa a)]) [] []):T _):=kz
theorem stT (S:aO) (x:aA) (t id:Int):fnT p8 0 jd [.agg [ab ao S],.agg (aM x),.int .i64 t,.int .i64 id] []=(
 let q:=ah 84 [(2,aa t),(3,aa id),(4,pp 0),(5,pp 1),(9,aa 0),(10,aa 0)];
 let q3:=af ao (ae ao S);
 let q2:=aA.mk (af az (ae az x.ak)) x.next;
 let q1:Hp:=[some ([ab ao q3],25),some ((aM q2),29)];.bind (ey q3 q2 t.toNat id) fun y0=> .ai [St.mk q [some ([ab ao S],25),some ((aM x),29)] []=St.mk q q1 [],aN (Env.P p8) 0 (blk Pz jd 0)
  (St.mk q q1 []) (Ex.exit 0) (St.mk (ah 84 [(9,aa (y0:Int))]) [] [])] (dz (aa (y0:Int)) [] []):T _):=fz
theorem QS {S:aO} {x:aA} (h:eG S x) {i:Nat} (hi:i<x.ak.length) (nm:List UInt8) (id:Int) (c:Nat):wm S x nm id i c<=1048576:=by
 unfold wm;cases (!(gZ S i c).fF||(gZ S i c).ref != nm)
 ·have:=Cj (f:=nh x id i c) (M:=1) (x.ak.getD i []).length 0 (fun k _ _=>Ip x id i c k);have:=h.eA hi;simp only [cond_false];omega
 ·simp
theorem aP8 {S:aO} {x:aA} (h:eG S x) {i:Nat} (hi:i<x.ak.length) (nm:List UInt8) (id:Int):tI S x nm id i<=1099511627776:=by
 have h1:=Cj (f:=wm S x nm id i) (M:=1048576) (S.getD i .zero).av.length 0 (fun c _ _=>QS h hi nm id c);have h2:=(h.aC hi).1;unfold tI;omega
theorem aN7 {S:aO} {x:aA} (h:eG S x) {i:Nat} (hi:i<x.ak.length) (t id:Int) (ht:0<=t/\t<S.length) (a0:Nat) (ha:a0<=2305843009213693952):
  aT Pz 0 (lp Pz jd 2) (tC S x t id a0 i 0) (.exit 2) (tB S x t id ((a0+tI S x (S.getD t.toNat .zero).name id i:Nat):Int) i):=by
 have vd:i<S.length:=by rw [<- h.n];exact hi
 have eN:=bN.at S .zero i 4 vd rfl
 have WH:=bN.at' S .zero t 4 ht rfl
 have hn:=h.aC hi
 have key:=Ck (E:=p8) (m:=0) (nf:=NO) (c:=lp Pz jd 2) (st:=fun c a=>tC S x t id (a:Nat) i (c:Nat)) (n:=(S.getD i .zero).av.length) (wm S x (S.getD t.toNat .zero).name id i) 1048576 a0 (ex:= .exit 2) (sx:=fun a=>tB S x t id (a:Nat) i) follows named (by simp) (fun c a=>aO0 S x t id (a:Nat) i (c:Nat)) (fun c _=>QS h hi _ id c) (fun c a hc hb => ?_) (fun a => ?_) (S.getD i .zero).av.length 0 (by simp)
 ·exact key
 ·have pq:=db.at (S.getD i .zero).av .zero c 8 hc rfl
  have gP:wz ((c:Int)+1)=((c+1:Nat):Int):=bW ag
  have hl:=aN8 h hi hc t id a ag
  have hC:wm S x (S.getD t.toNat .zero).name id i c=bif !(gZ S i c).fF||(gZ S i c).ref != (S.getD t.toNat .zero).name then 0 else sumN (nh x id i c) (x.ak.getD i []).length 0:=rfl
  rw [hC]
  unfold gZ
  simp only [Tb.zero,aL.zero] at *
  simp only [sz,Int.toNat_natCast,bN.af,db.af,bB.af,gP]
  refine ⟨⟨aB,eN⟩,fun _=>⟨⟨aB,eN⟩,⟨aB,pq⟩,fun hs => ?_,fun hs=>⟨⟨aB,WH⟩,fun hr => ?_,fun hr => ?_⟩⟩,fun h=>ag⟩
  ·rw [hs,Bool.true_or];rfl
  ·rw [hs,Bool.false_or];unfold bne;rw [hr];rfl
  ·rw [hs,Bool.false_or];unfold bne;rw [hr]
   rintro y rfl
   exact ⟨⟨a8,.aV hl⟩,rfl⟩
 ·simp only [Tb.zero] at *
  simp only [sz,Int.toNat_natCast,bN.af]
  exact ⟨⟨aB,eN⟩,fun h=>ag,fun _=>rfl⟩
theorem aN6 {S:aO} {x:aA} (h:eG S x) (t id:Int) (ht:0<=t/\t<S.length):
  aT Pz 0 (lp Pz jd 0) (tB S x t id 0 0) (.exit 0) ⟨ah 84 [(9,.int .i64 (ey S x t.toNat id:Nat))],[],[]⟩:=by
 have hn:=h.s.n
 have key:=Ck (E:=p8) (m:=0) (nf:=NN) (c:=lp Pz jd 0) (st:=fun i a=>tB S x t id (a:Nat) (i:Nat)) (n:=x.ak.length) (tI S x (S.getD t.toNat .zero).name id) 1099511627776 0 (ex:= .exit 0) (sx:=fun a=>⟨ah 84 [(9,.int .i64 (a:Nat))],[],[]⟩) follows named (by simp) (fun i a=>aN9 S x t id (a:Nat) (i:Nat)) (fun i hi=>aP8 h hi _ id) (fun i a hi hb => ?_) (fun a => ?_) x.ak.length 0 (by simp)
 ·rw [Nat.zero_add,Nat.zero_add] at key
  exact key
 ·have gP:wz ((i:Int)+1)=((i+1:Nat):Int):=bW ag
  have hl:=aN7 h hi t id ht a ag
  simp only [sz,Int.toNat_natCast,bN.af,bB.af,gP]
  refine ⟨fun _ => ?_,fun h=>ag⟩
  rintro y rfl
  exact ⟨⟨a8,.aV hl⟩,rfl⟩
 ·simp only [sz]
  exact ⟨fun h=>ag,fun _=>trivial⟩
theorem Iq {S:aO} {x:aA} (h:eG S x) (t id:Int) (ht:0<=t/\t<S.length):au Pz jd [.agg [ab ao S],.agg (aM x),.int .i64 t,.int .i64 id] [] ⟨.int .i64 (ey S x t.toNat id:Nat),[],[]⟩:=by
 have hl:=aN6 h t id ht;refine a6 (stT S x t id) ?_;simp only [sz,bN.af,bB.af];rintro y rfl;exact ⟨⟨a8,.aV hl⟩,aH⟩
abbrev fY:Nat:=145
def p9 (S:aO):Prop:=∀t∈S,∀c∈t.av,c.kind=4->0<=dk S c.ref
def rj:St:=⟨ah 86 [(4,.bool false)],[],[]⟩
def yV (S:aO) (x:aA) (i c:Int) (th:List Rw) (k:Int) (d:aQ) (n:Int):St:=⟨ah 86 [(2,.ptr 0 0),(3,.ptr 1 0),(5,.int .i64 i),(6,.int .i64 c),(8,ab aq th),(9,.int .i64 k),(10,ab aj d),(11,.int .i64 n)],mc S x,[]⟩
def tz (S:aO) (x:aA) (i c:Int) (th:List Rw) (k:Int):St:=⟨ah 86 [(2,.ptr 0 0),(3,.ptr 1 0),(5,.int .i64 i),(6,.int .i64 c),(8,ab aq th),(9,.int .i64 k)],mc S x,[]⟩
def tx (S:aO) (x:aA) (i c:Int):St:=⟨ah 86 [(2,.ptr 0 0),(3,.ptr 1 0),(5,.int .i64 i),(6,.int .i64 c)],mc S x,[]⟩
def tw (S:aO) (x:aA) (i:Int):St:=⟨ah 86 [(2,.ptr 0 0),(3,.ptr 1 0),(5,.int .i64 i)],mc S x,[]⟩
def NK:Ex->Kp:=fun ex=>match ex with
 | .normal=>{keep:=[2,3,5,6,8,9,10,11]}
 | .ret=>{keep:=[4]}
 | _=>{keep:=[2,3,5,6,8,9]}
def NJ:Ex->Kp:=fun ex=>match ex with
 | .normal=>{keep:=[2,3,5,6,8,9]}
 | .ret=>{keep:=[4]}
 | _=>{keep:=[2,3,5,6]}
def NI:Ex->Kp:=fun ex=>match ex with
 | .normal=>{keep:=[2,3,5,6]}
 | .ret=>{keep:=[4]}
 | _=>{keep:=[2,3,5]}
def NH:Ex->Kp:=fun ex=>match ex with
 | .normal=>{keep:=[2,3,5]}
 | .ret=>{keep:=[4]}
 | _=>{keep:=[]}
def ad8:Nat->St->Option b8:=fun id s=>match id,s.tm.get 5,s.tm.get 6,s.tm.get 8,s.tm.get 9,s.tm.get 10,s.hp with
 | 6,.int _ i,.int _ c,.dsl _ _ th,.int _ k,.dsl _ _ d,some ([.dsl _ _ cs],_)::some ([.dsl _ _ ts,.int _ nx],_)::_=>
  some ⟨allN (ra (af aq th) (af aj d)) (af aj d).length 0,fun y=> .two {keep:=[2,3,5,6,8,9,10,11]} (yV (af ao cs) ⟨af az ts,nx⟩ i c (af aq th) k (af aj d) 0) y (.exit 6) (tz (af ao cs) ⟨af az ts,nx⟩ i c (af aq th) k) .ret rj⟩
 | 4,.int _ i,.int _ c,.dsl _ _ th,_,_,some ([.dsl _ _ cs],_)::some ([.dsl _ _ ts,.int _ nx],_)::_=>
  some ⟨allN (re (af aq th) ⟨af az ts,nx⟩ i.toNat c.toNat) ((af az ts).getD i.toNat []).length 0,fun y=> .two {keep:=[2,3,5,6,8,9]} (tz (af ao cs) ⟨af az ts,nx⟩ i c (af aq th) 0) y (.exit 4) (tx (af ao cs) ⟨af az ts,nx⟩ i c) .ret rj⟩
 | 2,.int _ i,_,_,_,_,some ([.dsl _ _ cs],_)::some ([.dsl _ _ ts,.int _ nx],_)::_=>
  some ⟨vQ (af ao cs) ⟨af az ts,nx⟩ i.toNat,fun y=> .two {keep:=[2,3,5,6]} (tx (af ao cs) ⟨af az ts,nx⟩ i 0) y (.exit 2) (tw (af ao cs) ⟨af az ts,nx⟩ i) .ret rj⟩
 | 0,_,_,_,_,_,some ([.dsl _ _ cs],_)::some ([.dsl _ _ ts,.int _ nx],_)::_=>
  some ⟨nc (af ao cs) ⟨af az ts,nx⟩,fun y=> .two {keep:=[2,3,5]} (tw (af ao cs) ⟨af az ts,nx⟩ 0) y (.exit 0) ⟨ah 86 [],[],[]⟩ .ret rj⟩
 | _,_,_,_,_,_,_=>none
def iB:Env:={P:=Pz,vw:=gi,res:=yd,ls:=ad8}
theorem aH0 (S:aO) (x:aA) (i c:Int) (th:List Rw) (k:Int) (d:aQ) (n:Int):bp iB 0 NK (lp Pz fY 6) (yV S x i c th k d n)=(
 let q:=List.getD (af aj (ae aj d)) n.toNat (At.mk (0:Int) (0:Int) []);
 let q1:Hp:=[some ([ab ao S],25),some ((aM x),29)];bif decide (n<(d.length:Int)) then .ai [0<=n/\n<(d.length:Int),td 3 n (ae aj d)=aj q] (.bind (cE (af aq (ae aq th)) (At.n q)) fun y0
  => .ai [au (Env.P iB) 140 [ab aq th,aa (At.n q)] [] (aF.mk (aa y0) [] [])] (bif decide (y0<0) then .done (Ex.ret,St.mk (ah 86 [(4,.bool false)]) [] []) else nz (ah 86 [(2,pp 0),(3,pp 1),(5,aa i),(6,aa c),
  (8,ab aq th),(9,aa k),(10,ab aj d),(11,aa (wz (n+1)))]) q1)) else .done (Ex.exit 6,St.mk (ah 86 [(2,pp 0),(3,pp 1),(5,aa i),(6,aa c),(8,ab aq th),(9,aa k)]) q1 []):T _):=kz
theorem aG9 (S:aO) (x:aA) (i c:Int) (th:List Rw) (k:Int):bp iB 0 NJ (lp Pz fY 4) (tz S x i c th k)=(
 let q8:=ae az x.ak;
 let q3:=List.getD (af az q8) i.toNat [];
 let q9:=ae aq q3;
 let q:=List.getD (af aq q9) k.toNat (Rw.mk (0:Int) []);
 let q1:Hp:=[some ([ab ao (af ao (ae ao S))],25),some ((aM (aA.mk (af az q8) x.next)),29)];
 let q5:=af aq (ae aq th);
 let q4:=List.getD (af aG (ae aG (Rw.cells q))) c.toNat [];
 let q2:=ah 86 [(2,pp 0),(3,pp 1),(5,aa i),(6,aa c),(8,ab aq q5),(9,aa k),(10,ab aj (af aj (ae aj q4))),(11,aa 0)];
 let q6:List Prop:=[0<=i/\i<(x.ak.length:Int),td 1 i q8=[ab aq q3]];
 let q7:Hp:=[some ([ab ao S],25),some ((aM x),29)];.ai q6 (bif decide (k<(↑(List.length q3):Int)) then .ai q6 (.ai [0<=k/\k<(↑(List.length q3):Int),td 2 k q9=[aa (Rw.id q),ab aG (Rw.cells q)]]
  (.ai [0<=c/\c<(↑(List.length (Rw.cells q)):Int),td 1 c (ae aG (Rw.cells q))=[ab aj q4]] (.bind (allN (ra q5 (af aj (ae aj (List.getD (af aG (ae aG (Rw.cells (List.getD (af aq q9)
  k.toNat Rw.zero)))) c.toNat [])))) (List.length (af aj (ae aj q4))) 0) fun y0=> .ai [St.mk (ah 86 [(2,pp 0),(3,pp 1),(5,aa i),(6,aa c),(8,ab aq th),(9,aa k),(10,ab aj q4),(11,aa 0)]) q7 [] =
  St.mk q2 q1 []] (bif y0 then .ai [aN (Env.P iB) 0 (blk Pz fY 6) (St.mk q2 q1 []) (Ex.exit 6) (St.mk (ah 86 [(2,pp 0),(3,pp 1),(5,aa i),(6,aa c),(8,ab aq q5),(9,aa k)]) q1 [])] (nz (ah 86 [(2,pp 0),(3,
  pp 1),(5,aa i),(6,aa c),(8,ab aq q5),(9,aa (wz (k+1)))]) q1) else .ai [aN (Env.P iB) 0 (blk Pz fY 6) (St.mk q2 q1 []) Ex.ret (St.mk (ah 86 [(4,.bool false)]) [] [])] (.done (Ex.ret,St.mk (ah 86 [(4,
  .bool false)]) [] [])))))) else .done (Ex.exit 4,St.mk (ah 86 [(2,pp 0),(3,pp 1),(5,aa i),(6,aa c)]) q7 [])):T _):=fz
theorem aG8 (S:aO) (x:aA) (i c:Int):bp iB 0 NI (lp Pz fY 2) (tx S x i c)=(
 let q7:=af ao (ae ao S);
 let q2:=List.getD q7 i.toNat (Tb.mk [] [] [] false);
 let q:=List.getD (af aY (ae aY (Tb.av q2))) c.toNat (aL.mk [] (0:Int) (0:Int) (0:Int) (0:Int) (0:Int) [] false);
 let q3:=af az (ae az x.ak);
 let q1:Hp:=[some ([ab ao q7],25),some ((aM (aA.mk q3 x.next)),29)];
 let q4:Hp:=[some ([ab ao S],25),some ((aM x),29)];
 let q5:=ah 86 [(2,pp 0),(3,pp 1),(5,aa i),(6,aa (wz (c+1)))];
 let q6:List Prop:=[0<=i/\i<(S.length:Int),td 4 i (ae ao S)=(ao q2)];
 let q8:=(↑(List.length (Tb.av q2)):Int);
 let q9:=ah 86 [(4,.bool false)];.ai q6 (bif decide (c<q8) then .ai q6 (.ai [0<=c/\c<q8,td 8 c (ae aY (Tb.av q2))=aY q] (bif aL.kind q != 4 then nz q5 q4 else .bind (dk q7 (aL.ref q)) fun y0=>
 let bS:=List.getD q3 y0.toNat [];
 let cF:=af aq (ae aq bS);
 let bK:=ah 86 [(2,pp 0),(3,pp 1),(5,aa i),(6,aa c),(8,ab aq cF),(9,aa 0)];.ai [au (Env.P iB) 113 [.agg [ab ao S],.str (aL.ref q)] [] (aF.mk (aa y0) [] [])] (.ai [0<=y0/\y0<(x.ak.length:
  Int),td 1 y0 (ae az x.ak)=[ab aq bS]] (.bind (allN (re cF (aA.mk q3 x.next) i.toNat c.toNat) (List.length (List.getD q3 i.toNat [])) 0) fun y1=> .ai [St.mk (ah 86 [(2,pp 0),(3,pp 1),(5,aa i),(6,aa c),
  (8,ab aq bS),(9,aa 0)]) q4 []=St.mk bK q1 []] (bif y1 then .ai [aN (Env.P iB) 0 (blk Pz fY 4) (St.mk bK q1 []) (Ex.exit 4) (St.mk (ah 86 [(2,pp 0),(3,pp 1),(5,aa i),(6,aa c)]) q1 [])] (nz q5 q1) else
  .ai [aN (Env.P iB) 0 (blk Pz fY 4) (St.mk bK q1 []) Ex.ret (St.mk q9 [] [])] (.done (Ex.ret,St.mk q9 [] []))))))) else .done (Ex.exit 2,St.mk (ah 86 [(2,pp 0),(3,pp 1),(5,aa i)]) q4 [])):T _):=fz
theorem aG7 (S:aO) (x:aA) (i:Int):bp iB 0 NH (lp Pz fY 0) (tw S x i)=(
 let q4:=af ao (ae ao S);
 let q2:=aA.mk (af az (ae az x.ak)) x.next;
 let q:Hp:=[some ([ab ao q4],25),some ((aM q2),29)];
 let q1:=ah 86 [(2,pp 0),(3,pp 1),(5,aa i),(6,aa 0)];
 let q3:=ah 86 [(4,.bool false)];bif decide (i<(x.ak.length:Int)) then .bind (vQ q4 q2 i.toNat) fun y0=> .ai [St.mk q1 [some ([ab ao S],25),some ((aM x),29)] []=St.mk q1 q []] (bif y0 then .ai [aN
  (Env.P iB) 0 (blk Pz fY 2) (St.mk q1 q []) (Ex.exit 2) (St.mk (ah 86 [(2,pp 0),(3,pp 1),(5,aa i)]) q [])] (nz (ah 86 [(2,pp 0),(3,pp 1),(5,aa (wz (i+1)))]) q) else .ai [aN (Env.P iB) 0 (blk Pz fY 2)
  (St.mk q1 q []) Ex.ret (St.mk q3 [] [])] (.done (Ex.ret,St.mk q3 [] []))) else .done (Ex.exit 0,St.mk (ah 86 []) [] []):T _):=kz
theorem rfT (S:aO) (x:aA):fnT iB 0 fY [.agg [ab ao S],.agg (aM x)] []=(
 let q3:=af ao (ae ao S);
 let q2:=aA.mk (af az (ae az x.ak)) x.next;
 let q:Hp:=[some ([ab ao q3],25),some ((aM q2),29)];
 let q1:=ah 86 [(2,pp 0),(3,pp 1),(5,aa 0)];.bind (nc q3 q2) fun y0=> .ai [St.mk q1 [some ([ab ao S],25),some ((aM x),29)] []=St.mk q1 q []] (bif y0 then .ai [aN (Env.P iB) 0 (blk Pz fY 0) (St.mk
  q1 q []) (Ex.exit 0) (St.mk (ah 86 []) [] [])] (dz (.bool true) [] []) else .ai [aN (Env.P iB) 0 (blk Pz fY 0) (St.mk q1 q []) Ex.ret (St.mk (ah 86 [(4,.bool false)]) [] [])] (dz (.bool false) [] [])):T _):=fz
theorem aG6 (S:aO) (x:aA) (i c:Int) (th:List Rw) (k:Int) (d:aQ) (Gd:th.length<=1048576) (hd:d.length<=1048576):
  (allN (ra th d) d.length 0=true->aT Tryz.prog 0 (lp Tryz.prog fY 6) (yV S x i c th k d 0) (.exit 6) (tz S x i c th k)) /\
  (allN (ra th d) d.length 0=false->aT Tryz.prog 0 (lp Tryz.prog fY 6) (yV S x i c th k d 0) .ret rj):=by
 refine ju (E:=iB) (nf:=NK) (st:=fun n=>yV S x i c th k d (n:Nat)) (n:=d.length) (ra th d) follows named (by simp) (by simp) (fun n=>aH0 S x i c th k d (n:Nat)) (fun n hn => ?_) ?_ d.length 0 (by simp)
 ·have aD:=bu.at d .zero n 3 hn rfl
  have hA:ra th d n=decide (0<=cE th (d.getD n ⟨0,0,[]⟩).n):=rfl
  rw [hA]
  simp only [At.zero] at aD
  simp only [ba,T.WP,All,bh,bl,bg,Int.toNat_natCast,bu.af,bI.af,bW (show n<9223372036854775807 by omega)]
  refine ⟨fun _=>⟨⟨aB,aD⟩,?_⟩,fun h=>by omega⟩
  rintro y rfl
  refine ⟨Bx _ _ Gd,fun h => ?_,fun h => ?_⟩
  ·rw [decide_eq_false (by omega)];rfl
  ·rw [decide_eq_true (by omega)];rfl
 ·simp only [ba,T.WP,All,bh,bl,bg]
  exact ⟨fun h=>by omega,fun _=>rfl⟩
theorem aG5 {S:aO} {x:aA} (h:eG S x) {i c:Nat} (hi:i<x.ak.length) (hc:c<(S.getD i .zero).av.length) (th:List Rw) (Gd:th.length<=1048576):
  (allN (re th x i c) (x.ak.getD i []).length 0=true->aT Pz 0 (lp Pz fY 4) (tz S x i c th 0) (.exit 4) (tx S x i c)) /\
  (allN (re th x i c) (x.ak.getD i []).length 0=false->aT Pz 0 (lp Pz fY 4) (tz S x i c th 0) .ret rj):=by
 have aD:=bB.at x.ak [] i 1 hi rfl
 have hn:=h.eA hi
 refine ju (E:=iB) (nf:=NJ) (st:=fun k=>tz S x i c th (k:Nat)) (n:=(x.ak.getD i []).length) (re th x i c) follows named (by simp) (by simp) (fun k=>aG9 S x i c th (k:Nat)) (fun k hk => ?_) ?_ (x.ak.getD i []).length 0 (by simp)
 ·have hr:=h.row hi hk
  have cd:=h.cell hi hk hc
  have cB:=bI.at (x.ak.getD i []) ⟨0,[]⟩ k 2 hk rfl
  have bQ:c<(jO x i k).cells.length:=by rw [hr.2];exact hc
  have nX:=bP.at (jO x i k).cells [] c 1 bQ rfl
  have hl:=aG6 S x i c th k (j9 x i k c) Gd cd
  have gP:wz ((k:Int)+1)=((k+1:Nat):Int):=bW ag
  unfold re
  generalize hg:allN (ra th (j9 x i k c)) (j9 x i k c).length 0=g at *
  unfold j9 jO at *
  simp only [Rw.zero] at *
  simp only [sz,Int.toNat_natCast,bN.af,bB.af,bI.af,bP.af,bu.af,gP]
  refine ⟨⟨aB,aD⟩,fun _=>⟨⟨aB,aD⟩,⟨aB,cB⟩,⟨aB,nX⟩,?_⟩,fun h=>ag⟩
  rw [hg]
  rintro y rfl
  refine ⟨a8,fun h=>⟨.aV (hl.1 h),?_⟩,fun h=>⟨.aV (hl.2 h),?_⟩⟩
  ·rw [h];rfl
  ·rw [h];rfl
 ·simp only [sz,Int.toNat_natCast,bB.af]
  exact ⟨⟨aB,aD⟩,fun h=>ag,fun _=>rfl⟩
theorem Q4 {S:aO} {nm:List UInt8} (h:0<=dk S nm):dk S nm<S.length:=by
 have:=(uT (p:=fun t:Tb=>t.name==nm) Tb.zero h).1;unfold dk at *;omega
theorem aG4 {S:aO} {x:aA} (h:eG S x) (hR:p9 S) {i:Nat} (hi:i<x.ak.length):
  (vQ S x i=true->aT Pz 0 (lp Pz fY 2) (tx S x i 0) (.exit 2) (tw S x i)) /\
  (vQ S x i=false->aT Pz 0 (lp Pz fY 2) (tx S x i 0) .ret rj):=by
 have vd:i<S.length:=by rw [<- h.n];exact hi
 have WE:S.length<=1048576:=by rw [<- h.n];exact h.s.n
 have eN:=bN.at S .zero i 4 vd rfl
 have hn:=h.aC hi
 refine ju (E:=iB) (nf:=NI) (st:=fun c=>tx S x i (c:Nat)) (n:=(S.getD i .zero).av.length) (Hr S x i) follows named (by simp) (by simp) (fun c=>aG8 S x i (c:Nat)) (fun c hc => ?_) ?_ (S.getD i .zero).av.length 0 (by simp)
 ·have pq:=db.at (S.getD i .zero).av .zero c 8 hc rfl
  have gP:wz ((c:Int)+1)=((c+1:Nat):Int):=bW ag
  have dp:=hR _ (bH .zero vd) _ (bH .zero hc)
  have hC:Hr S x i c=((gZ S i c).kind != 4||allN (re (x.ak.getD (dk S (gZ S i c).ref).toNat []) x i c) (x.ak.getD i []).length 0):=rfl
  have A4:(gZ S i c).kind=4->(dk S (gZ S i c).ref).toNat<x.ak.length:=fun hk=>by
   have:=Q4 (dp hk)
   have e:dk S (gZ S i c).ref=dk S ((S.getD i .zero).av.getD c .zero).ref:=rfl
   rw [e,h.n];omega
  have hl:=fun hk=>aG5 h hi hc (x.ak.getD (dk S (gZ S i c).ref).toNat []) (h.eA (A4 hk))
  have aD:=fun hk=>bB.at x.ak [] (dk S (gZ S i c).ref).toNat 1 (A4 hk) rfl
  rw [hC]
  unfold gZ at *
  simp only [Tb.zero,aL.zero] at *
  simp only [sz,Int.toNat_natCast,bN.af,db.af,bB.af,bI.af,gP]
  refine ⟨⟨aB,eN⟩,fun _=>⟨⟨aB,eN⟩,⟨aB,pq⟩,fun hk => ?_,fun hk => ?_⟩,fun h=>ag⟩
  ·rw [hk,Bool.true_or];rfl
  ·have AS:((S.getD i ⟨[],[],[],false⟩).av.getD c ⟨[],0,0,0,0,0,[],false⟩).kind=4:=by
    simpa only [bne_eq_false_iff_eq] using hk
   rw [hk,Bool.false_or]
   have A4:=A4 AS
   have dp:=dp AS
   have hl:=hl AS
   have aD:=aD AS
   rintro y rfl
   refine ⟨Ay _ _ WE,⟨aB,aD⟩,?_⟩
   rintro y rfl
   refine ⟨a8,fun h=>⟨.aV (hl.1 h),?_⟩,fun h=>⟨.aV (hl.2 h),?_⟩⟩
   ·rw [h];rfl
   ·rw [h];rfl
 ·simp only [Tb.zero] at *
  simp only [sz,Int.toNat_natCast,bN.af]
  exact ⟨⟨aB,eN⟩,fun h=>ag,fun _=>rfl⟩
theorem aG3 {S:aO} {x:aA} (h:eG S x) (hR:p9 S):
  (nc S x=true->aT Pz 0 (lp Pz fY 0) (tw S x 0) (.exit 0) ⟨ah 86 [],[],[]⟩) /\
  (nc S x=false->aT Pz 0 (lp Pz fY 0) (tw S x 0) .ret rj):=by
 have hn:=h.s.n
 refine ju (E:=iB) (nf:=NH) (st:=fun i=>tw S x (i:Nat)) (n:=x.ak.length) (vQ S x) follows named (by simp) (by simp) (fun i=>aG7 S x (i:Nat)) (fun i hi => ?_) ?_ x.ak.length 0 (by simp)
 ·have gP:wz ((i:Int)+1)=((i+1:Nat):Int):=bW ag
  have hl:=aG4 h hR hi
  simp only [sz,Int.toNat_natCast,bN.af,bB.af,gP]
  refine ⟨fun _ => ?_,fun h=>ag⟩
  rintro y rfl
  refine ⟨a8,fun h=>⟨.aV (hl.1 h),?_⟩,fun h=>⟨.aV (hl.2 h),?_⟩⟩
  ·rw [h];rfl
  ·rw [h];rfl
 ·simp only [sz]
  exact ⟨fun h=>ag,fun _=>trivial⟩
theorem PH {S:aO} {x:aA} (h:eG S x) (hR:p9 S):au Pz fY [.agg [ab ao S],.agg (aM x)] [] ⟨.bool (nc S x),[],[]⟩:=by
 have hl:=aG3 h hR;refine a6 (rfT S x) ?_;simp only [sz,bN.af,bB.af];rintro y rfl;refine ⟨a8,fun h=>⟨.aV (hl.1 h),?_⟩,fun h=>⟨.aV (hl.2 h),?_⟩⟩
 ·rw [h];exact aH
 ·rw [h];exact aH
abbrev gl:Nat:=146
abbrev xa:Nat:=68
def nE (S:aO):Prop:=∀t∈S,∀u∈t.uniq,0<=u/\u<t.av.length
def wx:St:=⟨ah 85 [(4,.bool false)],[],[]⟩
def Cf (S:aO) (x:aA) (i:Int) (L:List Int) (k j:Int) (b:Bool) (n:Int):St:=⟨ah 85 [(2,.ptr 0 0),(3,.ptr 1 0),(5,.int .i64 i),(6,ab aJ L),(7,.int .i64 k),(8,.int .i64 j),(9,.bool b),(10,.int .i64 n)],mc S x,[]⟩
def Ij (S:aO) (x:aA) (i:Int) (L:List Int) (k j:Int) (b:Bool):St:=⟨ah 85 [(2,.ptr 0 0),(3,.ptr 1 0),(5,.int .i64 i),(6,ab aJ L),(7,.int .i64 k),(8,.int .i64 j),(9,.bool b)],mc S x,[]⟩
def yZ (S:aO) (x:aA) (i:Int) (L:List Int) (k j:Int):St:=⟨ah 85 [(2,.ptr 0 0),(3,.ptr 1 0),(5,.int .i64 i),(6,ab aJ L),(7,.int .i64 k),(8,.int .i64 j)],mc S x,[]⟩
def tF (S:aO) (x:aA) (i:Int) (L:List Int) (k:Int):St:=⟨ah 85 [(2,.ptr 0 0),(3,.ptr 1 0),(5,.int .i64 i),(6,ab aJ L),(7,.int .i64 k)],mc S x,[]⟩
def tE (S:aO) (x:aA) (i:Int):St:=⟨ah 85 [(2,.ptr 0 0),(3,.ptr 1 0),(5,.int .i64 i)],mc S x,[]⟩
def NS:Ex->Kp:=fun ex=>match ex with
 | .normal=>{keep:=[2,3,5,6,7,8,9,10]}
 | .ret=>{keep:=[4]}
 | _=>{keep:=[2,3,5,6,7,8,9]}
def NR:Ex->Kp:=fun ex=>match ex with
 | .normal=>{keep:=[2,3,5,6,7,8]}
 | .ret=>{keep:=[4]}
 | _=>{keep:=[2,3,5,6,7]}
def GH:Ex->Kp:=fun ex=>match ex with
 | .normal=>{keep:=[2,3,5,6,7]}
 | .ret=>{keep:=[4]}
 | _=>{keep:=[2,3,5]}
def NQ:Ex->Kp:=fun ex=>match ex with
 | .normal=>{keep:=[2,3,5]}
 | .ret=>{keep:=[4]}
 | _=>{keep:=[]}
def ae9:Nat->St->Option b8:=fun id s=>match id,s.tm.get 5,s.tm.get 6,s.tm.get 7,s.tm.get 8,s.hp with
 | 6,.int _ i,.dsl _ _ us,.int _ k,.int _ j,some ([.dsl _ _ cs],_)::some ([.dsl _ _ ts,.int _ nx],_)::_=>
  some ⟨allN (tO (af ao cs) ⟨af az ts,nx⟩ i.toNat k.toNat j.toNat) (af aJ us).length 0,fun y=> .one {keep:=[2,3,5,6,7,8,9,10]} (Cf (af ao cs) ⟨af az ts,nx⟩ i (af aJ us) k j true 0) (.exit 6) (Ij (af ao cs) ⟨af az ts,nx⟩ i (af aJ us) k j y)⟩
 | 4,.int _ i,.dsl _ _ us,.int _ k,_,some ([.dsl _ _ cs],_)::some ([.dsl _ _ ts,.int _ nx],_)::_=>
  some ⟨tN (af ao cs) ⟨af az ts,nx⟩ i.toNat k.toNat,fun y=> .two {keep:=[2,3,5,6,7,8]} (yZ (af ao cs) ⟨af az ts,nx⟩ i (af aJ us) k 0) y (.exit 4) (tF (af ao cs) ⟨af az ts,nx⟩ i (af aJ us) k) .ret wx⟩
 | 2,.int _ i,.dsl _ _ us,_,_,some ([.dsl _ _ cs],_)::some ([.dsl _ _ ts,.int _ nx],_)::_=>
  some ⟨tP (af ao cs) ⟨af az ts,nx⟩ i.toNat,fun y=> .two {keep:=[2,3,5,6,7]} (tF (af ao cs) ⟨af az ts,nx⟩ i (af aJ us) 0) y (.exit 2) (tE (af ao cs) ⟨af az ts,nx⟩ i) .ret wx⟩
 | 0,_,_,_,_,some ([.dsl _ _ cs],_)::some ([.dsl _ _ ts,.int _ nx],_)::_=>
  some ⟨nn (af ao cs) ⟨af az ts,nx⟩,fun y=> .two {keep:=[2,3,5]} (tE (af ao cs) ⟨af az ts,nx⟩ 0) y (.exit 0) ⟨ah 85 [],[],[]⟩ .ret wx⟩
 | _,_,_,_,_,_=>none
def rD:Vw:=fun t cs i=>bif Nat.beq t 3 then some (aJ ((af aJ cs).getD i 0)) else gi t cs i
def iS:Env:={P:=Pz,vw:=rD,res:=yd,ls:=ae9}
theorem aT6 (S:aO) (x:aA) (i:Int) (L:List Int) (k j:Int) (b:Bool) (n:Int):bp iS 0 NS (lp Pz gl 6) (Cf S x i L k j b n)=(
 let q2:=List.getD (af az (ae az x.ak)) i.toNat [];
 let q:=af aq (ae aq q2);
 let q7:=af aJ (ae aJ L);
 let q1:=List.getD q7 n.toNat (0:Int);
 let bS:=Rw.mk (0:Int) [];
 let q3:=Rw.cells (List.getD q k.toNat bS);
 let q4:=Rw.cells (List.getD q j.toNat bS);
 let q5:=List.getD (af aG (ae aG q3)) (Int.toNat q1) [];
 let q6:=List.getD (af aG (ae aG q4)) (Int.toNat q1) [];
 let q8:Hp:=[some ([ab ao S],25),some ((aM x),29)];
 let q9:List Prop:=[0<=i/\i<(x.ak.length:Int),td 1 i (ae az x.ak)=[ab aq q2]];
 let bK:List Prop:=[0<=n/\n<(L.length:Int),td 1 n (ae aJ L)=[aa q1]];bif decide (n<(L.length:Int)) then bif b then .ai q9 (.ai [0<=k/\k<(↑(List.length q2):Int),td 2 k (ae aq q2)=[aa (Rw.id
  (List.getD q k.toNat bS)),ab aG q3]] (.ai bK (.ai [0<=List.getD q7 n.toNat (0:Int)/\List.getD q7 n.toNat (0:Int)<(↑(List.length q3):Int),List.take 1 (List.drop (Int.toNat q1*1) (ae aG q3))=[ab aj
  q5]] (.ai q9 (.ai [0<=j/\j<(↑(List.length q2):Int),td 2 j (ae aq q2)=[aa (Rw.id (List.getD q j.toNat bS)),ab aG q4]] (.ai bK (.ai [0<=List.getD q7 n.toNat (0:Int)/\List.getD q7 n.toNat (0:Int) <
  (↑(List.length q4):Int),List.take 1 (List.drop (Int.toNat q1*1) (ae aG q4))=[ab aj q6]] (.bind (decide (af aj (ae aj q5)=af aj (ae aj q6))) fun y0=> .ai [au (Env.P iS) 215 [ab aj q5,ab
  aj q6] [] (aF.mk (.bool y0) [] [])] (nz (ah 85 [(2,pp 0),(3,pp 1),(5,aa i),(6,ab aJ L),(7,aa k),(8,aa j),(9,.bool y0),(10,aa (wz (n+1)))]) q8))))))))) else nz (ah 85 [(2,pp 0),(3,pp 1),(5,aa i),
  (6,ab aJ L),(7,aa k),(8,aa j),(9,.bool false),(10,aa (wz (n+1)))]) q8 else .done (Ex.exit 6,St.mk (ah 85 [(2,pp 0),(3,pp 1),(5,aa i),(6,ab aJ L),(7,aa k),(8,aa j),(9,.bool b)]) q8 []):T _):=kz
theorem aT5 (S:aO) (x:aA) (i:Int) (L:List Int) (k j:Int):bp iS 0 NR (lp Pz gl 4) (yZ S x i L k j)=(
 let q5:=af ao (ae ao S);
 let q3:=aA.mk (af az (ae az x.ak)) x.next;
 let q:Hp:=[some ([ab ao q5],25),some ((aM q3),29)];
 let q2:=af aJ (ae aJ L);
 let q1:=ah 85 [(2,pp 0),(3,pp 1),(5,aa i),(6,ab aJ q2),(7,aa k),(8,aa j),(9,.bool true),(10,aa 0)];
 let q4:Hp:=[some ([ab ao S],25),some ((aM x),29)];bif decide (j<k) then .bind (allN (tO q5 q3 i.toNat k.toNat j.toNat) (List.length q2) 0) fun y0=> .ai [St.mk (ah 85 [(2,pp 0),(3,pp 1),(5,aa i),(6,ab
  aJ L),(7,aa k),(8,aa j),(9,.bool true),(10,aa 0)]) q4 []=St.mk q1 q [],aN (Env.P iS) 0 (blk Pz gl 6) (St.mk q1 q []) (Ex.exit 6) (St.mk (ah 85 [(2,pp 0),(3,pp 1),(5,aa i),(6,ab aJ q2),(7,aa
  k),(8,aa j),(9,.bool y0)]) q [])] (bif y0 then .done (Ex.ret,St.mk (ah 85 [(4,.bool false)]) [] []) else nz (ah 85 [(2,pp 0),(3,pp 1),(5,aa i),(6,ab aJ q2),(7,aa k),(8,aa (wz (j+1)))]) q) else .done
  (Ex.exit 4,St.mk (ah 85 [(2,pp 0),(3,pp 1),(5,aa i),(6,ab aJ L),(7,aa k)]) q4 []):T _):=kz
theorem Rk (S:aO) (x:aA) (i:Int) (L:List Int) (k:Int):bp iS 0 GH (lp Pz gl 2) (tF S x i L k)=(
 let q7:=af ao (ae ao S);
 let q2:=af az (ae az x.ak);
 let q:Hp:=[some ([ab ao q7],25),some ((aM (aA.mk q2 x.next)),29)];
 let q4:=af aJ (ae aJ L);
 let q1:=ah 85 [(2,pp 0),(3,pp 1),(5,aa i),(6,ab aJ q4),(7,aa k),(8,aa 0)];
 let q3:Hp:=[some ([ab ao S],25),some ((aM x),29)];
 let q5:=ah 85 [(2,pp 0),(3,pp 1),(5,aa i)];
 let q6:=ah 85 [(4,.bool false)];.ai [0<=i/\i<(x.ak.length:Int),td 1 i (ae az x.ak)=[ab aq (List.getD q2 i.toNat [])]] (bif decide (k<(↑(List.length (List.getD q2 i.toNat [])):Int)) then bif decide
  ((L.length:Int)>0) then .bind (tN q7 (aA.mk q2 x.next) i.toNat k.toNat) fun y0=> .ai [St.mk (ah 85 [(2,pp 0),(3,pp 1),(5,aa i),(6,ab aJ L),(7,aa k),(8,aa 0)]) q3 []=St.mk q1 q []] (bif y0 then .ai
  [aN (Env.P iS) 0 (blk Pz gl 4) (St.mk q1 q []) (Ex.exit 4) (St.mk (ah 85 [(2,pp 0),(3,pp 1),(5,aa i),(6,ab aJ q4),(7,aa k)]) q [])] (nz (ah 85 [(2,pp 0),(3,pp 1),(5,aa i),(6,ab aJ q4),(7,aa
  (wz (k+1)))]) q) else .ai [aN (Env.P iS) 0 (blk Pz gl 4) (St.mk q1 q []) Ex.ret (St.mk q6 [] [])] (.done (Ex.ret,St.mk q6 [] []))) else .done (Ex.exit 2,St.mk q5 q3 []) else .done (Ex.exit 2,St.mk q5 q3 [])):T _):=fz
theorem aT4 (S:aO) (x:aA) (i:Int):bp iS 0 NQ (lp Pz gl 0) (tE S x i)=(
 let q3:=af ao (ae ao S);
 let q4:=aA.mk (af az (ae az x.ak)) x.next;
 let q:Hp:=[some ([ab ao q3],25),some ((aM q4),29)];
 let q2:=List.getD q3 i.toNat (Tb.mk [] [] [] false);
 let q1:=ah 85 [(2,pp 0),(3,pp 1),(5,aa i),(6,ab aJ (af aJ (ae aJ (Tb.uniq q2)))),(7,aa 0)];
 let q5:=ah 85 [(4,.bool false)];bif decide (i<(x.ak.length:Int)) then .ai [0<=i/\i<(S.length:Int),td 4 i (ae ao S)=(ao q2)] (.bind (tP q3 q4 i.toNat) fun y0=> .ai [St.mk (ah 85 [(2,pp 0),(3,pp 1),
  (5,aa i),(6,ab aJ (Tb.uniq q2)),(7,aa 0)]) [some ([ab ao S],25),some ((aM x),29)] []=St.mk q1 q []] (bif y0 then .ai [aN (Env.P iS) 0 (blk Pz gl 2) (St.mk q1 q []) (Ex.exit 2) (St.mk (ah 85 [(2,pp
  0),(3,pp 1),(5,aa i)]) q [])] (nz (ah 85 [(2,pp 0),(3,pp 1),(5,aa (wz (i+1)))]) q) else .ai [aN (Env.P iS) 0 (blk Pz gl 2) (St.mk q1 q []) Ex.ret (St.mk q5 [] [])] (.done (Ex.ret,St.mk q5 [] [])))) else .done
  (Ex.exit 0,St.mk (ah 85 []) [] []):T _):=kz
theorem unT (S:aO) (x:aA):fnT iS 0 gl [.agg [ab ao S],.agg (aM x)] []=(
 let q3:=af ao (ae ao S);
 let q2:=aA.mk (af az (ae az x.ak)) x.next;
 let q:Hp:=[some ([ab ao q3],25),some ((aM q2),29)];
 let q1:=ah 85 [(2,pp 0),(3,pp 1),(5,aa 0)];.bind (nn q3 q2) fun y0=> .ai [St.mk q1 [some ([ab ao S],25),some ((aM x),29)] []=St.mk q1 q []] (bif y0 then .ai [aN (Env.P iS) 0 (blk Pz gl 0) (St.mk q1
  q []) (Ex.exit 0) (St.mk (ah 85 []) [] [])] (dz (.bool true) [] []) else .ai [aN (Env.P iS) 0 (blk Pz gl 0) (St.mk q1 q []) Ex.ret (St.mk (ah 85 [(4,.bool false)]) [] [])] (dz (.bool false) [] [])):T _):=fz
theorem La (g:Nat->Bool):∀(k i:Nat) (s:Bool),uU (fun n s=>s&&g n) k i s=(s&&allN g k i)
 | 0,i,s=>by simp [uU,allN]
 | k+1,i,s=>by rw [uU,La g k (i+1),allN];cases s <;> cases g i <;> simp
theorem aT3 {S:aO} {x:aA} (h:eG S x) (hU:nE S) {i k j:Nat} (hi:i<x.ak.length) (hk:k<(x.ak.getD i []).length) (hj:j<(x.ak.getD i []).length):
  aT Pz 0 (lp Pz gl 6) (Cf S x i (S.getD i .zero).uniq k j true 0) (.exit 6) (Ij S x i (S.getD i .zero).uniq k j (allN (tO S x i k j) (S.getD i .zero).uniq.length 0)):=by
 have vd:i<S.length:=by rw [<- h.n];exact hi
 have aD:=bB.at x.ak [] i 1 hi rfl;have hr:=h.row hi hk;have vu:=h.row hi hj;have cB:=bI.at (x.ak.getD i []) ⟨0,[]⟩ k 2 hk rfl;have WX:=bI.at (x.ak.getD i []) ⟨0,[]⟩ j 2 hj rfl;have hu:=(h.aC hi).2;have key:=Lb (E:=iS) (m:=0) (nf:=NS) (c:=lp Pz gl 6) (st:=fun n b=>Cf S x i (S.getD i .zero).uniq k j b (n:Nat)) (n:=(S.getD i .zero).uniq.length) (fun _ _=>True) (fun n s=>s&&tO S x i k j n) (ex:= .exit 6) (sx:=fun b=>Ij S x i (S.getD i .zero).uniq k j b) follows named (by simp) (fun n b=>aT6 S x i (S.getD i .zero).uniq k j b (n:Nat)) (fun n b hn _=>⟨?_,a8⟩) (fun b _ => ?_) (S.getD i .zero).uniq.length 0 true (by simp) trivial
 ·rw [La,Bool.true_and] at key;exact key.1
 ·have vz:=hU _ (bH .zero vd) _ (bH 0 hn);have LF:=fa.at (S.getD i .zero).uniq 0 n 1 hn rfl;have cd:=h.cell hi hk (c:=((S.getD i .zero).uniq.getD n 0).toNat) ag;have e1:(jO x i k).cells.length=(S.getD i .zero).av.length:=hr.2;have e2:(jO x i j).cells.length=(S.getD i .zero).av.length:=vu.2;have nX:=bP.at' (jO x i k).cells [] ((S.getD i .zero).uniq.getD n 0) 1 (by rw [e1];omega) rfl;have WY:=bP.at' (jO x i j).cells [] ((S.getD i .zero).uniq.getD n 0) 1 (by rw [e2];omega) rfl;have hN:tO S x i k j n=decide (j9 x i k ((S.getD i .zero).uniq.getD n 0).toNat=j9 x i j ((S.getD i .zero).uniq.getD n 0).toNat):=rfl;have gP:wz ((n:Int)+1)=((n+1:Nat):Int):=bW ag;rw [<- e1] at vz;have aW7:0<=(S.getD i .zero).uniq.getD n 0/\(S.getD i .zero).uniq.getD n 0<(jO x i j).cells.length:=by rw [e2,<- e1];exact vz
  rw [hN];unfold j9 at *;generalize (S.getD i .zero).uniq=L at *;generalize XD:L.getD n 0=u at *;unfold jO at *;simp only [Rw.zero] at *;simp only [sz,Int.toNat_natCast,bB.af,bI.af,bP.af,fa.af,bu.af,gP,XD];refine ⟨fun _=>⟨fun hb=>⟨⟨aB,aD⟩,⟨aB,cB⟩,⟨aB,LF⟩,⟨aB,nX⟩,⟨aB,aD⟩,⟨aB,WX⟩,⟨aB,LF⟩,⟨aB,WY⟩,?_⟩,fun hb => ?_⟩,fun h=>ag⟩
  ·rintro y rfl;refine ⟨BQ _ _ cd,?_⟩;rw [hb,Bool.true_and];rfl
  ·rw [hb,Bool.false_and];rfl
 ·simp only [sz];exact ⟨fun h=>ag,fun _=>rfl⟩
theorem aT2 {S:aO} {x:aA} (h:eG S x) (hU:nE S) {i k:Nat} (hi:i<x.ak.length) (hk:k<(x.ak.getD i []).length):
  (tN S x i k=true->aT Tryz.prog 0 (lp Tryz.prog gl 4) (yZ S x i (S.getD i .zero).uniq k 0) (.exit 4) (tF S x i (S.getD i .zero).uniq k)) /\
  (tN S x i k=false->aT Tryz.prog 0 (lp Tryz.prog gl 4) (yZ S x i (S.getD i .zero).uniq k 0) .ret wx):=by
 have hn:=h.eA hi
 refine ju (E:=iS) (nf:=NR) (st:=fun j=>yZ S x i (S.getD i .zero).uniq k (j:Nat)) (n:=k) (IE S x i k) follows named (by simp) (by simp) (fun j=>aT5 S x i (S.getD i .zero).uniq k (j:Nat)) (fun j hj => ?_) ?_ k 0 (by simp)
 ·have hl:=aT3 h hU hi hk (show j<(x.ak.getD i []).length by omega)
  have gP:IntKind.i64.wrap ((j:Int)+1)=((j+1:Nat):Int):=bW (by omega)
  have hJ:IE S x i k j= !allN (tO S x i k j) (S.getD i .zero).uniq.length 0:=rfl
  rw [hJ]
  generalize (S.getD i .zero).uniq=L at *
  simp only [ba,T.WP,All,bh,bl,bg,Int.toNat_natCast,bN.af,bB.af,fa.af,gP]
  refine ⟨fun _ => ?_,fun h=>by omega⟩
  rintro y rfl
  refine ⟨⟨a8,.aV hl⟩,fun h => ?_,fun h => ?_⟩
  ·rw [h];rfl
  ·rw [h];rfl
 ·simp only [ba,T.WP,All,bh,bl,bg]
  exact ⟨fun h=>by omega,fun _=>rfl⟩
theorem aT1 {S:aO} {x:aA} (h:eG S x) (hU:nE S) {i:Nat} (hi:i<x.ak.length):
  (tP S x i=true->aT Pz 0 (lp Pz gl 2) (tF S x i (S.getD i .zero).uniq 0) (.exit 2) (tE S x i)) /\
  (tP S x i=false->aT Pz 0 (lp Pz gl 2) (tF S x i (S.getD i .zero).uniq 0) .ret wx):=by
 have aD:=bB.at x.ak [] i 1 hi rfl
 have hn:=h.eA hi
 have hT:tP S x i=(decide ((S.getD i .zero).uniq.length=0)||allN (tN S x i) (x.ak.getD i []).length 0):=rfl
 by_cases h0:(S.getD i .zero).uniq.length=0
 ·rw [hT,decide_eq_true h0,Bool.true_or]
  refine ⟨fun _ => ?_,fun h=>by cases h⟩
  refine .done (jP (E:=iS) (nf:=GH) follows named (Rk S x i (S.getD i .zero).uniq ((0:Nat):Int)) ?_) (by simp)
  generalize (S.getD i .zero).uniq=L at *
  simp only [sz,Int.toNat_natCast,bB.af]
  exact ⟨⟨aB,aD⟩,fun _=>⟨fun h=>ag,fun _=>rfl⟩,fun _=>rfl⟩
 ·rw [hT,decide_eq_false h0,Bool.false_or]
  refine ju (E:=iS) (nf:=GH) (st:=fun k=>tF S x i (S.getD i .zero).uniq (k:Nat)) (n:=(x.ak.getD i []).length) (tN S x i) follows named (by simp) (by simp) (fun k=>Rk S x i (S.getD i .zero).uniq (k:Nat)) (fun k hk => ?_) ?_ (x.ak.getD i []).length 0 (by simp)
  ·have hl:=aT2 h hU hi hk
   have gP:wz ((k:Int)+1)=((k+1:Nat):Int):=bW ag
   generalize (S.getD i .zero).uniq=L at *
   simp only [sz,Int.toNat_natCast,bN.af,bB.af,fa.af,gP]
   refine ⟨⟨aB,aD⟩,fun _=>⟨fun _ => ?_,fun h=>ag⟩,fun h=>ag⟩
   rintro y rfl
   refine ⟨a8,fun h=>⟨.aV (hl.1 h),?_⟩,fun h=>⟨.aV (hl.2 h),?_⟩⟩
   ·rw [h];rfl
   ·rw [h];rfl
  ·generalize (S.getD i .zero).uniq=L at *
   simp only [sz,Int.toNat_natCast,bB.af]
   exact ⟨⟨aB,aD⟩,fun h=>ag,fun _=>rfl⟩
theorem aT0 {S:aO} {x:aA} (h:eG S x) (hU:nE S):
  (nn S x=true->aT Pz 0 (lp Pz gl 0) (tE S x 0) (.exit 0) ⟨ah 85 [],[],[]⟩) /\
  (nn S x=false->aT Pz 0 (lp Pz gl 0) (tE S x 0) .ret wx):=by
 have hn:=h.s.n
 refine ju (E:=iS) (nf:=NQ) (st:=fun i=>tE S x (i:Nat)) (n:=x.ak.length) (tP S x) follows named (by simp) (by simp) (fun i=>aT4 S x (i:Nat)) (fun i hi => ?_) ?_ x.ak.length 0 (by simp)
 ·have gP:wz ((i:Int)+1)=((i+1:Nat):Int):=bW ag
  have eN:=bN.at S .zero i 4 (by rw [<- h.n];exact hi) rfl
  have hS:=h.n
  have hl:=aT1 h hU hi
  simp only [Tb.zero] at *
  simp only [sz,Int.toNat_natCast,bN.af,bB.af,fa.af,gP]
  refine ⟨fun _=>⟨⟨aB,eN⟩,?_⟩,fun h=>ag⟩
  rintro y rfl
  refine ⟨a8,fun h=>⟨.aV (hl.1 h),?_⟩,fun h=>⟨.aV (hl.2 h),?_⟩⟩
  ·rw [h];rfl
  ·rw [h];rfl
 ·simp only [sz]
  exact ⟨fun h=>ag,fun _=>trivial⟩
theorem Rl {S:aO} {x:aA} (h:eG S x) (hU:nE S):au Pz gl [.agg [ab ao S],.agg (aM x)] [] ⟨.bool (nn S x),[],[]⟩:=by
 have hl:=aT0 h hU;refine a6 (unT S x) ?_;simp only [sz,bN.af,bB.af];rintro y rfl;refine ⟨a8,fun h=>⟨.aV (hl.1 h),?_⟩,fun h=>⟨.aV (hl.2 h),?_⟩⟩
 ·rw [h];exact aH
 ·rw [h];exact aH
def vN:cy:=fun f vs hp=>
 bif Nat.beq f fY then (match vs with | [.agg [.dsl _ _ cs],.agg [.dsl _ _ ts,.int _ nx]]=>some ⟨nc (af ao cs) ⟨af az ts,nx⟩,fun y=>⟨.bool y,[],[]⟩⟩ | _=>none) else
 bif Nat.beq f gl then (match vs with | [.agg [.dsl _ _ cs],.agg [.dsl _ _ ts,.int _ nx]]=>some ⟨nn (af ao cs) ⟨af az ts,nx⟩,fun y=>⟨.bool y,[],[]⟩⟩ | _=>none) else
 bif Nat.beq f jd then (match vs with | [.agg [.dsl _ _ cs],.agg [.dsl _ _ ts,.int _ nx],.int _ t,.int _ w]=>some ⟨ey (af ao cs) ⟨af az ts,nx⟩ t.toNat w,fun y=>⟨.int .i64 (y:Nat),[],[]⟩⟩ | _=>none) else
 bif Nat.beq f xa then (match vs with | [.agg [.dsl _ _ cs],.agg [.dsl _ _ ts,.int _ nx]]=>some ⟨ka (af ao cs) ⟨af az ts,nx⟩,fun y=>⟨.int .i64 y,[],[]⟩⟩ | _=>none) else yd f vs hp
def CN:Env:={P:=Pz,vw:=rD,res:=vN}
theorem TR (S:aO) (x:aA):fnT CN 0 xa [.agg [ab ao S],.agg (aM x)] []=(
 let q:=aA.mk (af az (ae az x.ak)) x.next;
 let q1:List V:=[.agg [ab ao S],.agg (aM x)];
 let q2:=af ao (ae ao S);.bind (nc q2 q) fun y0=> .ai [au (Env.P CN) 145 q1 [] (aF.mk (.bool y0) [] [])] (bif !y0 then dz (aa 13) [] [] else .bind (nn q2 q) fun y1=> .ai [au (Env.P CN) 146 q1 [] (aF.mk
  (.bool y1) [] [])] (bif !y1 then dz (aa 12) [] [] else dz (aa 0) [] [])):T _):=fz
theorem Uk {S:aO} {x:aA} (h:eG S x) (hR:p9 S) (hU:nE S):au Pz xa [.agg [ab ao S],.agg (aM x)] [] ⟨.int .i64 (ka S x),[],[]⟩:=by
 refine a6 (TR S x) ?_;simp only [sz,bN.af,bB.af];unfold ka;rintro y rfl;refine ⟨PH h hR,fun h1 => ?_,fun h1 => ?_⟩
 ·rw [h1];exact aH
 ·rw [h1];rintro y rfl;refine ⟨Rl h hU,fun h2 => ?_,fun h2 => ?_⟩
  ·rw [h2];exact aH
  ·rw [h2];exact aH
abbrev uI:Nat:=285
abbrev uJ:Nat:=243
abbrev Et:Nat:=203
abbrev EN:Nat:=286
abbrev Ef:Nat:=242
def ik (f a b:Int):Int×Bool:=
 bif f==1 then (wz (a+b),bC (wz (a+b)) (-1000000000) 1000000000)
 else bif f==2 then (wz (a - b),bC (wz (a - b)) (-1000000000) 1000000000)
 else bif f==3 then (wz (a*b),bC (wz (a*b)) (-1000000000) 1000000000)
 else bif b==0 then (0,false)
 else bif f==5 then (a.tmod b,bC (a.tmod b) (-1000000000) 1000000000)
 else (wz (a.tdiv b),bC (wz (a.tdiv b)) (-1000000000) 1000000000)
def BH:cy:=fun f vs hp=>
 bif Nat.beq f sk then (match vs with | [.dsl _ _ cs,.agg [.int _ k,.int _ n,.str t]]=>some ⟨eH (af aj cs) ⟨k,n,t⟩,fun y=>⟨ab aj y,[],[]⟩⟩ | _=>none) else
 bif Nat.beq f uI then (match vs with | [.dsl _ _ cs,.dsl _ _ ds]=>some ⟨joinF (af aj cs) (af aj ds),fun y=>⟨ab aj y,[],[]⟩⟩ | _=>none) else
 bif Nat.beq f uJ then (match vs with | [.dsl _ _ cs,.dsl _ _ ds]=>some ⟨dP (af aj cs) (af aj ds),fun y=>⟨ab aj y,[],[]⟩⟩ | _=>none) else
 bif Nat.beq f Et then (match vs with | [.agg [.str nm,.int _ a,.int _ b,.int _ e,.int _ g,.int _ h,.str r,.bool q]]=>some ⟨jb ⟨nm,a,b,e,g,h,r,q⟩,fun y=>⟨ab aj y,[],[]⟩⟩ | _=>none) else
 bif Nat.beq f EN then (match vs with | [.int _ a,.int _ b,.int _ c]=>some ⟨ik a b c,fun y=>⟨.tup [.int .i64 y.1,.bool y.2],[],[]⟩⟩ | _=>none) else
 bif Nat.beq f Ef then (match vs with | [.agg [.str tn,.dsl _ _ cc,.dsl _ _ uu,.bool r],.agg [.int _ d,.dsl _ _ cs],.str nm]=>some ⟨dw (bw tn cc uu r) ⟨d,af aG cs⟩ nm,fun y=>⟨ab aj y,[],[]⟩⟩ | _=>none) else vN f vs hp
def fp:Env:={P:=Pz,vw:=rD,res:=BH}
def B5 (b o:aQ) (i:Int):St:=⟨ah 23 [(1,ab aj b),(5,ab aj o),(6,.int .i64 i)],[],[]⟩
def am9:Ex->Kp:=fun ex=>match ex with
 | .normal=>{keep:=[1,5,6]}
 | _=>{keep:=[5]}
theorem MQ (b o:aQ) (i:Int):bp fp 0 am9 (lp Pz uI 0) (B5 b o i)=(
 let q:=List.getD (af aj (ae aj b)) i.toNat (At.mk (0:Int) (0:Int) []);bif decide (i<(b.length:Int)) then .ai [0<=i/\i<(b.length:Int),td 3 i (ae aj b)=aj q] (.bind (eH (af aj (ae aj
  o)) (At.mk (At.kind q) (At.n q) (At.t q))) fun y0=> .ai [au (Env.P fp) 186 [ab aj o,.agg (aj q)] [] (aF.mk (ab aj y0) [] [])] (nz (ah 23 [(1,ab aj b),(5,ab aj y0),(6,aa (wz (i+1)))]) [])) else .done
  (Ex.exit 0,St.mk (ah 23 [(5,ab aj o)]) [] []):T _):=kz
theorem MR (b:aQ) (hb:b.length<=1000):∀(k i:Nat) (o:aQ),i+k=b.length->o.length<=1000+i ->
  aT Tryz.prog 0 (lp Tryz.prog uI 0) (B5 b o i) (.exit 0) ⟨ah 23 [(5,ab aj (joinF o (b.drop i)))],[],[]⟩
 | 0,i,o,hi,ho=>by
  have hi:i=b.length:=hi;subst hi;rw [List.drop_length];refine bZ (E:=fp) follows named (MQ b o (b.length:Nat)) ?_;simp only [ba,T.WP,All,bh,bl,bg];exact ⟨fun h=>by omega,fun _=>⟨rfl,rfl⟩⟩
 | k+1,i,o,hi,ho=>by
  have aD:=bu.at b ⟨0,0,[]⟩ i 3 (by omega) rfl;have hp:=qk o (b.getD i ⟨0,0,[]⟩);have ih:=MR b hb k (i+1) (eH o (b.getD i ⟨0,0,[]⟩)) (by omega) (by omega);have w1:IntKind.i64.wrap ((i:Int)+1)=((i+1:Nat):Int):=bW (by omega);rw [iE ⟨0,0,[]⟩ (show i<b.length by omega),joinF];refine bZ (E:=fp) follows named (MQ b o (i:Nat)) ?_;simp only [ba,T.WP,All,bh,bl,bg,w1,bu.af,Int.toNat_natCast];refine ⟨fun _=>⟨⟨aB,aD⟩,?_⟩,fun h=>by omega⟩;rintro y rfl;exact ⟨BC o _ (by omega),ih⟩
def ab5:Nat->St->Option b8:=fun id s=>match id,s.tm.get 1,s.hp with
 | 0,.dsl _ _ cs,some ([.aw os],_)::_=>some ⟨joinF (af aj os) (af aj cs),fun y=> .one {keep:=[1,5,6],perm:=some ([],[])} (B5 (af aj cs) (af aj os) 0) (.exit 0) ⟨ah 23 [(5,ab aj y)],[],[]⟩⟩
 | 0,.dsl _ _ cs,_::some ([.aw os],_)::_=>some ⟨joinF (af aj os) (af aj cs),fun y=> .one {keep:=[1,5,6],perm:=some ([],[])} (B5 (af aj cs) (af aj os) 0) (.exit 0) ⟨ah 23 [(5,ab aj y)],[],[]⟩⟩
 | _,_,_=>none
def IU:Env:={P:=Pz,vw:=rD,res:=BH,ls:=ab5}
theorem ZL (a b:aQ):fnT IU 0 uI [ab aj a,ab aj b] []=(
 let q2:=af aj (ae aj b);
 let q1:=ae aj a;
 let q:=ah 23 [(1,ab aj q2),(5,ab aj (af aj q1)),(6,aa 0)];.ai [List.length q1=a.length*3,List.all q1 V.one=true,0=0,0=0,0+a.length<=9223372036854775807,(0+a.length)*32<=140737488355328]
  (.bind (joinF (af aj q1) q2) fun y0=> .ai [St.mk (ah 23 [(1,ab aj b),(5,.dsl (0+a.length) false q1),(6,aa 0)]) [] []=St.mk q [] [],aN (Env.P IU) 0 (blk Pz uI 0) (St.mk q [] []) (Ex.exit 0) (St.mk (ah
  23 [(5,ab aj y0)]) [] [])] (dz (ab aj y0) [] [])):T _):=fz
def B6 (a b o:aQ) (i:Int):St:=⟨ah 29 [(0,ab aj a),(1,ab aj b),(5,.sl 0 0 o.length false),(6,.int .i64 i)],[some ([.aw (ae aj o)],pX)],[]⟩
def an1:Ex->Kp:=fun ex=>match ex with
 | .normal=>{keep:=[0,1,5,6]}
 | _=>{keep:=[5]}
theorem Nc (a b o:aQ) (i:Int):bp fp 0 an1 (lp Pz uJ 0) (B6 a b o i)=(
 let q:=List.getD (af aj (ae aj a)) i.toNat (At.mk (0:Int) (0:Int) []);
 let q1:List Prop:=[0<=i/\i<(a.length:Int),td 3 i (ae aj a)=aj q];
 let q2:Hp:=[some ([.aw (ae aj o)],143)];bif decide (i<(a.length:Int)) then .ai q1 (.bind (cu (af aj (ae aj b)) (At.mk (At.kind q) (At.n q) (At.t q))) fun y0=> .ai [au (Env.P fp) 210 [ab aj b,.agg
  (aj q)] [] (aF.mk (.bool y0) [] [])] (bif !y0 then .ai q1 (.ai [0=0,List.length (ae aj o)=o.length*3,o.length+1<=9223372036854775807,(o.length+1)*32<=140737488355328] (nz (ah 29 [(0,ab aj a),(1,
  ab aj b),(5,.sl 0 0 (o.length+1) false),(6,aa (wz (i+1)))]) [some ([.aw (ae aj o++(aj q))],143)])) else nz (ah 29 [(0,ab aj a),(1,ab aj b),(5,.sl 0 0 o.length false),(6,aa (wz (i+1)))]) q2))
  else .done (Ex.exit 0,St.mk (ah 29 [(5,.sl 0 0 o.length false)]) q2 []):T _):=kz
def ab7:Nat->St->Option b8:=fun id s=>match id,s.tm.get 0,s.tm.get 1 with
 | 0,.dsl _ _ cs,.dsl _ _ ds=>some ⟨dP (af aj cs) (af aj ds),fun y=> .one {keep:=[0,1,5,6],eu:=[5]} (B6 (af aj cs) (af aj ds) [] 0) (.exit 0) ⟨ah 29 [(5,.sl 0 0 y.length false)],[some ([.aw (ae aj y)],pX)],[]⟩⟩
 | _,_,_=>none
def IV:Env:={P:=Pz,vw:=rD,res:=BH,ls:=ab7}
theorem miT (a b:aQ):fnT IV 0 uJ [ab aj a,ab aj b] []=(
 let q2:=af aj (ae aj a);
 let q3:=af aj (ae aj b);
 let q:=ah 29 [(0,ab aj q2),(1,ab aj q3),(5,.sl 0 0 0 false),(6,aa 0)];
 let q1:Hp:=[some ([.aw []],143)];.bind (dP q2 q3) fun y0=> .ai [St.mk (ah 29 [(0,ab aj a),(1,ab aj b),(5,.sl 0 0 0 false),(6,aa 0)]) q1 []=St.mk q q1 [],aN (Env.P IV) 0 (blk Pz uJ 0) (St.mk q q1
  []) (Ex.exit 0) (St.mk (ah 29 [(5,.sl 0 0 y0.length false)]) [some ([.aw (ae aj y0)],143)] [])] (dz (ab aj y0) [] []):T _):=fz
theorem U4 (c:aL):fnT fp 0 Et [.agg (aY c)] []=(
 bif c.min==0 then dz (.dsl 0 false []) [] [] else bif c.kind==1 then dz (.dsl 1 false [aa c.kind,aa (if (if 0<c.high then (0:Int) else c.high)>c.low then if 0<c.high then (0:Int) else c.high else c.low),.str []]) [] []
  else dz (.dsl 1 false [aa c.kind,aa 0,.str []]) [] []:T _):=kz
theorem nuT (f a b:Int):fnT fp 0 EN [.int .i64 f,.int .i64 a,.int .i64 b] []=(
 let q:=(1000000000:Int);
 let q1:=wz (Int.tdiv a b);
 let q2:=Int.tmod a b;bif f==1 then .bind (bC (wz (a+b)) (-1000000000:Int) q) fun y0=> .ai [au (Env.P fp) 51 [aa (wz (a+b)),aa (-1000000000:Int),aa 1000000000] [] (aF.mk (.bool y0) [] [])] (dz (.tup [aa (wz (a +
  b)),.bool y0]) [] []) else bif f==2 then .bind (bC (wz (a - b)) (-1000000000:Int) q) fun y1=> .ai [au (Env.P fp) 51 [aa (wz (a - b)),aa (-1000000000:Int),aa 1000000000] [] (aF.mk (.bool y1) [] [])] (dz (.tup [aa
  (wz (a - b)),.bool y1]) [] []) else bif f==3 then .bind (bC (wz (a*b)) (-1000000000:Int) q) fun y2=> .ai [au (Env.P fp) 51 [aa (wz (a*b)),aa (-1000000000:Int),aa 1000000000] [] (aF.mk (.bool y2) [] [])] (dz
  (.tup [aa (wz (a*b)),.bool y2]) [] []) else bif b==0 then dz (.tup [aa 0,.bool false]) [] [] else .ai [b≠(0:Int)] (bif f==5 then .ai [b≠(0:Int)] (.bind (bC q2 (-1000000000:Int) q) fun y3=> .ai [au (Env.P
  fp) 51 [aa q2,aa (-1000000000:Int),aa 1000000000] [] (aF.mk (.bool y3) [] [])] (dz (.tup [aa q2,.bool y3]) [] [])) else .bind (bC q1 (-1000000000:Int) q) fun y4=> .ai [au (Env.P fp) 51 [aa q1,aa (-1000000000:
  Int),aa 1000000000] [] (aF.mk (.bool y4) [] [])] (dz (.tup [aa q1,.bool y4]) [] [])):T _):=kz
theorem Tu (t:Tb) (r:Rw) (nm:List UInt8):fnT fp 0 Ef [.agg (ao t),.agg (aq r),.str nm] []=(
 let q:=ae aG r.cells;.bind (bf (bw t.name (ae aY t.av) (ae aJ t.uniq) t.root) nm) fun y0=>
 let q1:=List.getD (af aG q) y0.toNat [];.ai [au (Env.P fp) 178 [.agg (ao t),.str nm] [] (aF.mk (aa y0) [] [])] (bif decide (y0<0) then dz (.dsl 1 false [aa 4,aa r.id,.str []]) [] [] else .ai [0<=y0/\y0 <
  (r.cells.length:Int),td 1 y0 q=[ab aj q1]] (dz (ab aj q1) [] [])):T _):=fz
theorem ZM (a b:aQ) (ha:a.length<=1000) (hb:b.length<=1000):au Pz uI [ab aj a,ab aj b] [] ⟨ab aj (joinF a b),[],[]⟩:=by
 have hl:=MR b hb b.length 0 a ag ag;rw [List.drop_zero] at hl;refine a6 (ZL a b) ?_;simp only [sz,bu.af,bu.length,bu.all,Nat.zero_add];refine ⟨aB,?_⟩;rintro y rfl;exact ⟨⟨a8,.aV hl⟩,aH⟩
theorem ag9 (a b:aQ) (n:Nat) (hn:n<a.length):dP (a.take (n+1)) b=dP (a.take n) b++(bif !cu b (a.getD n ⟨0,0,[]⟩) then [a.getD n ⟨0,0,[]⟩] else []):=by
 unfold dP;rw [fU ⟨0,0,[]⟩ hn,List.filter_append];congr 1
theorem Nd (a b:aQ) (ha:a.length<=1048576) (hb:b.length<=1048576):∀(m n:Nat),n+m=a.length ->
  aT Pz 0 (lp Pz uJ 0) (B6 a b (dP (a.take n) b) n) (.exit 0) ⟨ah 29 [(5,.sl 0 0 (dP a b).length false)],[some ([.aw (ae aj (dP a b))],pX)],[]⟩
 | 0,n,hn=>by
  have hn:n=a.length:=hn;subst hn;rw [List.take_length];refine bt (Nc a b (dP a b) (a.length:Nat)) ?_;simp only [sz];exact ⟨fun h=>ag,fun _=>⟨rfl,rfl⟩⟩
 | m+1,n,hn=>by
  have aD:=bu.at a ⟨0,0,[]⟩ n 3 ag rfl;have ih:=Nd a b ha hb m (n+1) ag;have w1:=cX n;have cD:(dP (a.take n) b).length<=1048576:=by
   refine Nat.le_trans (List.length_filter_le _ _) ?_;rw [List.length_take];omega
  rw [ag9 a b n ag] at ih;refine bt (Nc a b (dP (a.take n) b) (n:Nat)) ?_;simp only [sz,w1,bu.af,bu.length,Int.toNat_natCast];refine ⟨fun _=>⟨⟨aB,aD⟩,?_⟩,fun h=>ag⟩;rintro y rfl;refine ⟨Ft _ _ ag,fun h => ?_,fun h => ?_⟩
  ·rw [h,cond_true] at ih;refine ⟨⟨aB,aD⟩,aB,?_⟩;simp only [B6,dF,aj,List.length_append,List.length_singleton] at ih ⊢;exact ih
  ·rw [h,cond_false,List.append_nil] at ih;exact ih
theorem GA (a b:aQ) (ha:a.length<=1048576) (hb:b.length<=1048576):au Pz uJ [ab aj a,ab aj b] [] ⟨ab aj (dP a b),[],[]⟩:=by
 have hl:=Nd a b ha hb a.length 0 ag;refine a6 (miT a b) ?_;simp only [sz,bu.af];rintro y rfl;exact ⟨⟨a8,.aV hl⟩,aH⟩
theorem U6 (c:aL):au Pz Et [.agg (aY c)] [] ⟨ab aj (jb c),[],[]⟩:=by
 refine a6 (U4 c) ?_;simp only [sz];unfold jb;refine ⟨fun h => ?_,fun h=>⟨fun h2 => ?_,fun h2 => ?_⟩⟩
 ·rw [h];exact aH
 ·rw [h2,(dT:(c.min==0)=false)];have hm:(if (if 0<c.high then 0 else c.high)>c.low then if 0<c.high then 0 else c.high else c.low)=max c.low (min c.high 0):=by
   have e1:(if 0<c.high then (0:Int) else c.high)=min c.high 0:=by split <;> omega
   rw [e1];split <;> omega
  rw [hm];exact aH
 ·rw [(dT:(c.min==0)=false),(iu:(c.kind==1)=false)];exact aH
theorem as7 (f a b:Int):au Pz EN [.int .i64 f,.int .i64 a,.int .i64 b] [] ⟨.tup [.int .i64 (ik f a b).1,.bool (ik f a b).2],[],[]⟩:=by
 refine a6 (nuT f a b) ?_;simp only [sz];unfold ik;refine ⟨fun h1 => ?_,fun h1=>⟨fun h2 => ?_,fun h2=>⟨fun h3 => ?_,fun h3=>⟨fun h4 => ?_,fun h4=>⟨h4,fun h5=>⟨h4,?_⟩,fun h5 => ?_⟩⟩⟩⟩⟩
 ·rw [h1];rintro y rfl;exact ⟨pL _ _ _,aH⟩
 ·rw [h2];rintro y rfl;exact ⟨pL _ _ _,aH⟩
 ·rw [h3];rintro y rfl;exact ⟨pL _ _ _,aH⟩
 ·rw [(cR:(f==1)=false),(iu:(f==2)=false),show (f==3)=false by simpa using h3,h4];exact aH
 ·rw [h5,show (b==0)=false by simpa using h4];rintro y rfl;exact ⟨pL _ _ _,aH⟩
 ·rw [(cR:(f==1)=false),(iu:(f==2)=false),show (f==3)=false by simpa using h3,show (b==0)=false by simpa using h4,show (f==5)=false by simpa using h5];rintro y rfl;exact ⟨pL _ _ _,aH⟩
theorem JL (t:Tb) (r:Rw) (nm:List UInt8) (ht:t.av.length<=1048576) (hr:0<=bf t nm->(bf t nm).toNat<r.cells.length):au Pz Ef [.agg (ao t),.agg (aq r),.str nm] [] ⟨ab aj (dw t r nm),[],[]⟩:=by
 refine a6 (Tu t r nm) ?_;simp only [sz,cH,bP.af];unfold dw;rintro y rfl;refine ⟨qj t nm ht,fun h => ?_,fun h => ?_⟩
 ·rw [decide_eq_true h];exact aH
 ·rw [decide_eq_false h];have hr:=hr ag;have aD:=bP.at' r.cells [] (bf t nm) 1 ⟨ag,ag⟩ rfl;exact ⟨⟨aB,aD⟩,aH⟩
abbrev EC:Nat:=192
abbrev ql:Nat:=117
abbrev su:Nat:=53
structure iX (t:Tb) (r:Rw):Prop where
 s:fv r
 n:r.cells.length=t.av.length
 k:t.av.length<=1048576
structure ll (c:aZ):Prop where
 n:c.val.length<=1048576
 f:c.func=1\/c.func=2\/c.func=7\/c.func=8\/c.val≠[]
theorem nI {t:Tb} {nm:List UInt8} (h:0<=bf t nm):(bf t nm).toNat<t.av.length:=(uT (p:=fun c:aL=>c.name==nm) aL.zero h).1
theorem iX.at {t:Tb} {r:Rw} (h:iX t r) (nm:List UInt8):0<=bf t nm->(bf t nm).toNat<r.cells.length:=fun h0=>by
 rw [h.n];exact nI h0
theorem iX.rU {t:Tb} {r:Rw} (h:iX t r) (nm:List UInt8):(dw t r nm).length<=1048576:=by
 unfold dw;by_cases h0:bf t nm<0
 ·rw [decide_eq_true h0];simp
 ·rw [decide_eq_false h0,cond_false];exact h.s.d _ (bH [] (h.at nm ag))
theorem Bk (a b:Nat):(((a:Nat):Int)==(b:Int))=(a==b):=by
 rw [Bool.eq_iff_iff,beq_iff_eq,beq_iff_eq];omega
theorem maT (t:Tb) (r:Rw) (c:aZ):fnT fp 0 EC [.agg (ao t),.agg (aq r),.agg (aE c)] []=(
 let q2:=ae aj c.val;
 let q3:=af aj q2;
 let q1:=At.mk (0:Int) (0:Int) [];
 let q:=List.getD q3 0 q1;.bind (dw (bw t.name (ae aY t.av) (ae aJ t.uniq) t.root) (Rw.mk r.id (af aG (ae aG r.cells))) c.aC) fun y0=>
 let q5:=ae aj y0;
 let q7:=af aj q5;
 let q4:=List.getD q7 0 q1;
 let q6:=decide (af aj q5=af aj q2);.ai [au (Env.P fp) 242 [.agg (ao t),.agg (aq r),.str c.aC] [] (aF.mk (ab aj y0) [] [])] (bif c.func==1 then .bind q6 fun y1=> .ai [au (Env.P fp) 215 [ab aj
  y0,ab aj c.val] [] (aF.mk (.bool y1) [] [])] (dz (.bool y1) [] []) else bif c.func==2 then .bind q6 fun y2=> .ai [au (Env.P fp) 215 [ab aj y0,ab aj c.val] [] (aF.mk (.bool y2) [] [])] (dz (.bool !y2) [] []) else
  bif c.func==7 then .bind (dP q3 q7) fun y3=> .ai [au (Env.P fp) 243 [ab aj c.val,ab aj y0] [] (aF.mk (ab aj y3) [] [])] (dz (.bool ((y3.length:Int)==0)) [] []) else bif c.func==8 then .bind (dP q3
  q7) fun y4=> .ai [au (Env.P fp) 243 [ab aj c.val,ab aj y0] [] (aF.mk (ab aj y4) [] [])] (dz (.bool ((y4.length:Int)==(c.val.length:Int))) [] []) else bif (y0.length:Int)==0 then dz (.bool false) [] [] else
  .ai [(0:Int)<=0/\(0:Int)<(y0.length:Int),List.take 3 (List.drop 0 q5)=aj q4] (.ai [(0:Int)<=0/\(0:Int)<(c.val.length:Int),List.take 3 (List.drop 0 q2)=aj q] (bif c.func==3 then dz (.bool (decide
  (At.n q4<At.n q))) [] [] else bif c.func==4 then dz (.bool (decide (At.n q4<=At.n q))) [] [] else bif c.func==5 then dz (.bool (decide (At.n q4>At.n q))) [] [] else dz (.bool (decide (At.n q4>=At.n q))) [] []))):T _):=fz
theorem ag3 {t:Tb} {r:Rw} {c:aZ} (hr:iX t r) (hc:ll c):au Pz EC [.agg (ao t),.agg (aq r),.agg (aE c)] [] ⟨.bool (ej t r c),[],[]⟩:=by
 have mQ:=JL t r c.aC hr.k (hr.at c.aC);have ga:=hr.rU c.aC;refine a6 (maT t r c) ?_;simp only [sz,bu.af,bP.af,cH];unfold ej;dsimp only;rintro d e;have e:d=dw t r c.aC:=e;rw [<- e] at mQ ga ⊢;clear e;refine ⟨mQ,fun h1 => ?_,fun h1=>⟨fun h2 => ?_,fun h2=>⟨fun h7 => ?_,fun h7=>⟨fun h8 => ?_,fun h8 => ?_⟩⟩⟩⟩
 ·rw [h1];rintro y rfl;exact ⟨BQ _ _ ga,aH⟩
 ·rw [h2];rintro y rfl;exact ⟨BQ _ _ ga,aH⟩
 ·rw [h7];rintro y rfl;exact ⟨GA _ _ hc.n ga,by rw [show ((((dP c.val d).length:Nat):Int)==0)=((dP c.val d).length==0) from Bk _ 0];rfl,rfl,by simp⟩
 ·rw [h8];rintro y rfl;exact ⟨GA _ _ hc.n ga,by rw [Bk];rfl,rfl,by simp⟩
 ·rw [(cR:(c.func==1)=false),(iu:(c.func==2)=false),show (c.func==7)=false by simpa using h7,show (c.func==8)=false by simpa using h8];simp only [cond_false];refine ⟨fun h0 => ?_,fun h0 => ?_⟩
  ·rw [(eo:(d.length==0)=true)];exact aH
  ·have hv:c.val≠[]:=by
    rcases hc.f with h | h | h | h | h
    ·exact absurd h h1
    ·exact absurd h h2
    ·exact absurd h h7
    ·exact absurd h h8
    ·exact h
   have fN:0<c.val.length:=List.length_pos_iff.2 hv;have a1:=bu.at d ⟨0,0,[]⟩ 0 3 ag rfl;have a2:=bu.at c.val ⟨0,0,[]⟩ 0 3 fN rfl;rw [Nat.zero_mul] at a1 a2;rw [(eo:(d.length==0)=false)];refine ⟨⟨aB,a1⟩,⟨aB,a2⟩,fun h3 => ?_,fun h3=>⟨fun h4 => ?_,fun h4=>⟨fun h5 => ?_,fun h5 => ?_⟩⟩⟩
   ·rw [h3];exact aH
   ·rw [h4];exact aH
   ·rw [h5];exact aH
   ·rw [show (c.func==3)=false by simpa using h3,show (c.func==4)=false by simpa using h4,show (c.func==5)=false by simpa using h5];exact aH
def ye:cy:=fun f vs hp=>
 bif Nat.beq f EC then (match vs with | [.agg [.str tn,.dsl _ _ cc,.dsl _ _ uu,.bool r],.agg [.int _ d,.dsl _ _ cs],.agg [.str co,.int _ fn,.dsl _ _ va]]=>some ⟨ej (bw tn cc uu r) ⟨d,af aG cs⟩ ⟨co,fn,af aj va⟩,fun y=>⟨.bool y,[],[]⟩⟩ | _=>none) else
 bif Nat.beq f ql then (match vs with | [.agg [.str tn,.dsl _ _ cc,.dsl _ _ uu,.bool r],.agg [.int _ d,.dsl _ _ cs],.dsl _ _ qs]=>some ⟨dL (bw tn cc uu r) ⟨d,af aG cs⟩ (af aE qs),fun y=>⟨.bool y,[],[]⟩⟩ | _=>none) else
 bif Nat.beq f su then (match vs with | [.agg [.str tn,.dsl _ _ cc,.dsl _ _ uu,.bool r],.dsl _ _ rs,.dsl _ _ qs]=>some ⟨ew (bw tn cc uu r) (af aq rs) (af aE qs),fun y=>⟨ab aJ y,[],[]⟩⟩ | _=>none) else BH f vs hp
def zk:Vw:=fun t cs i=>bif Nat.beq t Co then some (aE ((af aE cs).getD i aZ.zero)) else rD t cs i
def rG:Env:={P:=Pz,vw:=zk,res:=ye}
def yp (t:Tb) (r:Rw) (l:List aZ) (i:Int):St:=⟨ah 22 [(2,ab aE l),(3,.ptr 0 0),(4,.ptr 1 0),(7,.int .i64 i)],[some (ao t,gp),some (aq r,eb)],[]⟩
def Nq:Ex->Kp:=fun ex=>match ex with
 | .normal=>{keep:=[2,3,4,7]}
 | .ret=>{keep:=[6]}
 | _=>{keep:=[]}
theorem SK (t:Tb) (r:Rw) (l:List aZ) (i:Int):bp rG 0 Nq (lp Pz ql 0) (yp t r l i)=(
 let q:=List.getD (af aE (ae aE l)) i.toNat (aZ.mk [] (0:Int) []);bif decide (i<(l.length:Int)) then .ai [0<=i/\i<(l.length:Int),td 3 i (ae aE l)=(aE q)] (.bind (ej (bw t.name (ae aY
  t.av) (ae aJ t.uniq) t.root) (Rw.mk r.id (af aG (ae aG r.cells))) (aZ.mk (aZ.aC q) (aZ.func q) (af aj (ae aj (aZ.val q))))) fun y0=> .ai [au (Env.P rG) 192 [.agg (ao t),.agg (aq r),.agg
  (aE q)] [] (aF.mk (.bool y0) [] [])] (bif !y0 then .done (Ex.ret,St.mk (ah 22 [(6,.bool false)]) [] []) else nz (ah 22 [(2,ab aE l),(3,pp 0),(4,pp 1),(7,aa (wz (i+1)))]) [some ((ao t),44),some ((aq r),
  53)])) else .done (Ex.exit 0,St.mk (ah 22 []) [] []):T _):=kz
theorem SM {t:Tb} {r:Rw} {l:List aZ} (hr:iX t r) (hc:∀c∈l,ll c) (hl:l.length<=1048576):
  (dL t r l=true->aT Pz 0 (lp Pz ql 0) (yp t r l 0) (.exit 0) ⟨ah 22 [],[],[]⟩) /\
  (dL t r l=false->aT Pz 0 (lp Pz ql 0) (yp t r l 0) .ret ⟨ah 22 [(6,.bool false)],[],[]⟩):=by
 have e:dL t r l=allN (fun i=>ej t r (l.getD i ⟨[],0,[]⟩)) l.length 0:=(qf (fun c=>ej t r c) ⟨[],0,[]⟩ l).symm
 rw [e]
 refine ju (E:=rG) (nf:=Nq) (st:=fun i=>yp t r l (i:Nat)) (n:=l.length) (fun i=>ej t r (l.getD i ⟨[],0,[]⟩)) follows named (by simp) (by simp) (fun i=>SK t r l (i:Nat)) (fun i hi => ?_) ?_ l.length 0 (by simp)
 ·have aD:=cp.at l ⟨[],0,[]⟩ i 3 hi rfl
  have hm:=ag3 hr (hc _ (bH ⟨[],0,[]⟩ hi))
  have w1:=cX i
  simp only [sz,Int.toNat_natCast,cp.af,bu.af,bP.af,cH,w1]
  refine ⟨fun _=>⟨⟨aB,aD⟩,?_⟩,fun h=>ag⟩
  rintro y rfl
  refine ⟨hm,fun h => ?_,fun h => ?_⟩
  ·have h':ej t r (l.getD i ⟨[],0,[]⟩)=false:=(Bool.not_eq_true' _).mp h
   rw [h'];rfl
  ·have h':ej t r (l.getD i ⟨[],0,[]⟩)=true:=(Bool.not_eq_false' _).mp h
   rw [h'];rfl
 ·simp only [sz]
  exact ⟨fun h=>ag,fun _=>trivial⟩
def Z5:Nat->St->Option b8:=fun id s=>match id,s.tm.get 2,s.hp with
 | 0,.dsl _ _ qs,some ([.str tn,.dsl _ _ cc,.dsl _ _ uu,.bool q],_)::some ([.int _ d,.dsl _ _ cs],_)::_=>some ⟨dL (bw tn cc uu q) ⟨d,af aG cs⟩ (af aE qs),fun y=> .two {keep:=[2,3,4,7]} (yp (bw tn cc uu q) ⟨d,af aG cs⟩ (af aE qs) 0) y (.exit 0) ⟨ah 22 [],[],[]⟩ .ret ⟨ah 22 [(6,.bool false)],[],[]⟩⟩
 | _,_,_=>none
def CK:Env:={P:=Pz,vw:=zk,res:=ye,ls:=Z5}
theorem SL (t:Tb) (r:Rw) (l:List aZ):fnT CK 0 ql [.agg (ao t),.agg (aq r),ab aE l] []=(
 let q2:=bw t.name (ae aY t.av) (ae aJ t.uniq) t.root;
 let q3:=Rw.mk r.id (af aG (ae aG r.cells));
 let q:Hp:=[some ((ao q2),44),some ((aq q3),53)];
 let q4:=af aE (ae aE l);
 let q1:=ah 22 [(2,ab aE q4),(3,pp 0),(4,pp 1),(7,aa 0)];.bind (dL q2 q3 q4) fun y0=> .ai [St.mk (ah 22 [(2,ab aE l),(3,pp 0),(4,pp 1),(7,aa 0)]) [some ((ao t),44),some ((aq r),53)] [] =
  St.mk q1 q []] (bif y0 then .ai [aN (Env.P CK) 0 (blk Pz ql 0) (St.mk q1 q []) (Ex.exit 0) (St.mk (ah 22 []) [] [])] (dz (.bool true) [] []) else .ai [aN (Env.P CK) 0 (blk Pz ql 0) (St.mk q1 q []) Ex.ret (St.mk
  (ah 22 [(6,.bool false)]) [] [])] (dz (.bool false) [] [])):T _):=fz
theorem Dx {t:Tb} {r:Rw} {l:List aZ} (hr:iX t r) (hc:∀c∈l,ll c) (hl:l.length<=1048576):au Pz ql [.agg (ao t),.agg (aq r),ab aE l] [] ⟨.bool (dL t r l),[],[]⟩:=by
 have h:=SM hr hc hl;refine a6 (SL t r l) ?_;simp only [sz,cp.af,bP.af,cH];rintro y rfl;refine ⟨a8,fun e=>⟨.aV (h.1 e),?_⟩,fun e=>⟨.aV (h.2 e),?_⟩⟩
 ·have e':dL t r l=true:=e;rw [show dL t ⟨r.id,r.cells⟩ l=true from e'] at *;rw [e'];exact aH
 ·have e':dL t r l=false:=e;rw [e'];exact aH
abbrev ld:Nat:=3
def Cb (t:Tb) (rows:List Rw) (l:List aZ) (o:List Int) (i:Int):St:=⟨ah 32 [(1,ab aq rows),(2,ab aE l),(3,.ptr 0 0),(7,.sl 1 0 o.length false),(8,.int .i64 i)],[some (ao t,gp),some ([.aw (ae aJ o)],ld)],[]⟩
def ap7:Ex->Kp:=fun ex=>match ex with
 | .normal=>{keep:=[1,2,3,7,8]}
 | _=>{keep:=[7]}
theorem Ql (t:Tb) (rows:List Rw) (l:List aZ) (o:List Int) (i:Int):bp rG 0 ap7 (lp Pz su 0) (Cb t rows l o i)=(
 let q:=List.getD (af aq (ae aq rows)) i.toNat (Rw.mk (0:Int) []);
 let q1:List Prop:=[0<=i/\i<(rows.length:Int),td 2 i (ae aq rows)=(aq q)];
 let q2:=ae aJ o;bif decide (i<(rows.length:Int)) then .ai q1 (.bind (dL (bw t.name (ae aY t.av) (ae aJ t.uniq) t.root) (Rw.mk (Rw.id q) (af aG (ae aG (Rw.cells q)))) (af aE (ae aE
  l))) fun y0=> .ai [au (Env.P rG) 117 [.agg (ao t),.agg (aq q),ab aE l] [] (aF.mk (.bool y0) [] [])] (bif y0 then .ai q1 (.ai [0=0,List.length q2=o.length*1,o.length+1<=9223372036854775807,(o.length +
  1)*8<=140737488355328] (nz (ah 32 [(1,ab aq rows),(2,ab aE l),(3,pp 0),(7,.sl 1 0 (o.length+1) false),(8,aa (wz (i+1)))]) [some ((ao t),44),some ([.aw (ae aJ o++[aa (Rw.id q)])],3)])) else nz
  (ah 32 [(1,ab aq rows),(2,ab aE l),(3,pp 0),(7,.sl 1 0 o.length false),(8,aa (wz (i+1)))]) [some ((ao t),44),some ([.aw q2],3)])) else .done (Ex.exit 0,St.mk (ah 32 [(7,.sl 0 0 o.length false)]) [some
  ([.aw q2],3)] []):T _):=kz
theorem aL4 (t:Tb) (rows:List Rw) (l:List aZ) (n:Nat) (hn:n<rows.length):ew t (rows.take (n+1)) l=ew t (rows.take n) l++(bif dL t (rows.getD n ⟨0,[]⟩) l then [(rows.getD n ⟨0,[]⟩).id] else []):=by
 unfold ew;rw [fU ⟨0,[]⟩ hn,List.filter_append,List.map_append];congr 1;cases h:dL t (rows.getD n ⟨0,[]⟩) l
 all_goals
  simp only [List.filter,h];rfl
theorem Qq (t:Tb) (rows:List Rw) (l:List aZ):(ew t rows l).length<=rows.length:=by
 unfold ew;rw [List.length_map];exact List.length_filter_le _ _
theorem Qm {t:Tb} {rows:List Rw} {l:List aZ} (hr:∀r∈rows,iX t r) (hc:∀c∈l,ll c) (hl:l.length<=1048576) (hn:rows.length<=1048576):∀(m n:Nat),n+m=rows.length ->
  aT Tryz.prog 0 (lp Tryz.prog su 0) (Cb t rows l (ew t (rows.take n) l) n) (.exit 0) ⟨ah 32 [(7,.sl 0 0 (ew t rows l).length false)],[some ([.aw (ae aJ (ew t rows l))],ld)],[]⟩
 | 0,n,hk=>by
  have hk:n=rows.length:=hk;subst hk;rw [List.take_length];refine bZ (E:=rG) follows named (Ql t rows l (ew t rows l) (rows.length:Nat)) ?_;simp only [ba,T.WP,All,bh,bl,bg];exact ⟨fun h=>by omega,fun _=>⟨rfl,rfl⟩⟩
 | m+1,n,hk=>by
  have aD:=bI.at rows ⟨0,[]⟩ n 2 (by omega) rfl;have ih:=Qm hr hc hl hn m (n+1) (by omega);have w1:IntKind.i64.wrap ((n:Int)+1)=((n+1:Nat):Int):=bW (by omega);have cD:=Qq t (rows.take n) l;rw [List.length_take] at cD;have ha:=Dx (hr _ (bH ⟨0,[]⟩ (show n<rows.length by omega))) hc hl;rw [aL4 t rows l n (by omega)] at ih;refine bZ (E:=rG) follows named (Ql t rows l (ew t (rows.take n) l) (n:Nat)) ?_;simp only [ba,T.WP,All,bh,bl,bg,w1,bI.af,cp.af,bP.af,fa.length,cH,Int.toNat_natCast];refine ⟨fun _=>⟨⟨aB,aD⟩,?_⟩,fun h=>by omega⟩;rintro y rfl;refine ⟨ha,fun h => ?_,fun h => ?_⟩
  ·rw [show dL t (rows.getD n ⟨0,[]⟩) l=true from h,cond_true] at ih;refine ⟨⟨aB,aD⟩,aB,?_⟩;simp only [Cb,dF,aJ,List.length_append,List.length_singleton] at ih ⊢;exact ih
  ·rw [show dL t (rows.getD n ⟨0,[]⟩) l=false from h,cond_false,List.append_nil] at ih;exact ih
def ae2:Nat->St->Option b8:=fun id s=>match id,s.tm.get 1,s.tm.get 2,s.hp with
 | 0,.dsl _ _ rs,.dsl _ _ qs,some ([.str tn,.dsl _ _ cc,.dsl _ _ uu,.bool q],_)::_=>some ⟨ew (bw tn cc uu q) (af aq rs) (af aE qs),fun y=> .one {keep:=[1,2,3,7,8],eu:=[7]} (Cb (bw tn cc uu q) (af aq rs) (af aE qs) [] 0) (.exit 0) ⟨ah 32 [(7,.sl 0 0 y.length false)],[some ([.aw (ae aJ y)],ld)],[]⟩⟩
 | _,_,_,_=>none
def Ja:Env:={P:=Pz,vw:=zk,res:=ye,ls:=ae2}
theorem seT (t:Tb) (rows:List Rw) (l:List aZ):fnT Ja 0 su [.agg (ao t),ab aq rows,ab aE l] []=(
 let q3:=af aq (ae aq rows);
 let q4:=af aE (ae aE l);
 let q:=ah 32 [(1,ab aq q3),(2,ab aE q4),(3,pp 0),(7,.sl 1 0 0 false),(8,aa 0)];
 let q1:=bw t.name (ae aY t.av) (ae aJ t.uniq) t.root;
 let q2:Hp:=[some ((ao q1),44),some ([.aw []],3)];.bind (ew q1 q3 q4) fun y0=> .ai [St.mk (ah 32 [(1,ab aq rows),(2,ab aE l),(3,pp 0),(7,.sl 1 0 0 false),(8,aa 0)]) [some ((ao t),44),some ([.aw
  []],3)] []=St.mk q q2 [],aN (Env.P Ja) 0 (blk Pz su 0) (St.mk q q2 []) (Ex.exit 0) (St.mk (ah 32 [(7,.sl 0 0 y0.length false)]) [some ([.aw (ae aJ y0)],3)] [])] (dz (ab aJ y0) [] []):T _):=fz
theorem aL3 {t:Tb} {rows:List Rw} {l:List aZ} (hr:∀r∈rows,iX t r) (hc:∀c∈l,ll c) (hl:l.length<=1048576) (hn:rows.length<=1048576):au Pz su [.agg (ao t),ab aq rows,ab aE l] [] ⟨ab aJ (ew t rows l),[],[]⟩:=by
 have h:=Qm hr hc hl hn rows.length 0 ag;refine a6 (seT t rows l) ?_;simp only [sz,cp.af,bI.af,cH];rintro y rfl;exact ⟨⟨a8,.aV h⟩,aH⟩
abbrev nQ:Nat:=277
abbrev nS:Nat:=258
def numsW (f b:Int):aQ->aQ->Option aQ
 | [],out=>some out
 | a::t,out=>bif (ik f a.n b).2 then numsW f b t (eH out ⟨1,(ik f a.n b).1,[]⟩) else none
def pR (d:aQ) (m:Mt):Option aQ:=bif m.func==6 then some (joinF d m.val) else bif m.func==7 then some (dP d m.val) else numsW m.func (m.val.getD 0 .zero).n d []
def fb (c:aL) (d:aQ) (m:Mt):aQ×Int:=match pR d m with
 | none=>([],4)
 | some v=>bif dn c v != 0 then ([],dn c v) else (v,0)
structure rJ (m:Mt):Prop where
 n:m.val.length<=1000
 f:m.func=6\/m.func=7\/m.val≠[]
def wb (c:aL) (m:Mt) (d o:aQ) (i:Int):St:=⟨ah 65 [(1,ab aj d),(3,.ptr 0 0),(5,.ptr 1 0),(8,ab aj o),(9,.int .i64 i)],[some (aY c,ze),some (bR m,Cq)],[]⟩
def an3:Ex->Kp:=fun ex=>match ex with
 | .normal=>{keep:=[1,3,5,8,9]}
 | .ret=>{keep:=[6,7],perm:=some ([],[])}
 | _=>{keep:=[3,8]}
theorem N8 (c:aL) (m:Mt) (d o:aQ) (i:Int):bp fp 0 an3 (lp Pz nQ 1) (wb c m d o i)=(
 let q2:=At.mk (0:Int) (0:Int) [];
 let q:=List.getD (af aj (ae aj d)) i.toNat q2;
 let q1:=List.getD (af aj (ae aj m.val)) 0 q2;bif decide (i<(d.length:Int)) then .ai [0<=i/\i<(d.length:Int),td 3 i (ae aj d)=aj q] (.ai [(0:Int)<=0/\(0:Int)<(m.val.length:Int),List.take 3
  (List.drop 0 (ae aj m.val))=aj q1] (.bind (ik m.func (At.n q) (At.n q1)) fun y0=> .ai [au (Env.P fp) 286 [aa m.func,aa (At.n q),aa (At.n q1)] [] (aF.mk (.tup [aa y0.1,.bool y0.2]) [] [])] (bif !y0.2 then .done
  (Ex.ret,St.mk (ah 65 [(6,.dsl 0 false []),(7,aa 4)]) [] []) else .bind (eH (af aj (ae aj o)) (At.mk (1:Int) y0.1 [])) fun y1=> .ai [au (Env.P fp) 186 [ab aj o,.agg [aa 1,aa y0.1,.str []]] []
  (aF.mk (ab aj y1) [] [])] (nz (ah 65 [(1,ab aj d),(3,pp 0),(5,pp 1),(8,ab aj y1),(9,aa (wz (i+1)))]) [some (aY c,85),some ((aE m),241)])))) else .done (Ex.exit 1,St.mk (ah 65 [(3,pp 0),(8,ab
  aj o)]) [some (aY c,85)] []):T _):=kz
def N9 (c:aL) (o:aQ):St:=⟨ah 65 [(3,.ptr 0 0),(8,ab aj o)],[some (aY c,ze)],[]⟩
def GQ:St:=⟨ah 65 [(6,.dsl 0 false []),(7,.int .i64 4)],[],[]⟩
theorem Oa (c:aL) (m:Mt) (d:aQ) (hm:m.val≠[]) (hd:d.length<=1000):∀(k i:Nat) (o:aQ),i+k=d.length->o.length<=i ->
  (∀out,numsW m.func (m.val.getD 0 .zero).n (d.drop i) o=some out->aT Tryz.prog 0 (lp Tryz.prog nQ 1) (wb c m d o i) (.exit 1) (N9 c out)) /\
  (numsW m.func (m.val.getD 0 .zero).n (d.drop i) o=none->aT Tryz.prog 0 (lp Tryz.prog nQ 1) (wb c m d o i) .ret GQ)
 | 0,i,o,hi,ho=>by
  have hi:i=d.length:=hi
  subst hi
  rw [List.drop_length]
  refine ⟨fun out h => ?_,fun h=>by simp [numsW] at h⟩
  have h':o=out:=by simpa [numsW] using h
  subst h'
  refine bZ (E:=fp) follows named (N8 c m d o (d.length:Nat)) ?_
  simp only [ba,T.WP,All,bh,bl,bg]
  exact ⟨fun h=>by omega,fun _=>⟨rfl,rfl⟩⟩
 | k+1,i,o,hi,ho=>by
  have aD:=bu.at d ⟨0,0,[]⟩ i 3 (by omega) rfl
  have fN:0<m.val.length:=List.length_pos_iff.2 hm
  have cB:=bu.at m.val ⟨0,0,[]⟩ 0 3 fN rfl
  rw [Nat.zero_mul] at cB
  have hp:=qk o ⟨1,(ik m.func (d.getD i ⟨0,0,[]⟩).n (m.val.getD 0 .zero).n).1,[]⟩
  have ih:=Oa c m d hm hd k (i+1) (eH o ⟨1,(ik m.func (d.getD i ⟨0,0,[]⟩).n (m.val.getD 0 .zero).n).1,[]⟩) (by omega) (by omega)
  have w1:IntKind.i64.wrap ((i:Int)+1)=((i+1:Nat):Int):=bW (by omega)
  have hn:=as7 m.func (d.getD i ⟨0,0,[]⟩).n (m.val.getD 0 ⟨0,0,[]⟩).n
  rw [iE ⟨0,0,[]⟩ (show i<d.length by omega),numsW]
  have hz:(m.val.getD 0 .zero).n=(m.val.getD 0 ⟨0,0,[]⟩).n:=rfl
  rw [hz] at ih ⊢
  have key:(∀ {ex:Ex} {s':St},((ik m.func (d.getD i ⟨0,0,[]⟩).n (m.val.getD 0 ⟨0,0,[]⟩).n).2=true->aT Tryz.prog 0 (lp Tryz.prog nQ 1) (wb c m d (eH o ⟨1,(ik m.func (d.getD i ⟨0,0,[]⟩).n (m.val.getD 0 ⟨0,0,[]⟩).n).1,[]⟩) ((i+1:Nat):Int)) ex s')->((ik m.func (d.getD i ⟨0,0,[]⟩).n (m.val.getD 0 ⟨0,0,[]⟩).n).2=false->Ex.ret=ex/\GQ=s')->aT Tryz.prog 0 (lp Tryz.prog nQ 1) (wb c m d o i) ex s'):=by
   intro ex s' h1 h2
   refine bZ (E:=fp) follows named (N8 c m d o (i:Nat)) ?_
   simp only [ba,T.WP,All,bh,bl,bg,w1,bu.af,Int.toNat_natCast]
   refine ⟨fun _=>⟨⟨aB,aD⟩,⟨aB,cB⟩,?_⟩,fun h=>by omega⟩
   rintro y rfl
   refine ⟨hn,fun h=>h2 ((Bool.not_eq_true' _).mp h),fun h => ?_⟩
   rintro z rfl
   exact ⟨BC o _ (by omega),h1 ((Bool.not_eq_false' _).mp h)⟩
  generalize ik m.func (d.getD i ⟨0,0,[]⟩).n (m.val.getD 0 ⟨0,0,[]⟩).n=w at *
  cases hw:w.2
  ·simp only [cond_false]
   refine ⟨(fun out h=>by cases h),fun _=>key (fun h=>by rw [hw] at h;cases h) (fun _=>⟨rfl,rfl⟩)⟩
  ·simp only [cond_true]
   exact ⟨fun out h=>key (fun _=>ih.1 out h) (fun h=>by rw [hw] at h;cases h),fun h=>key (fun _=>ih.2 h) (fun h=>by rw [hw] at h;cases h)⟩
def ac0:Nat->St->Option b8:=fun id s=>match id,s.tm.get 1,s.hp with
 | 1,.dsl _ _ ds,some ([.str nm,.int _ a,.int _ b,.int _ e,.int _ g,.int _ h,.str r,.bool q],_)::some ([.str co,.int _ fn,.dsl _ _ va],_)::_=>
  some ⟨numsW fn ((af aj va).getD 0 .zero).n (af aj ds) [],fun y=> .two {keep:=[1,3,5,8,9],perm:=some ([0,1],[])} (wb ⟨nm,a,b,e,g,h,r,q⟩ ⟨co,fn,af aj va⟩ (af aj ds) [] 0) y.isSome (.exit 1) (N9 ⟨nm,a,b,e,g,h,r,q⟩ (y.getD [])) .ret GQ⟩
 | _,_,_=>none
def oO:Env:={P:=Pz,vw:=zk,res:=ye,ls:=ac0}
theorem muT (c:aL) (d:aQ) (m:Mt):fnT oO 0 nQ [.agg (aY c),ab aj d,.agg (bR m)] []=(
 let q:=aL.mk c.name c.kind c.min c.max c.low c.high c.ref c.fF;
 let q4:=af aj (ae aj d);
 let q3:=ah 65 [(1,ab aj q4),(3,pp 0),(5,pp 1),(8,.dsl 0 false []),(9,aa 0)];
 let q2:=af aj (ae aj m.val);
 let q5:Hp:=[some (aY q,85),some ((aE (aZ.mk m.aC m.func q2)),241)];
 let q1:=St.mk q3 q5 [];bif m.func==6 then .bind (joinF q4 q2) fun y0=> .ai [au (Env.P oO) 285 [ab aj d,ab aj m.val] [] (aF.mk (ab aj y0) [] [])] (.bind (dn q (af aj (ae aj y0))) fun y1=> .ai
  [au (Env.P oO) 191 [.agg (aY c),ab aj y0] [] (aF.mk (aa y1) [] [])] (bif y1 != 0 then dz (.tup [.dsl 0 false [],aa y1]) [] [] else dz (.tup [ab aj y0,aa 0]) [] [])) else bif m.func==7 then .bind (dP q4 q2)
  fun y2=> .ai [au (Env.P oO) 243 [ab aj d,ab aj m.val] [] (aF.mk (ab aj y2) [] [])] (.bind (dn q (af aj (ae aj y2))) fun y3=> .ai [au (Env.P oO) 191 [.agg (aY c),ab aj y2] [] (aF.mk
  (aa y3) [] [])] (bif y3 != 0 then dz (.tup [.dsl 0 false [],aa y3]) [] [] else dz (.tup [ab aj y2,aa 0]) [] [])) else .bind (numsW m.func (At.n (List.getD q2 0 (At.mk (0:Int) (0:Int) []))) q4 []) fun y4=>
 let q6:=Option.getD y4 [];.ai [St.mk (ah 65 [(1,ab aj d),(3,pp 0),(5,pp 1),(8,.dsl 0 false []),(9,aa 0)]) [some (aY c,85),some ((aE m),241)] []=St.mk q3 q5 []] (bif Option.isSome y4 then .ai [aN
  (Env.P oO) 0 (blk Pz nQ 1) q1 (Ex.exit 1) (St.mk (ah 65 [(3,pp 0),(8,ab aj q6)]) [some (aY q,85)] [])] (.bind (dn (aL.mk (aL.name q) (aL.kind q) (aL.min q) (aL.max q) (aL.low q) (aL.high q) (aL.ref q)
  (aL.fF q)) (af aj (ae aj q6))) fun y5=> .ai [au (Env.P oO) 191 [.agg (aY q),ab aj q6] [] (aF.mk (aa y5) [] [])] (bif y5 != 0 then dz (.tup [.dsl 0 false [],aa y5]) [] [] else dz (.tup [ab aj q6,
  aa 0]) [] [])) else .ai [aN (Env.P oO) 0 (blk Pz nQ 1) q1 Ex.ret (St.mk (ah 65 [(6,.dsl 0 false []),(7,aa 4)]) [] [])] (dz (.tup [.dsl 0 false [],aa 4]) [] [])):T _):=kz
theorem MS:∀(b a:aQ),(joinF a b).length<=a.length+b.length
 | [],a=>Nat.le_refl _
 | x::b,a=>by
  rw [joinF];have:=MS b (eH a x);have:=qk a x;simp only [List.length_cons];omega
theorem Oc (f b:Int):∀(d o out:aQ),numsW f b d o=some out->out.length<=o.length+d.length
 | [],o,out,h=>by
  have:o=out:=by simpa [numsW] using h
  subst this;simp
 | a::d,o,out,h=>by
  rw [numsW] at h;cases hw:(ik f a.n b).2
  ·rw [hw] at h;cases h
  ·rw [hw,cond_true] at h;have:=Oc f b d _ out h;have:=qk o ⟨1,(ik f a.n b).1,[]⟩;simp only [List.length_cons];omega
theorem aj0 {c:aL} {d:aQ} {m:Mt} (hd:d.length<=1000) (hm:rJ m):au Pz nQ [.agg (aY c),ab aj d,.agg (bR m)] [] ⟨.tup [ab aj (fb c d m).1,.int .i64 (fb c d m).2],[],[]⟩:=by
 have FM:=hm.n
 refine a6 (muT c d m) ?_
 simp only [sz,bu.af]
 have fin:∀v:aQ,v.length<=1048576->pR d m=some v->∀y:Int,y=dn c v->au oO.P pa [.agg (aY c),.dsl v.length false (ae aj v)] [] ⟨.int .i64 y,[],[]⟩ /\
   ((y != 0)=true->wP ⟨.tup [.dsl 0 false [],.int .i64 y],[],[]⟩ ⟨.tup [ab aj (fb c d m).1,.int .i64 (fb c d m).2],[],[]⟩) /\
   ((y != 0)=false->wP ⟨.tup [.dsl v.length false (ae aj v),.int .i64 0],[],[]⟩ ⟨.tup [ab aj (fb c d m).1,.int .i64 (fb c d m).2],[],[]⟩):=by
  rintro v hv hV y rfl
  refine ⟨E8 c v hv,fun h => ?_,fun h => ?_⟩
  ·unfold fb;rw [hV];dsimp only;rw [h];exact aH
  ·unfold fb;rw [hV];dsimp only;rw [h];exact aH
 refine ⟨fun h6 => ?_,fun h6=>⟨fun h7 => ?_,fun h7 => ?_⟩⟩
 ·rintro v rfl
  refine ⟨ZM d m.val hd FM,?_⟩
  have:=MS m.val d
  exact fin _ ag (by unfold pR;rw [h6];rfl)
 ·rintro v rfl
  refine ⟨GA d m.val ag ag,?_⟩
  exact fin _ (Nat.le_trans (List.length_filter_le _ _) ag) (by unfold pR;rw [h7];rfl)
 ·have hv:m.val≠[]:=by
   rcases hm.f with h | h | h
   ·exact absurd h h6
   ·exact absurd h h7
   ·exact h
  have hl:=Oa c m d hv hd d.length 0 [] ag (Nat.le_refl _)
  rw [List.drop_zero] at hl
  have hV:pR d m=numsW m.func (m.val.getD 0 .zero).n d []:=by
   unfold pR
   rw [show (m.func==6)=false by simpa using h6,show (m.func==7)=false by simpa using h7];rfl
  rintro y e
  have e:y=numsW m.func (m.val.getD 0 .zero).n d []:=e
  rw [<- e] at hl hV
  refine ⟨a8,fun hs => ?_,fun hs => ?_⟩
  ·obtain ⟨v,rfl⟩:=Option.isSome_iff_exists.1 hs
   have hlen:=Oc _ _ d [] v e.symm
   simp only [List.length_nil,Option.getD_some] at hlen ⊢
   exact ⟨.aV (hl.1 v rfl),fin v ag hV⟩
  ·have hy:y=none:=by simpa using hs
   subst hy
   refine ⟨.aV (hl.2 rfl),?_⟩
   unfold fb;rw [hV];exact aH
def BM:cy:=fun f vs hp=>match vs,hp with
 | [.agg [.int _ d,.dsl n _ cs]],[]=>bif Nat.beq f ly then some ⟨(),fun _=>⟨.agg [.int .i64 d,.dsl n false cs],[],[]⟩⟩ else none
 | _,_=>none
def rn (x:aA) (D:List (List Rw)) (l:List Rw) (i k:Int):St:=⟨ah 48 [(1,.ptr 0 0),(2,.ptr 1 0),(3,.ptr 2 0),(4,.int .i64 i),(5,.sl 3 0 l.length false),(6,.int .i64 k)],
 [some (aM x,da),some ([.dsl 0 true [],.int .i64 0],da),some ([.sl 4 0 D.length false,.int .i64 x.next],da),some ([.aw (ae aq l)],eb),some ([.aw (ae az D)],ez)],[]⟩
def ao0:Ex->Kp:=fun _=>{keep:=[1,2,3,4,5,6]}
def zA:Env:={P:=Pz,vw:=gi,res:=BM}
theorem Oq (x:aA) (D:List (List Rw)) (l:List Rw) (i k:Int):bp zA 0 ao0 (lp Pz eT 2) (rn x D l i k)=(
 let q1:=List.getD (af az (ae az x.ak)) i.toNat [];
 let q:=List.getD (af aq (ae aq q1)) k.toNat (Rw.mk (0:Int) []);
 let q2:List Prop:=[0<=i/\i<(x.ak.length:Int),td 1 i (ae az x.ak)=[ab aq q1]];
 let q3:List V:=[.sl 4 0 D.length false,aa x.next];.ai q2 (bif decide (k<(↑(List.length q1):Int)) then .ai q2 (.ai [0<=k/\k<(↑(List.length q1):Int),td 2 k (ae aq q1)=[aa (Rw.id q),ab aG (Rw.cells q)]]
  (.bind PUnit.unit fun _=> .ai [au (Env.P zA) 154 [.agg [aa (Rw.id q),ab aG (Rw.cells q)]] [] (aF.mk (.agg [aa (Rw.id q),ab aG (Rw.cells q)]) [] [])] (.ai [0=0,List.length (ae aq l)=l.length*2,
  l.length+1<=9223372036854775807,(l.length+1)*32<=140737488355328] (nz (ah 48 [(1,pp 0),(2,pp 1),(3,pp 2),(4,aa i),(5,.sl 3 0 (l.length+1) false),(6,aa (wz (k+1)))]) [some ((aM x),29),some ([.dsl 0 true
  [],aa 0],29),some (q3,29),some ([.aw (ae aq l++[aa (Rw.id q),ab aG (Rw.cells q)])],53),some ([.aw (ae az D)],46)])))) else .done (Ex.exit 2,St.mk (ah 48 [(1,pp 0),(2,pp 1),(3,pp 2),(4,aa i),
  (5,.sl 3 0 l.length false),(6,aa k)]) [some ((aM x),29),some ([.dsl 0 true [],aa 0],29),some (q3,29),some ([.aw (ae aq l)],53),some ([.aw (ae az D)],46)] [])):T _):=fz
theorem Ot {x:aA} (hx:lq x) (D:List (List Rw)) (i:Nat) (hi:i<x.ak.length):∀(n k:Nat),k+n=(x.ak.getD i []).length ->
  aT Tryz.prog 0 (lp Tryz.prog eT 2) (rn x D ((x.ak.getD i []).take k) i k) (.exit 2) (rn x D (x.ak.getD i []) i (x.ak.getD i []).length)
 | 0,k,hk=>by
  have aD:=bB.at x.ak [] i 1 hi rfl;obtain rfl:k=(x.ak.getD i []).length:=hk;rw [List.take_length];refine bZ (E:=zA) follows named (Oq x D (x.ak.getD i []) i ((x.ak.getD i []).length:Nat)) ?_;simp only [ba,T.WP,All,bh,bl,bg,bB.af,Int.toNat_natCast];exact ⟨⟨aB,aD⟩,fun h=>by omega,fun _=>⟨rfl,rfl⟩⟩
 | n+1,k,hk=>by
  have aD:=bB.at x.ak [] i 1 hi rfl;have hm:=bH [] hi;have ht:=hx.t _ hm;have ih:=Ot hx D i hi n (k+1) (by omega);generalize pF:x.ak.getD i []=rows at *;have cB:=bI.at rows ⟨0,[]⟩ k 2 (by omega) rfl;have hr:=hx.r _ hm _ (bH ⟨0,[]⟩ (show k<rows.length by omega));have w1:IntKind.i64.wrap ((k:Int)+1)=((k+1:Nat):Int):=bW (by omega);have hl:(rows.take k).length=k:=by rw [List.length_take];omega
  refine bZ (E:=zA) follows named (Oq x D (rows.take k) i (k:Nat)) ?_;simp only [ba,T.WP,All,bh,bl,bg,w1,bB.af,bI.af,Int.toNat_natCast,pF,hl,bI.length];refine ⟨⟨aB,aD⟩,fun _=>⟨⟨aB,aD⟩,⟨aB,cB⟩,?_⟩,fun h=>by omega⟩;rintro _ -;refine ⟨x5 _ hr,aB,?_⟩;rw [fU ⟨0,[]⟩ (show k<rows.length by omega)] at ih;simp only [rn,dF,aq,ab,List.length_append,List.length_singleton,hl] at ih ⊢;exact ih
def wi (x:aA) (D:List (List Rw)) (i:Int):St:=⟨ah 48 [(1,.ptr 0 0),(2,.ptr 1 0),(3,.ptr 2 0),(4,.int .i64 i)],
 [some (aM x,da),some ([.dsl 0 true [],.int .i64 0],da),some ([.sl 3 0 D.length false,.int .i64 x.next],da),some ([.aw (ae az D)],ez)],[]⟩
def an9:Ex->Kp:=fun ex=>match ex with
 | .normal=>{keep:=[1,2,3,4],perm:=some ([0,1,2,6],[3])}
 | _=>{keep:=[1,2,3,4]}
def ac5:Nat->St->Option b8:=fun id s=>match id,s.tm.get 4,s.hp with
 | 2,.int _ i,some ([.dsl _ _ cs,.int _ nx],_)::_=>some ⟨(),fun _=> .one {keep:=[1,2,3,4,5,6],eu:=[5]}
   (rn ⟨af az cs,nx⟩ ((af az cs).take i.toNat) [] i 0) (.exit 2) (rn ⟨af az cs,nx⟩ ((af az cs).take i.toNat) ((af az cs).getD i.toNat []) i ((af az cs).getD i.toNat []).length)⟩
 | _,_,_=>none
def zy:Env:={P:=Pz,vw:=gi,res:=BM,ls:=ac5}
theorem Oo (x:aA) (D:List (List Rw)) (i:Int):bp zy 0 an9 (lp Pz eT 0) (wi x D i)=(
 let q:=af az (ae az x.ak);
 let q5:=aA.mk q x.next;
 let q4:List V:=[.dsl 0 true [],aa 0];
 let q3:=List.take i.toNat q;
 let q7:List V:=[.sl 4 0 (List.length q3) false,aa (aA.next q5)];
 let q8:=ae az q3;
 let q1:Hp:=[some ((aM q5),29),some (q4,29),some (q7,29),some ([.aw []],53),some ([.aw q8],46)];
 let q2:=ah 48 [(1,pp 0),(2,pp 1),(3,pp 2),(4,aa i),(5,.sl 3 0 0 false),(6,aa 0)];
 let q6:=List.getD q i.toNat [];bif decide (i<(x.ak.length:Int)) then .bind PUnit.unit fun _=> .ai [St.mk q2 [some ((aM x),29),some (q4,29),some ([.sl 4 0 D.length false,aa x.next],29),some ([.aw []],53),some
  ([.aw (ae az D)],46)] []=St.mk q2 q1 [],aN (Env.P zy) 0 (blk Pz eT 2) (St.mk q2 q1 []) (Ex.exit 2) (St.mk (ah 48 [(1,pp 0),(2,pp 1),(3,pp 2),(4,aa i),(5,.sl 3 0 (List.length q6) false),(6,aa
  (↑(List.length q6):Int))]) [some ((aM q5),29),some (q4,29),some (q7,29),some ([.aw (ae aq q6)],53),some ([.aw q8],46)] [])] (.ai [0=0,List.length q8=List.length q3*1,List.length q3+1 <=
  9223372036854775807,(List.length q3+1)*24<=140737488355328] (nz (ah 48 [(1,pp 0),(2,pp 1),(3,pp 2),(4,aa (wz (i+1)))]) [some ((aM q5),29),some (q4,29),some ([.sl 3 0 (List.length q3+1) false,aa (aA.next
  q5)],29),some ([.aw (ae az q3++[ab aq q6])],46)])) else .done (Ex.exit 0,St.mk (ah 48 [(1,pp 0),(2,pp 1),(3,pp 2),(4,aa i)]) [some ((aM x),29),some (q4,29),some ([.sl 3 0 D.length false,aa x.next],
  29),some ([.aw (ae az D)],46)] []):T _):=kz
theorem GV {x:aA} (hx:lq x):∀(n i:Nat),i+n=x.ak.length ->
  aT Tryz.prog 0 (lp Tryz.prog eT 0) (wi x (x.ak.take i) i) (.exit 0) (wi x x.ak x.ak.length)
 | 0,i,hi=>by
  obtain rfl:i=x.ak.length:=hi;rw [List.take_length];refine bZ (E:=zy) follows named (Oo x x.ak (x.ak.length:Nat)) ?_;simp only [ba,T.WP,All,bh,bl,bg];exact ⟨fun h=>by omega,fun _=>⟨rfl,rfl⟩⟩
 | n+1,i,hi=>by
  have hn:=hx.n;have ih:=GV hx n (i+1) (by omega);have hl:=Ot hx (x.ak.take i) i (by omega) (x.ak.getD i []).length 0 (by omega);have w1:IntKind.i64.wrap ((i:Int)+1)=((i+1:Nat):Int):=bW (by omega);have hle:(x.ak.take i).length=i:=by rw [List.length_take];omega
  refine bZ (E:=zy) follows named (Oo x (x.ak.take i) (i:Nat)) ?_;simp only [ba,T.WP,All,bh,bl,bg,w1,bB.af,Int.toNat_natCast,bB.length,hle];refine ⟨fun _ => ?_,fun h=>by omega⟩;rintro _ -;rw [rn,rn,List.take_zero,hle] at hl;refine ⟨⟨a8,.aV hl⟩,aB,?_⟩;rw [fU [] (show i<x.ak.length by omega)] at ih;simp only [wi,dF,az,encS,ab,List.length_append,List.length_singleton,hle] at ih ⊢;exact ih
def ac4:Nat->St->Option b8:=fun id s=>match id,s.hp with
 | 0,some ([.dsl _ _ cs,.int _ nx],_)::_=>some ⟨(),fun _=> .one {keep:=[1,2,3,4],lI:=[(3,0)]} (wi ⟨af az cs,nx⟩ [] 0) (.exit 0) (wi ⟨af az cs,nx⟩ (af az cs) (af az cs).length)⟩
 | _,_=>none
def zx:Env:={P:=Pz,vw:=gi,res:=fun _ _ _=>none,ls:=ac4}
theorem at2 (x:aA):fnT zx 0 eT [.agg (aM x)] []=(
 let q:=af az (ae az x.ak);
 let q3:=aA.mk q x.next;
 let q4:List V:=[.dsl 0 true [],aa 0];
 let q1:Hp:=[some ((aM q3),29),some (q4,29),some ([.sl 3 0 0 false,aa (aA.next q3)],29),some ([.aw []],46)];
 let q2:=ah 48 [(1,pp 0),(2,pp 1),(3,pp 2),(4,aa 0)];.bind PUnit.unit fun _=> .ai [St.mk q2 [some ((aM x),29),some (q4,29),some ([.sl 3 0 0 false,aa x.next],29),some ([.aw []],46)] []=St.mk q2 q1 [],
  aN (Env.P zx) 0 (blk Pz eT 0) (St.mk q2 q1 []) (Ex.exit 0) (St.mk (ah 48 [(1,pp 0),(2,pp 1),(3,pp 2),(4,aa (↑(List.length q):Int))]) [some ((aM q3),29),some (q4,29),some ([.sl 3 0 (List.length q) false,aa
  (aA.next q3)],29),some ([.aw (ae az q)],46)] [])] (dz (.agg [ab az q,aa (aA.next q3)]) [] []):T _):=fz
theorem at3 (x:aA):fnT zx 1 eT [.agg (aM x)] []=(
 let q:=af az (ae az x.ak);
 let q3:=aA.mk q x.next;
 let q4:List V:=[.dsl 0 true [],aa 0];
 let q1:Hp:=[some ((aM q3),29),some (q4,29),some ([.sl 3 0 0 false,aa (aA.next q3)],29),some ([.aw []],46)];
 let q2:=ah 48 [(1,pp 0),(2,pp 1),(3,pp 2),(4,aa 0)];
 let q5:=List.length q;.bind PUnit.unit fun _=> .ai [St.mk q2 [some ((aM x),29),some (q4,29),some ([.sl 3 0 0 false,aa x.next],29),some ([.aw []],46)] []=St.mk q2 q1 [],aN (Env.P zx) 0 (blk Pz eT 0) (St.mk
  q2 q1 []) (Ex.exit 0) (St.mk (ah 48 [(1,pp 0),(2,pp 1),(3,pp 2),(4,aa (↑q5:Int))]) [some ((aM q3),29),some (q4,29),some ([.sl 3 0 q5 false,aa (aA.next q3)],29),some ([.aw (ae az q)],46)] [])] (dz (.agg
  [.sl 0 0 q5 false,aa (aA.next q3)]) [some ([.aw (ae az q)],46)] []):T _):=fz
theorem Ha {x:aA} (hx:lq x):au Pz eT [.agg (aM x)] [] ⟨.agg (aM x),[],[]⟩:=by
 refine a6 (at2 x) ?_;simp only [sz,bB.af];have hl:=GV hx x.ak.length 0 ag;rintro _ -;exact ⟨⟨a8,.aV hl⟩,aH⟩
theorem OO {x:aA} (hx:lq x):au Pz eT [.agg (aM x)] [] ⟨.agg [.sl 0 0 x.ak.length false,.int .i64 x.next],[some ([.aw (ae az x.ak)],ez)],[]⟩:=by
 refine a6 (at3 x) ?_;simp only [sz,bB.af];have hl:=GV hx x.ak.length 0 ag;rintro _ -;exact ⟨⟨a8,.aV hl⟩,aH⟩
abbrev uL:Nat:=102
def we (S:aO) (i:Nat) (n:Int):St:=⟨ah 21 [(1,.ptr 0 0),(2,.ptr 1 0),(3,.ptr 2 0),(4,.int .i64 n)],
 [some ([ab ao S],rB),some ([.dsl 0 true [],.int .i64 0],da),some ([.sl 3 0 i false,.int .i64 1],da),some ([.aw (ae az (List.replicate i []))],ez)],[]⟩
def an4:Ex->Kp:=fun ex=>match ex with
 | .normal=>{keep:=[1,2,3,4],perm:=some ([0,1,2,6],[3])}
 | _=>{keep:=[1,2,3,4]}
theorem Od (S:aO) (i:Nat) (n:Int):bp oM 0 an4 (lp Pz uL 0) (we S i n)=(
 let q:=List.replicate i [];bif decide (n<(S.length:Int)) then .ai [0=0,List.length (ae az q)=i*1,i+1<=9223372036854775807,(i+1)*24<=140737488355328] (nz (ah 21 [(1,pp 0),(2,pp 1),(3,pp 2),(4,aa
  (wz (n+1)))]) [some ([ab ao S],25),some ([.dsl 0 true [],aa 0],29),some ([.sl 3 0 (i+1) false,aa 1],29),some ([.aw (ae az q++[.dsl 0 false []])],46)]) else .done (Ex.exit 0,St.mk (ah 21 [(1,pp 0),(2,pp
  1),(3,pp 2),(4,aa n)]) [some ([ab ao S],25),some ([.dsl 0 true [],aa 0],29),some ([.sl 3 0 i false,aa 1],29),some ([.aw (ae az q)],46)] []):T _):=kz
theorem Oe (S:aO) (hS:S.length<=1048576):∀(k i:Nat),i+k=S.length->aT Pz 0 (lp Pz uL 0) (we S i (i:Nat)) (.exit 0) (we S S.length (S.length:Nat))
 | 0,i,hi=>by
  obtain rfl:i=S.length:=hi;refine bt (Od S S.length (S.length:Nat)) ?_;simp only [sz];exact ⟨fun h=>ag,fun _=>⟨rfl,rfl⟩⟩
 | k+1,i,hi=>by
  have ih:=Oe S hS k (i+1) ag;have w1:=cX i;refine bt (Od S i (i:Nat)) ?_;simp only [sz,w1,bB.length,List.length_replicate];refine ⟨fun _=>⟨aB,?_⟩,fun h=>ag⟩;simp only [we,List.replicate_succ',dF,az,encS,ab] at ih ⊢;exact ih
def ac1:Nat->St->Option b8:=fun id s=>match id,s.hp with
 | 0,some ([.dsl _ _ cs],_)::_=>some ⟨(),fun _=> .one {keep:=[1,2,3,4],lI:=[(3,0)]} (we (af ao cs) 0 0) (.exit 0) (we (af ao cs) (af ao cs).length ((af ao cs).length:Nat))⟩
 | _,_=>none
def IZ:Env:={P:=Pz,vw:=gi,res:=fun _ _ _=>none,ls:=ac1}
theorem nwT (S:aO):fnT IZ 0 uL [.agg [ab ao S]] []=(
 let q:=af ao (ae ao S);
 let q4:List V:=[.dsl 0 true [],aa 0];
 let q1:Hp:=[some ([ab ao q],25),some (q4,29),some ([.sl 3 0 0 false,aa 1],29),some ([.aw []],46)];
 let q2:=ah 21 [(1,pp 0),(2,pp 1),(3,pp 2),(4,aa 0)];
 let q3:=List.length q;
 let q5:=ae az (List.replicate q3 []);.bind PUnit.unit fun _=> .ai [St.mk q2 [some ([ab ao S],25),some (q4,29),some ([.sl 3 0 0 false,aa 1],29),some ([.aw []],46)] []=St.mk q2 q1 [],aN (Env.P IZ) 0 (blk
  Pz uL 0) (St.mk q2 q1 []) (Ex.exit 0) (St.mk (ah 21 [(1,pp 0),(2,pp 1),(3,pp 2),(4,aa (↑q3:Int))]) [some ([ab ao q],25),some (q4,29),some ([.sl 3 0 q3 false,aa 1],29),some ([.aw q5],46)] [])] (dz (.agg
  [.dsl q3 false q5,aa 1]) [] []):T _):=fz
theorem ak5 {S:aO} (hS:S.length<=1048576):au Pz uL [.agg [ab ao S]] [] ⟨.agg (aM (la S)),[],[]⟩:=by
 have hl:=Oe S hS S.length 0 ag;refine a6 (nwT S) ?_;simp only [sz,bN.af];rintro _ -;refine ⟨⟨a8,.aV hl⟩,?_⟩;have e:(S.map fun _=>([]:List Rw))=List.replicate S.length []:=by rw [List.map_const']
 unfold la;rw [e];simp only [aM,ab,List.length_replicate];exact aH
abbrev uP:Nat:=131
abbrev uB:Nat:=139
def yR (X:List (List Rw)) (nx:Int) (rows:List Rw) (r:Rw) (t k:Int):St:=⟨ah 70 [(1,.int .i64 t),(3,.ptr 0 0),(5,.ptr 1 0),(6,.ptr 2 0),(7,ab aq rows),(8,.int .i64 k)],
 [some ([.sl 3 0 X.length false,.int .i64 nx],da),some (aq r,eb),some ([.dsl 0 true [],.int .i64 0],da),some ([.aw (ae az X)],ez)],[]⟩
def ao9:Ex->Kp:=fun _=>{keep:=[1,3,5,6,7,8]}
def PW:cy:=fun f vs _=>
 bif Nat.beq f eT then (match vs with | [.agg [.dsl _ _ ts,.int _ nx]]=>some ⟨(),fun _=>⟨.agg [.sl 0 0 (af az ts).length false,.int .i64 nx],[some ([.aw (ae az (af az ts))],ez)],[]⟩⟩ | _=>none) else
 bif Nat.beq f ly then (match vs with | [.agg [.int _ d,.dsl n _ cs]]=>some ⟨(),fun _=>⟨.agg [.int .i64 d,.dsl n false cs],[],[]⟩⟩ | _=>none) else none
def wG:Env:={P:=Pz,vw:=gi,res:=PW}
theorem Ph (X:List (List Rw)) (nx:Int) (rows:List Rw) (r:Rw) (t k:Int):bp wG 0 ao9 (lp Pz uP 0) (yR X nx rows r t k)=(
 let q:Hp:=[some ([.sl 3 0 X.length false,aa nx],29),some ((aq r),53),some ([.dsl 0 true [],aa 0],29),some ([.aw (ae az X)],46)];
 let q1:=ah 70 [(1,aa t),(3,pp 0),(5,pp 1),(6,pp 2),(7,ab aq rows),(8,aa k)];
 let q2:=List.getD (af aq (ae aq rows)) k.toNat (Rw.mk (0:Int) []);bif decide (k<(rows.length:Int)) then .ai [0<=k/\k<(rows.length:Int),td 2 k (ae aq rows)=(aq q2)] (bif decide (Rw.id q2<r.id) then
  nz (ah 70 [(1,aa t),(3,pp 0),(5,pp 1),(6,pp 2),(7,ab aq rows),(8,aa (wz (k+1)))]) q else .done (Ex.exit 0,St.mk q1 q [])) else .done (Ex.exit 0,St.mk q1 q []):T _):=kz
def ad4:Nat->St->Option b8:=fun id s=>match id,s.tm.get 1,s.tm.get 7,s.hp with
 | 0,.int _ t,.dsl _ _ rs,[some ([_,.int _ nx],_),some ([.int _ d,.dsl _ _ cs],_),_,some ([.aw xs],_)]=>some ⟨rowsUp (af aq rs) d,fun y=> .one {keep:=[1,3,5,6,7,8]} (yR (af az xs) nx (af aq rs) ⟨d,af aG cs⟩ t 0) (.exit 0) (yR (af az xs) nx (af aq rs) ⟨d,af aG cs⟩ t (y:Nat))⟩
 | _,_,_,_=>none
def tY:Env:={P:=Pz,vw:=gi,res:=PW,ls:=ad4}
theorem ptT (x:aA) (t:Int) (r:Rw):fnT tY 0 uP [.agg (aM x),.int .i64 t,.agg (aq r)] []=(
 let q7:=af az (ae az x.ak);
 let gT:=ae az q7;
 let q1:=af az gT;
 let bK:=0+t.toNat*1;
 let dS:=List.getD q1 (bK / 1) [];
 let q:=af aq (ae aq dS);
 let q2:=Rw.mk r.id (af aG (ae aG r.cells));
 let q9:=ae az q1;
 let q3:List Prop:=[List.take 1 (List.drop bK q9)=[ab aq (List.getD (af az q9) (bK / 1) [])],0+t.toNat*1+1<=List.length q9];
 let q6:=ae aq q;
 let q4:=List.take (List.length q*2) q6;
 let cF:=List.length q1;
 let q5:Hp:=[some ([.sl 3 0 cF false,aa x.next],29),some ((aq q2),53),some ([.dsl 0 true [],aa 0],29),some ([.aw q9],46)];
 let q8:=(↑(List.length q):Int);
 let bS:=ah 70 [(1,aa t),(3,pp 0),(5,pp 1),(6,pp 2),(7,ab aq q),(8,aa 0)];
 let dq:=aF.mk (.agg (aq q2)) [] [];
 let jN:List Prop:=[0<=t/\t<(↑cF:Int)];
 let jr:=0+t.toNat*1+1;
 let na:=Rw.mk (0:Int) [];
 let mq:=List.length q7;.bind PUnit.unit fun _=> .ai [au (Env.P tY) 74 [.agg (aM x)] [] (aF.mk (.agg [.sl 0 0 mq false,aa x.next]) [some ([.aw gT],46)] [])] (.ai [0<=t/\t<(↑mq:Int)] (.ai [List.take 1
  (List.drop bK gT)=[ab aq dS]] (.bind (rowsUp q r.id) fun y1=>
 let fS:=Int.toNat (y1:Int) - 0;
 let yc:=Int.toNat (y1:Int)*2;
 let kv:=List.take yc q6;
 let BF:=List.length q - Int.toNat (y1:Int);
 let pU:List Prop:=[List.length (List.drop yc q4)=BF*2,List.all (List.drop yc q4) V.one=true,0=0,List.length (List.drop 0 kv++(aq q2))=(0+fS+1)*2,0+fS+1+BF<=9223372036854775807,(0+fS+1 +
  BF)*32<=140737488355328];
 let Hm:=List.drop 0 kv;
 let tg:List Prop:=[List.length Hm=fS*2,List.all Hm V.one=true,0=0,0=0,0+fS<=9223372036854775807,(0+fS)*32<=140737488355328];
 let yb:=dz (.agg [.dsl cF false (List.take bK q9 ++ .dsl (0+fS+1+BF) false (List.drop 0 kv++aa (Rw.id q2)::ab aG (Rw.cells q2)::List.drop yc q4)::List.drop jr q9),aa x.next]) [] [];
 let Hj:List Prop:=[0=0,List.length Hm=(0+fS)*2,0+fS+1<=9223372036854775807,(0+fS+1)*32<=140737488355328];
 let BG:=(y1:Int)+1;
 let BD:=List.length q - Int.toNat (wz BG);
 let BE:List Prop:=[(0:Int)<=(y1:Int)/\(y1:Int)<=q8];
 let Hk:=List.getD (af aq q6) (Int.toNat (y1:Int)) na;
 let Hl:=Int.toNat (wz BG)*2;.ai [St.mk (ah 70 [(1,aa t),(3,pp 0),(5,pp 1),(6,pp 2),(7,ab aq dS),(8,aa 0)]) [some ([.sl 3 0 mq false,aa x.next],29),some ((aq r),53),some ([.dsl 0 true [],aa 0],
  29),some ([.aw gT],46)] []=St.mk bS q5 [],aN (Env.P tY) 0 (blk Pz uP 0) (St.mk bS q5 []) (Ex.exit 0) (St.mk (ah 70 [(1,aa t),(3,pp 0),(5,pp 1),(6,pp 2),(7,ab aq q),(8,aa (y1:Int))]) q5 [])] (.ai
  BE (bif decide ((y1:Int)<q8) then .ai [(0:Int)<=(y1:Int)/\(y1:Int)<q8,List.take 2 (List.drop yc q6)=[aa (Rw.id Hk),ab aG (Rw.cells Hk)]] (bif Rw.id Hk==Rw.id q2 then .ai [0<=wz BG/\wz BG<=q8]
  (.ai BE (.ai tg (.bind PUnit.unit fun _=> .ai [au (Env.P tY) 154 [.agg (aq q2)] [] dq] (.ai Hj (.ai [List.length (List.drop Hl q4)=BD*2,List.all (List.drop Hl q4) V.one=true,0=0,List.length
  (List.drop 0 kv++(aq q2))=(0+fS+1)*2,0+fS+1+BD<=9223372036854775807,(0+fS+1+BD)*32<=140737488355328] (.ai jN (.ai q3 (dz (.agg [.dsl cF false (List.take bK q9 ++ .dsl (0+fS+1+BD)
  false (List.drop 0 kv++aa (Rw.id q2)::ab aG (Rw.cells q2)::List.drop Hl q4)::List.drop jr q9),aa x.next]) [] [])))))))) else .ai BE (.ai tg (.bind PUnit.unit fun _=> .ai [au (Env.P tY) 154 [.agg (aq
  q2)] [] dq] (.ai Hj (.ai pU (.ai jN (.ai q3 yb))))))) else .ai BE (.ai tg (.bind PUnit.unit fun _=> .ai [au (Env.P tY) 154 [.agg (aq q2)] [] dq] (.ai Hj (.ai pU (.ai jN (.ai q3 yb))))))))))):T _):=fz
theorem Vk (x:aA) (t k:Int):fnT wG 0 uB [.agg (aM x),.int .i64 t,.int .i64 k] []=(
 let q1:=af az (ae az x.ak);
 let q4:=ae az q1;
 let q7:=0+t.toNat*1;
 let q:=List.getD (af az q4) (q7 / 1) [];
 let q2:=List.take (k.toNat*2) (ae aq q);
 let q3:=List.length q - Int.toNat (wz (k+1));
 let q5:=List.take (List.length q*2) (ae aq q);
 let bK:=List.length q1;
 let q6:List Prop:=[0<=t/\t<(↑bK:Int)];
 let q8:=Int.toNat (wz (k+1))*2;
 let q9:List Prop:=[List.take 1 (List.drop q7 q4)=[ab aq q]];
 let bS:=List.drop 0 q2;.bind PUnit.unit fun _=> .ai [au (Env.P wG) 74 [.agg (aM x)] [] (aF.mk (.agg [.sl 0 0 bK false,aa x.next]) [some ([.aw q4],46)] [])] (.ai q6 (.ai q9 (.ai [0<=k/\k<=(↑(List.length q):
  Int)] (.ai [List.length bS=(k.toNat - 0)*2,List.all bS V.one=true,0=0,0=0,0+(k.toNat - 0)<=9223372036854775807,(0+(k.toNat - 0))*32<=140737488355328] (.ai q6 (.ai q9 (.ai [0<=wz (k+1)/\wz (k+1) <=
  (↑(List.length q):Int)] (.ai [List.length (List.drop q8 q5)=q3*2,List.all (List.drop q8 q5) V.one=true,0=0,List.length bS=(0+(k.toNat - 0))*2,0+(k.toNat - 0)+q3<=9223372036854775807,(0+(k.toNat - 0)+q3)
  * 32<=140737488355328] (.ai q6 (.ai [List.take 1 (List.drop q7 q4)=[ab aq q],0+t.toNat*1+1<=List.length q4] (dz (.agg [.dsl bK false (List.take q7 q4 ++ .dsl (0+(k.toNat - 0)+q3) false (List.drop 0 q2 ++
  List.drop q8 q5)::List.drop (0+t.toNat*1+1) q4),aa x.next]) [] []))))))))))):T _):=fz
theorem Lay.setAt {α:Type} {enc:α->List V} {s:Nat} (h:Lay enc s) (L:List α) (i:Nat) (hi:i<L.length) (x:α):ae enc (L.set i x)=(ae enc L).take (i*s)++(enc x++(ae enc L).drop (i*s+s)):=by
 rw [List.set_eq_take_append_cons_drop,if_pos hi,oS,eS,h.take,show i*s+s=(i+1)*s by rw [Nat.add_mul,Nat.one_mul],h.drop]
theorem QG {α:Type} {enc:α->List V} (A B:List α) (n:Nat) (hn:n=A.length+B.length):V.dsl n false (ae enc A++ae enc B)=ab enc (A++B):=by
 subst hn;unfold ab;rw [oS,List.length_append]
theorem aN0 {α:Type} {enc:α->List V} (A B:List α) (x:α) (n:Nat) (hn:n=A.length+1+B.length):V.dsl n false (ae enc A++(enc x++ae enc B))=ab enc (A++x::B):=by
 subst hn;unfold ab;rw [oS,eS,List.length_append,List.length_cons];congr 1;omega
theorem Ks {x:aA} (hx:lq x) (t k:Nat) (ht:t<x.ak.length) (hk:k<(x.ak.getD t []).length):au Pz uB [.agg (aM x),.int .i64 t,.int .i64 k] [] ⟨.agg (aM (iv x t k)),[],[]⟩:=by
 have aD:=bB.at x.ak [] t 1 ht rfl;have hn:=hx.t _ (bH [] ht);have YS:=hx.n;have hw:wz ((k:Int)+1)=((k+1:Nat):Int):=bW ag;have kn:=bB.setAt x.ak t ht (gf (x.ak.getD t []) k);rw [Nat.mul_one] at aD kn;unfold gf at kn;have hs:aM (iv x t k)=[ab az (x.ak.set t ((x.ak.getD t []).take k++(x.ak.getD t []).drop (k+1))),.int .i64 x.next]:=rfl;rw [hs];generalize pF:x.ak.getD t []=rows at *;have h1:(rows.take k).length=k:=by rw [List.length_take];omega
 have h2:(rows.drop (k+1)).length=rows.length - (k+1):=List.length_drop;refine a6 (Vk x (t:Nat) (k:Nat)) ?_;simp only [sz,bB.af,Int.toNat_natCast,Nat.zero_add,Nat.mul_one,Nat.div_one,Nat.sub_zero,List.drop_zero,hw,pF,bI.take,bI.drop,bI.length,bI.all,bB.length,List.take_length,h1,h2];rintro _ -;refine ⟨OO hx,aB,aD,aB,aB,aB,aD,aB,aB,aB,⟨aD,ag⟩,?_⟩;rw [QG (rows.take k) (rows.drop (k+1)) (k+(rows.length - (k+1))) (by rw [h1,h2])];have e:V.dsl x.ak.length false (List.take t (ae az x.ak)++ab aq (List.take k rows++List.drop (k+1) rows)::List.drop (t+1) (ae az x.ak))=ab az (x.ak.set t (List.take k rows++List.drop (k+1) rows)):=by
  have hl:(x.ak.set t (List.take k rows++List.drop (k+1) rows)).length=x.ak.length:=List.length_set;show _=V.dsl (x.ak.set t (List.take k rows++List.drop (k+1) rows)).length false (ae az (x.ak.set t (List.take k rows++List.drop (k+1) rows)));rw [hl,kn];rfl
 rw [e];exact aH
theorem Pj (X:List (List Rw)) (nx:Int) (rows:List Rw) (r:Rw) (t:Int) (hr:rows.length<=1048576):∀(m k:Nat),k+m=rows.length ->
  aT Tryz.prog 0 (lp Tryz.prog uP 0) (yR X nx rows r t k) (.exit 0) (yR X nx rows r t ((k+rowsUp (rows.drop k) r.id:Nat):Int))
 | 0,k,hk=>by
  obtain rfl:k=rows.length:=hk;rw [List.drop_length];refine bZ (E:=wG) follows named (Ph X nx rows r t (rows.length:Nat)) ?_;simp only [ba,T.WP,All,bh,bl,bg];exact ⟨fun h=>by omega,fun _=>⟨rfl,rfl⟩⟩
 | m+1,k,hk=>by
  have aD:=bI.at rows ⟨0,[]⟩ k 2 (by omega) rfl;have ih:=Pj X nx rows r t hr m (k+1) (by omega);have w1:IntKind.i64.wrap ((k:Int)+1)=((k+1:Nat):Int):=bW (by omega);refine bZ (E:=wG) follows named (Ph X nx rows r t (k:Nat)) ?_;simp only [ba,T.WP,All,bh,bl,bg,w1,bI.af,Int.toNat_natCast];rw [iE ⟨0,[]⟩ (show k<rows.length by omega),rowsUp];refine ⟨fun _=>⟨⟨aB,aD⟩,fun h => ?_,fun h => ?_⟩,fun h=>by omega⟩
  ·rw [decide_eq_true h,cond_true];rw [show k+(rowsUp (rows.drop (k+1)) r.id+1)=k+1+rowsUp (rows.drop (k+1)) r.id by omega];exact ih
  ·rw [decide_eq_false h];exact ⟨rfl,rfl⟩
theorem Qb:∀(rows:List Rw) (id:Int),rowsUp rows id<=rows.length
 | [],_=>Nat.le_refl _
 | r::rs,id=>by
  rw [rowsUp];have:=Qb rs id;cases decide (r.id<id)
  ·simp
  ·simp only [cond_true,List.length_cons];omega
theorem Pk {x:aA} (hx:lq x) (t:Nat) (r:Rw) (hr:fv r) (ht:t<x.ak.length) (hlen:(x.ak.getD t []).length<=1000000):au Pz uP [.agg (aM x),.int .i64 t,.agg (aq r)] [] ⟨.agg (aM (iw x t r)),[],[]⟩:=by
 have aD:=bB.at x.ak [] t 1 ht rfl;have hn:=hx.t _ (bH [] ht);have YS:=hx.n;have kn:=bB.setAt x.ak t ht (jt (x.ak.getD t []) r);rw [Nat.mul_one] at aD kn;have hs:aM (iw x t r)=[ab az (x.ak.set t (jt (x.ak.getD t []) r)),.int .i64 x.next]:=rfl;rw [hs];have hl:=Pj x.ak x.next (x.ak.getD t []) r (t:Nat) hn (x.ak.getD t []).length 0 ag
 rw [Nat.zero_add,List.drop_zero] at hl;have hle:=Qb (x.ak.getD t []) r.id;have hP:jt (x.ak.getD t []) r=(x.ak.getD t []).take (rowsUp (x.ak.getD t []) r.id)++r::oC (x.ak.getD t []) (rowsUp (x.ak.getD t []) r.id) r.id:=rfl;rw [hP] at kn ⊢;have fin:∀v:List Rw,V.dsl x.ak.length false (List.take t (ae az x.ak)++ab aq v::List.drop (t+1) (ae az x.ak))=ab az (x.ak.set t v):=by
  intro v;have hl:(x.ak.set t v).length=x.ak.length:=List.length_set;have kn:=bB.setAt x.ak t ht v;rw [Nat.mul_one] at kn;show _=V.dsl (x.ak.set t v).length false (ae az (x.ak.set t v));rw [hl,kn];rfl
 generalize pF:x.ak.getD t []=rows at *;generalize hu:rowsUp rows r.id=u at *;have h1:(rows.take u).length=u:=by rw [List.length_take];omega
 have h2:(rows.drop (u+1)).length=rows.length - (u+1):=List.length_drop;have h3:(rows.drop u).length=rows.length - u:=List.length_drop;have hw:wz ((u:Int)+1)=((u+1:Nat):Int):=bW ag;refine a6 (ptT x (t:Nat) r) ?_;simp only [sz,bB.af,bI.af,bP.af,Int.toNat_natCast,Nat.zero_add,Nat.mul_one,Nat.div_one,Nat.sub_zero,List.drop_zero,pF,bB.length];rintro _ -;refine ⟨OO hx,aB,aD,?_⟩;rw [hu];rintro y rfl;simp only [hw,bI.take,bI.drop,bI.length,bI.all,Int.toNat_natCast,List.take_length,h1,h2,h3];have FI:(ae aq (List.take y rows)++[V.int .i64 r.id,.dsl r.cells.length false (ae aG r.cells)]).length=(y+1)*2:=by
  rw [List.length_append,bI.length,h1];simp only [List.length_cons,List.length_nil];omega
 have e3:∀(T:List Rw) (m:Nat),m=T.length->V.dsl x.ak.length false (List.take t (ae az x.ak)++V.dsl (y+1+m) false (ae aq (List.take y rows)++V.int .i64 r.id::V.dsl r.cells.length false (ae aG r.cells)::ae aq T)::List.drop (t+1) (ae az x.ak))=ab az (x.ak.set t (List.take y rows++r::T)):=by
  rintro T m rfl;have:=fin (List.take y rows++r::T);rw [<- aN0 (enc:=aq) (List.take y rows) T r (y+1+T.length) (by rw [h1])] at this;exact this
 have tl1:y<rows.length->(rows.getD y ⟨0,[]⟩).id=r.id->oC rows y r.id=rows.drop (y+1):=by
  intro a b;unfold oC;have b':(rows.getD y .zero).id=r.id:=b;rw [decide_eq_true a,b'];simp
 have tl2:y<rows.length->¬(rows.getD y ⟨0,[]⟩).id=r.id->oC rows y r.id=rows.drop y:=by
  intro a b;unfold oC;have b':¬(rows.getD y .zero).id=r.id:=b;have b2:((rows.getD y .zero).id==r.id)=false:=by simpa using b'
  rw [b2];simp
 have tl3:¬y<rows.length->oC rows y r.id=rows.drop y:=by
  intro a;unfold oC;rw [decide_eq_false a];rfl
 refine ⟨⟨a8,.aV hl⟩,aB,fun bQ=>⟨⟨aB,?_⟩,fun hid => ?_,fun hid => ?_⟩,fun gb => ?_⟩
 ·have cB:=bI.at rows ⟨0,[]⟩ y 2 ag rfl;rw [bI.drop] at cB;exact cB
 ·rw [tl1 ag hid];refine ⟨aB,aB,aB,?_⟩;rintro _ -;refine ⟨x5 r hr,aB,⟨a8,a8,a8,FI,ag,ag⟩,aB,⟨aD,ag⟩,?_⟩;rw [e3 (rows.drop (y+1)) (rows.length - (y+1)) h2.symm];exact aH
 ·rw [tl2 ag hid];refine ⟨aB,aB,?_⟩;rintro _ -;refine ⟨x5 r hr,aB,⟨a8,a8,a8,FI,ag,ag⟩,aB,⟨aD,ag⟩,?_⟩;rw [e3 (rows.drop y) (rows.length - y) h3.symm];exact aH
 ·rw [tl3 ag];refine ⟨aB,aB,?_⟩;rintro _ -;refine ⟨x5 r hr,aB,⟨a8,a8,a8,FI,ag,ag⟩,aB,⟨aD,ag⟩,?_⟩;rw [e3 (rows.drop y) (rows.length - y) h3.symm];exact aH
def ON:TypeId->Nat->Option TypeId:=fun t k=>bif Nat.beq t da then (bif Nat.beq (k % 2) 0 then some ez else none) else none
def nfQ:Ex->Kp:=fun _=>{keep:=[1,2,3,4],pk:=some ON}
def lf (a:List Rw) (D:List (List Rw)):List V:= .osl eb a.length true (ae ca a)::ae az D
def rr (x:aA) (C:List V) (N:Nat) (l:List Rw) (i k:Int):St:=⟨ah 48 [(1,.ptr 0 0),(2,.ptr 1 0),(3,.ptr 2 0),(4,.int .i64 i),(5,.sl 3 0 l.length false),(6,.int .i64 k)],
 [some (aM x,da),some ([.osl ez 0 false [],.int .i64 0],da),some ([.osl ez N true C,.int .i64 x.next],da),some ([.aw (ae aq l)],eb)],[]⟩
def zD:Env:={P:=Pz,vw:=gi,res:=BM}
theorem Py (x:aA) (C:List V) (N:Nat) (l:List Rw) (i k:Int):bp zD 0 NA (lp Pz eT 2) (rr x C N l i k)=(
 let q1:=List.getD (af az (ae az x.ak)) i.toNat [];
 let q:=List.getD (af aq (ae aq q1)) k.toNat (Rw.mk (0:Int) []);
 let q2:List Prop:=[0<=i/\i<(x.ak.length:Int),td 1 i (ae az x.ak)=[ab aq q1]];.ai q2 (bif decide (k<(↑(List.length q1):Int)) then .ai q2 (.ai [0<=k/\k<(↑(List.length q1):Int),td 2 k (ae aq
  q1)=[aa (Rw.id q),ab aG (Rw.cells q)]] (.bind PUnit.unit fun _=> .ai [au (Env.P zD) 154 [.agg [aa (Rw.id q),ab aG (Rw.cells q)]] [] (aF.mk (.agg [aa (Rw.id q),ab aG (Rw.cells q)]) [] [])] (.ai [0=0,
  List.length (ae aq l)=l.length*2,l.length+1<=9223372036854775807,(l.length+1)*32<=140737488355328] (nz (ah 48 [(1,pp 0),(2,pp 1),(3,pp 2),(4,aa i),(5,.sl 3 0 (l.length+1) false),(6,aa (wz (k+1)))])
  [some ((aM x),29),some ([.osl 46 0 false [],aa 0],29),some ([.osl 46 N true C,aa x.next],29),some ([.aw (ae aq l++[aa (Rw.id q),ab aG (Rw.cells q)])],53)])))) else .done (Ex.exit 2,St.mk (ah 48 [(1,pp
  0),(2,pp 1),(3,pp 2),(4,aa i),(5,.sl 3 0 l.length false),(6,aa k)]) [some ((aM x),29),some ([.osl 46 0 false [],aa 0],29),some ([.osl 46 N true C,aa x.next],29),some ([.aw (ae aq l)],53)] [])):T _):=fz
theorem PA {x:aA} (hx:lq x) (C:List V) (N:Nat) (i:Nat) (hi:i<x.ak.length):∀(n k:Nat),k+n=(x.ak.getD i []).length ->
  aT Tryz.prog 0 (lp Tryz.prog eT 2) (rr x C N ((x.ak.getD i []).take k) i k) (.exit 2) (rr x C N (x.ak.getD i []) i (x.ak.getD i []).length)
 | 0,k,hk=>by
  have aD:=bB.at x.ak [] i 1 hi rfl;obtain rfl:k=(x.ak.getD i []).length:=hk;rw [List.take_length];refine bZ (E:=zD) follows named (Py x C N (x.ak.getD i []) i ((x.ak.getD i []).length:Nat)) ?_;simp only [ba,T.WP,All,bh,bl,bg,bB.af,Int.toNat_natCast];exact ⟨⟨aB,aD⟩,fun h=>by omega,fun _=>⟨rfl,rfl⟩⟩
 | n+1,k,hk=>by
  have aD:=bB.at x.ak [] i 1 hi rfl;have hm:=bH [] hi;have ht:=hx.t _ hm;have ih:=PA hx C N i hi n (k+1) (by omega);generalize pF:x.ak.getD i []=rows at *;have cB:=bI.at rows ⟨0,[]⟩ k 2 (by omega) rfl;have hr:=hx.r _ hm _ (bH ⟨0,[]⟩ (show k<rows.length by omega));have w1:IntKind.i64.wrap ((k:Int)+1)=((k+1:Nat):Int):=bW (by omega);have hl:(rows.take k).length=k:=by rw [List.length_take];omega
  refine bZ (E:=zD) follows named (Py x C N (rows.take k) i (k:Nat)) ?_;simp only [ba,T.WP,All,bh,bl,bg,w1,bB.af,bI.af,Int.toNat_natCast,pF,hl,bI.length];refine ⟨⟨aB,aD⟩,fun _=>⟨⟨aB,aD⟩,⟨aB,cB⟩,?_⟩,fun h=>by omega⟩;rintro _ -;refine ⟨x5 _ hr,aB,?_⟩;rw [fU ⟨0,[]⟩ (show k<rows.length by omega)] at ih;simp only [rr,dF,aq,ab,List.length_append,List.length_singleton,hl] at ih ⊢;exact ih
def yU (x:aA) (C:List V) (N:Nat) (i:Int):St:=⟨ah 48 [(1,.ptr 0 0),(2,.ptr 1 0),(3,.ptr 2 0),(4,.int .i64 i)],
 [some (aM x,da),some ([.osl ez 0 false [],.int .i64 0],da),some ([.osl ez N true C,.int .i64 x.next],da)],[]⟩
def ad6 (C:List V) (N:Nat):Nat->St->Option b8:=fun id s=>match id,s.tm.get 4,s.hp with
 | 2,.int _ i,some ([.dsl _ _ cs,.int _ nx],_)::_=>some ⟨(),fun _=> .one {keep:=[1,2,3,4,5,6],pk:=some fc,eu:=[5]}
   (rr ⟨af az cs,nx⟩ C N [] i 0) (.exit 2) (rr ⟨af az cs,nx⟩ C N ((af az cs).getD i.toNat []) i ((af az cs).getD i.toNat []).length)⟩
 | _,_,_=>none
def I8 (C:List V) (N:Nat):Env:={P:=Pz,vw:=gi,res:=BM,ls:=ad6 C N}
theorem Pw (x:aA) (C:List V) (N:Nat) (i:Int):bp (I8 C N) 0 nfQ (lp Pz eT 0) (yU x C N i)=(
 let q:=af az (ae az x.ak);
 let q1:=ah 48 [(1,pp 0),(2,pp 1),(3,pp 2),(4,aa i),(5,.sl 3 0 0 false),(6,aa 0)];
 let q4:=aA.mk q x.next;
 let q3:List V:=[.osl 46 0 false [],aa 0];
 let q6:List V:=[.osl 46 N true C,aa (aA.next q4)];
 let q2:Hp:=[some ((aM q4),29),some (q3,29),some (q6,29),some ([.aw []],53)];
 let q5:=List.getD q i.toNat [];bif decide (i<(x.ak.length:Int)) then .bind PUnit.unit fun _=> .ai [St.mk q1 [some ((aM x),29),some (q3,29),some ([.osl 46 N true C,aa x.next],29),some ([.aw []],53)] []=St.mk
  q1 q2 [],aN Pz 0 (blk Pz eT 2) (St.mk q1 q2 []) (Ex.exit 2) (St.mk (ah 48 [(1,pp 0),(2,pp 1),(3,pp 2),(4,aa i),(5,.sl 3 0 (List.length q5) false),(6,aa (↑(List.length q5):Int))]) [some ((aM q4),29),some
  (q3,29),some (q6,29),some ([.aw (ae aq q5)],53)] [])] (.ai [0=0,C.length=N*1,N+1<=9223372036854775807,(N+1)*24<=140737488355328] (nz (ah 48 [(1,pp 0),(2,pp 1),(3,pp 2),(4,aa (wz (i+1)))]) [some
  ((aM q4),29),some (q3,29),some ([.osl 46 (N+1) true (C++[ab aq q5]),aa (aA.next q4)],29)])) else .done (Ex.exit 0,St.mk (ah 48 [(1,pp 0),(2,pp 1),(3,pp 2),(4,aa i)]) [some ((aM x),29),some (q3,29),
  some ([.osl 46 N true C,aa x.next],29)] []):T _):=kz
theorem aQ9 (a:List Rw) (D:List (List Rw)):(lf a D).length=(D.length+1)*1:=by
 unfold lf;rw [List.length_cons,bB.length];omega
theorem Px {x:aA} (hx:lq x) (a:List Rw):∀(n i:Nat),i+1+n=x.ak.length ->
  aT Pz 0 (lp Pz eT 0) (yU x (lf a ((x.ak.drop 1).take i)) (i+1) ((i+1:Nat):Int)) (.exit 0) (yU x (lf a (x.ak.drop 1)) x.ak.length x.ak.length)
 | 0,i,hi=>by
  have hi:i+1=x.ak.length:=hi;have e:(x.ak.drop 1).take i=x.ak.drop 1:=List.take_of_length_le (by rw [List.length_drop];omega);rw [e,hi];refine bt (Pw x (lf a (x.ak.drop 1)) x.ak.length (x.ak.length:Nat)) ?_;simp only [sz];exact ⟨fun h=>ag,fun _=>⟨rfl,rfl⟩⟩
 | n+1,i,hi=>by
  have hn:=hx.n;have ih:=Px hx a n (i+1) ag;have hl:=PA hx (lf a ((x.ak.drop 1).take i)) (i+1) (i+1) ag (x.ak.getD (i+1) []).length 0 ag;have w1:wz (((i+1:Nat):Int)+1)=((i+1+1:Nat):Int):=bW ag;have hle:((x.ak.drop 1).take i).length=i:=by rw [List.length_take,List.length_drop];omega
  have hg:(x.ak.drop 1).getD i []=x.ak.getD (i+1) []:=by
   rw [List.getD_eq_getElem?_getD,List.getD_eq_getElem?_getD,List.getElem?_drop,Nat.add_comm 1 i]
  refine bZ (E:=I8 (lf a ((x.ak.drop 1).take i)) (i+1)) follows named (Pw x (lf a ((x.ak.drop 1).take i)) (i+1) ((i+1:Nat):Int)) ?_;simp only [sz,w1,bB.af,Int.toNat_natCast,aQ9,hle];refine ⟨fun _ => ?_,fun h=>ag⟩;rintro _ -;rw [rr,rr,List.take_zero] at hl;refine ⟨⟨a8,.aV hl⟩,aB,?_⟩;rw [fU [] (show i<(x.ak.drop 1).length by rw [List.length_drop];omega),hg] at ih;have e:lf a ((x.ak.drop 1).take i++[x.ak.getD (i+1) []])=lf a ((x.ak.drop 1).take i)++az (x.ak.getD (i+1) []):=by
   unfold lf;rw [dF];rfl
  rw [e] at ih;exact ih
def lsQ:Nat->St->Option b8:=fun id s=>match id,s.hp with
 | 0,some ([.dsl _ _ cs,.int _ nx],_)::_=>some ⟨(),fun _=> .one {keep:=[1,2,3,4],pk:=some fc,yn:=[2]} (H5 ⟨af az cs,nx⟩ [] 0) (.exit 0) (yU ⟨af az cs,nx⟩ (lf ((af az cs).getD 0 []) ((af az cs).drop 1)) (af az cs).length (af az cs).length)⟩
 | _,_=>none
def EQ:Env:={P:=Pz,vw:=gi,res:=fun _ _ _=>none,ls:=lsQ}
theorem qT (x:aA):fnT EQ 1 eT [.agg (aM x)] []=(
 let q:=af az (ae az x.ak);
 let q3:=aA.mk q x.next;
 let q5:List V:=[.osl 46 0 false [],aa 0];
 let q1:Hp:=[some ((aM q3),29),some (q5,29),some ([.osl 46 0 true [],aa (aA.next q3)],29)];
 let q2:=ah 48 [(1,pp 0),(2,pp 1),(3,pp 2),(4,aa 0)];
 let q4:=List.getD q 0 [];
 let q6:=List.length q;.bind PUnit.unit fun _=> .ai [St.mk q2 [some ((aM x),29),some (q5,29),some ([.osl 46 0 true [],aa x.next],29)] []=St.mk q2 q1 [],aN (Env.P EQ) 0 (blk Pz eT 0) (St.mk q2 q1 []) (Ex.exit 0)
  (St.mk (ah 48 [(1,pp 0),(2,pp 1),(3,pp 2),(4,aa (↑q6:Int))]) [some ((aM q3),29),some (q5,29),some ([.osl 46 q6 true (.osl 53 (List.length q4) true (ae ca q4)::ae az (List.drop 1 q)),aa (aA.next
  q3)],29)] [])] (dz (.agg [.sl 0 0 q6 false,aa (aA.next q3)]) [some ([.cS (.osl 53 (List.length q4) true (ae ca q4)::ae az (List.drop 1 q))],46)] []):T _):=fz
theorem G9 {x:aA} (hx:lq x) (h1:1<=x.ak.length):au Pz eT [.agg (aM x)] [] ⟨.agg [.sl 0 0 x.ak.length false,.int .i64 x.next],[some ([.cS (lf (x.ak.getD 0 []) (x.ak.drop 1))],ez)],[]⟩:=by
 have hn:=hx.n;have hl:aT Pz 0 (lp Pz eT 0) (H5 x [] 0) (.exit 0) (yU x (lf (x.ak.getD 0 []) (x.ak.drop 1)) x.ak.length x.ak.length):=by
  have ih:=Px hx (x.ak.getD 0 []) (x.ak.length - 1) 0 ag;have hl:=OQ hx [] 0 ag (x.ak.getD 0 []).length 0 ag;have w1:wz (((0:Nat):Int)+1)=((0+1:Nat):Int):=rfl;refine bt (az6 x [] ((0:Nat):Int)) ?_;simp only [sz,w1,bB.af,Int.toNat_natCast,VD,List.take_zero,List.length_nil];refine ⟨fun _ => ?_,fun h=>ag⟩;rintro _ -;rw [rq,rq,List.take_zero] at hl;refine ⟨⟨a8,.aV hl⟩,aB,?_⟩;exact ih
 refine a6 (qT x) ?_;simp only [sz,bB.af];rintro _ -;exact ⟨⟨a8,.aV hl⟩,aH⟩
def nj (a b c:List Rw):List V:=[.osl eb a.length true (ae ca a),ab aq b,ab aq c]
def CB:Vw:=fun t cs i=>bif Nat.beq t ez then (match cs[i]? with | some v=>some [v] | none=>none) else rD t cs i
def aE9 (a b c:List Rw):cy:=fun f vs _=>
 bif Nat.beq f eT then (match vs with | [.agg [.dsl _ _ _,.int _ nx]]=>some ⟨(),fun _=>⟨.agg [.sl 0 0 3 false,.int .i64 nx],[some ([.cS (nj a b c)],ez)],[]⟩⟩ | _=>none) else none
def R3 (a b c:List Rw):Env:={P:=Pz,vw:=CB,res:=aE9 a b c,pk:=some ON}
theorem Vj (a b c:List Rw) (nx k:Int):fnT (R3 a b c) 1 uB [.agg (aM ⟨[a,b,c],nx⟩),.int .i64 1,.int .i64 k] []=(
 let q:=List.take (k.toNat*2) (ae aq b);
 let q1:=b.length - Int.toNat (wz (k+1));
 let q8:=Int.toNat (wz (k+1))*2;
 let q6:=List.take (b.length*2) (ae aq b);
 let q2:=List.drop q8 q6;
 let q3:=aA.next (aA.mk [a,b,c] nx);
 let q4:List Prop:=[(0:Int)<=1/\(1:Int)<3];
 let q5:=([ab aq b]:List V);
 let q7:V:= .agg [.sl 0 0 3 false,aa q3];
 let q9:=List.drop 0 q;.bind PUnit.unit fun _=>cz 74 [.agg [.dsl 3 false [ab aq a,ab aq b,ab aq c],aa q3]] [] q7 [some ([.cS [.osl 53 a.length true (ae ca a),ab aq b,ab aq c]],46)] [] (.ai q4
  (.ai [q5=[ab aq b]] (.ai [0<=k/\k<=(b.length:Int)] (.ai [List.length q9=(k.toNat - 0)*2,List.all q9 V.one=true,0=0,0=0,0+(k.toNat - 0)<=9223372036854775807,(0+(k.toNat - 0))*32<=140737488355328]
  (.ai q4 (.ai [q5=[ab aq b]] (.ai [0<=wz (k+1)/\wz (k+1)<=(b.length:Int)] (.ai [List.length q2=q1*2,List.all q2 V.one=true,0=0,List.length q9=(0+(k.toNat - 0))*2,0+(k.toNat - 0)+q1 <=
  9223372036854775807,(0+(k.toNat - 0)+q1)*32<=140737488355328] (.ai q4 (.ai [q5=[ab aq b],2<=3] (dz q7 [some ([.cS [.osl 53 a.length true (ae ca a),.dsl (0+(k.toNat - 0)+q1) false (List.drop 0 q ++
  List.drop q8 q6),ab aq c]],46)] []))))))))))):T _):=fz
theorem Vn {a b c:List Rw} {nx:Int} (hx:lq ⟨[a,b,c],nx⟩) (k:Nat) (hk:k<b.length):au Pz uB [.agg (aM ⟨[a,b,c],nx⟩),.int .i64 1,.int .i64 k] [] ⟨.agg [.sl 0 0 3 false,.int .i64 nx],[some ([.cS (nj a (gf b k) c)],ez)],[]⟩:=by
 have hn:b.length<=1048576:=hx.t b (by simp);have hw:wz ((k:Int)+1)=((k+1:Nat):Int):=bW ag;have h1:(b.take k).length=k:=by rw [List.length_take];omega
 have h2:(b.drop (k+1)).length=b.length - (k+1):=List.length_drop;refine a6 (Vj a b c nx (k:Nat)) ?_;simp only [sz,Int.toNat_natCast,Nat.zero_add,Nat.sub_zero,List.drop_zero,hw,bI.take,bI.drop,bI.length,bI.all,List.take_length,h1,h2];rintro _ -;refine ⟨G9 hx (by simp),aB,aB,aB,aB,aB,aB,aB,aB,aB,aB,?_⟩;rw [QG (b.take k) (b.drop (k+1)) (k+(b.length - (k+1))) (by rw [h1,h2])];exact aH
abbrev cA:Nat:=65
def zm:Vw:=fun t cs i=>bif Nat.beq t eb then some (ca ((af ca cs).getD i Rw.zero)) else CB t cs i
def fm (S:aO) (a b c:List Rw) (nx:Int):Hp:=[some ([ab ao S],rB),some ([.osl ez 3 true (nj a b c),.int .i64 nx],da),some ([.osl ez 0 false [],.int .i64 0],da)]
def Ci (S:aO) (a b c:List Rw) (nx k:Int) (l d:aQ) (n:Int):St:=⟨ah 164 [(2,.ptr 0 0),(3,.ptr 1 0),(4,.ptr 2 0),(8,.int .i64 0),(9,.int .i64 1),(11,ab aq b),(12,.int .i64 k),(13,.sl 3 0 l.length false),(14,ab aj d),(15,.int .i64 n)],
 fm S a b c nx++[some ([.aw (ae aj l)],pX)],[]⟩
def Ch (S:aO) (a b c:List Rw) (nx k:Int):St:=⟨ah 164 [(2,.ptr 0 0),(3,.ptr 1 0),(4,.ptr 2 0),(8,.int .i64 0),(9,.int .i64 1),(11,ab aq b),(12,.int .i64 k)],fm S a b c nx,[]⟩
def aq6:Ex->Kp:=fun ex=>match ex with
 | .normal=>{keep:=[2,3,4,8,9,11,12,13,14,15],pk:=some fc}
 | _=>{keep:=[2,3,4,8,9,11,12,13],pk:=some fc}
def aq5:Ex->Kp:=fun ex=>match ex with
 | .normal=>{keep:=[2,3,4,8,9,11,12],pk:=some fc}
 | _=>{keep:=[2,3,4,8,9],pk:=some fc}
def EW:Env:={P:=Pz,vw:=zm,res:=vN}
theorem Rt (S:aO) (a b c:List Rw) (nx k:Int) (l d:aQ) (n:Int):bp EW 0 aq6 (lp Pz cA 12) (Ci S a b c nx k l d n)=(
 let q:=List.getD (af aj (ae aj d)) n.toNat (At.mk (0:Int) (0:Int) []);
 let q2:List V:=[.osl 46 3 true [.osl 53 a.length true (ae ca a),ab aq b,ab aq c],aa nx];
 let q1:Hp:=[some ([ab ao S],25),some (q2,29),some ([.osl 46 0 false [],aa 0],29),some ([.aw (ae aj l)],143)];
 let q3:List Prop:=[0<=n/\n<(d.length:Int),td 3 n (ae aj d)=aj q];bif decide (n<(d.length:Int)) then .ai q3 (.bind (cE (af aq (ae aq b)) (At.n q)) fun y0=> .ai [au (Env.P EW) 140 [ab aq
  b,aa (At.n q)] [] (aF.mk (aa y0) [] [])] (bif decide (y0>=0) then .ai q3 (.ai [0=0,List.length (ae aj l)=l.length*3,l.length+1<=9223372036854775807,(l.length+1)*32<=140737488355328] (nz (ah 164 [(2,pp
  0),(3,pp 1),(4,pp 2),(8,aa 0),(9,aa 1),(11,ab aq b),(12,aa k),(13,.sl 3 0 (l.length+1) false),(14,ab aj d),(15,aa (wz (n+1)))]) [some ([ab ao S],25),some (q2,29),some ([.osl 46 0 false [],aa
  0],29),some ([.aw (ae aj l++(aj q))],143)])) else nz (ah 164 [(2,pp 0),(3,pp 1),(4,pp 2),(8,aa 0),(9,aa 1),(11,ab aq b),(12,aa k),(13,.sl 3 0 l.length false),(14,ab aj d),(15,aa (wz (n +
  1)))]) q1)) else .done (Ex.exit 12,St.mk (ah 164 [(2,pp 0),(3,pp 1),(4,pp 2),(8,aa 0),(9,aa 1),(11,ab aq b),(12,aa k),(13,.sl 3 0 l.length false)]) q1 []):T _):=kz
def lsW (S:aO) (a b c:List Rw) (nx:Int):Nat->St->Option b8:=fun id s=>match id,s.tm.get 12,s.tm.get 14 with
 | 12,.int _ k,.dsl _ _ ds=>some ⟨jI b (af aj ds),fun y=> .one {keep:=[2,3,4,8,9,11,12,13,14,15],pk:=some fc,eu:=[13]} (Ci S a b c nx k [] (af aj ds) 0) (.exit 12) ⟨ah 164 [(2,.ptr 0 0),(3,.ptr 1 0),(4,.ptr 2 0),(8,.int .i64 0),(9,.int .i64 1),(11,ab aq b),(12,.int .i64 k),(13,.sl 3 0 y.length false)],fm S a b c nx++[some ([.aw (ae aj y)],pX)],[]⟩⟩
 | _,_,_=>none
def Dd (S:aO) (a b c:List Rw) (nx:Int):Env:={P:=Pz,vw:=zm,res:=vN,ls:=lsW S a b c nx}
theorem Rs (S:aO) (a b c:List Rw) (nx k:Int):bp (Dd S a b c nx) 0 aq5 (lp Pz cA 10) (Ch S a b c nx k)=(
 let q4:=ae ca a;
 let cF:=0+k.toNat*2;
 let q:=List.getD (af ca q4) (cF / 2) (Rw.mk (0:Int) []);
 let q1:=ae aG (Rw.cells q);
 let q2:List V:=[.osl 46 3 true [.osl 53 a.length true q4,ab aq b,ab aq c],aa nx];
 let q6:=List.getD (af aG q1) 1 [];
 let q3:=ah 164 [(2,pp 0),(3,pp 1),(4,pp 2),(8,aa 0),(9,aa 1),(11,ab aq b),(12,aa k),(13,.sl 3 0 0 false),(14,ab aj (af aj (ae aj q6))),(15,aa 0)];
 let q8:=List.length (Rw.cells q);
 let q5:List Prop:=[List.take 2 (List.drop cF q4)=[aa (Rw.id q),.osl 32 q8 false q1],0+k.toNat*2+2<=List.length q4];
 let q7:List V:=[.osl 46 0 false [],aa 0];
 let q9:Hp:=[some ([ab ao S],25),some (q2,29),some (q7,29),some ([.aw []],143)];
 let bK:List V:=[.osl 53 a.length true q4];
 let bS:List Prop:=[(0:Int)<=0/\(0:Int)<3];
 let dq:List Prop:=[(0:Int)<=1/\(1:Int)<(↑q8:Int)];
 let dS:=(a.length:Int);.ai bS (.ai [(bK:List V)=bK,1<=3] (bif decide (k<dS) then .ai bS (.ai [0=0] (.ai [0<=k/\k<dS] (.ai q5 (.ai dq (.ai [List.take 1 (List.drop 1 q1)=[ab aj q6]] (.bind
  (jI b (af aj (ae aj q6))) fun y0=> .ai [St.mk (ah 164 [(2,pp 0),(3,pp 1),(4,pp 2),(8,aa 0),(9,aa 1),(11,ab aq b),(12,aa k),(13,.sl 3 0 0 false),(14,ab aj q6),(15,aa 0)]) [some ([ab
  ao S],25),some ([.osl 46 3 true [.osl 53 a.length true (List.take cF q4++aa (Rw.id q) :: .osl 32 q8 false q1::List.drop (0+k.toNat*2+2) q4),ab aq b,ab aq c],aa nx],29),some (q7,29),some ([.aw []],
  143)] []=St.mk q3 q9 [],aN Pz 0 (blk Pz cA 12) (St.mk q3 q9 []) (Ex.exit 12) (St.mk (ah 164 [(2,pp 0),(3,pp 1),(4,pp 2),(8,aa 0),(9,aa 1),(11,ab aq b),(12,aa k),(13,.sl 3 0 y0.length false)]) [some
  ([ab ao S],25),some (q2,29),some (q7,29),some ([.aw (ae aj y0)],143)] [])] (.ai bS (.ai [(bK:List V)=bK,1<=3] (.ai [0<=k/\k<dS] (.ai q5 (.ai dq (.ai [List.take 1 (List.drop 1 q1)=[ab aj
  q6],2<=List.length q1] (nz (ah 164 [(2,pp 0),(3,pp 1),(4,pp 2),(8,aa 0),(9,aa 1),(11,ab aq b),(12,aa (wz (k+1)))]) [some ([ab ao S],25),some ([.osl 46 3 true [.osl 53 a.length true (List.take cF q4 ++
  aa (Rw.id q) :: .osl 32 q8 false (List.take 1 q1++ab aj y0::List.drop 2 q1)::List.drop (0+k.toNat*2+2) q4),ab aq b,ab aq c],aa nx],29),some (q7,29)]))))))))))))) else .done (Ex.exit 10,St.mk (ah 164
  [(2,pp 0),(3,pp 1),(4,pp 2),(8,aa 0),(9,aa 1)]) [some ([ab ao S],25),some (q2,29),some (q7,29)] []))):T _):=fz
theorem VE {α:Type} {enc:α->List V} {s:Nat} (pos:0<s) (len:∀x,(enc x).length=s) (Gr:∀x y,enc x=enc y->x=y):∀L M:List α,ae enc L=ae enc M->L=M:=by
 intro L;induction L with
 | nil=>
  intro M hM;cases M with
  | nil=>rfl
  | cons y M=>
   have h1:=len y;rw [wZ,eS] at hM;have:=congrArg List.length hM;rw [List.length_append] at this;rw [h1,List.length_nil] at this;omega
 | cons x L ih=>
  intro M hM;cases M with
  | nil=>
   have h1:=len x;rw [wZ,eS] at hM;have:=congrArg List.length hM;rw [List.length_append] at this;rw [h1,List.length_nil] at this;omega
  | cons y M=>
   rw [eS,eS] at hM;obtain ⟨e1,e2⟩:=List.append_inj hM (by rw [len,len]);rw [Gr _ _ e1,ih M e2]
theorem UZ (L:List Rw):af ca (ae ca L)=L:=by
 have he:∃M,ae ca M=ae ca L:=⟨L,rfl⟩;unfold af;rw [dif_pos he];refine VE (enc:=ca) (s:=2) ag (fun _=>rfl) (fun x y h => ?_) _ _ he.choose_spec;cases x;cases y
 simp only [ca,List.cons.injEq,V.int.injEq,V.osl.injEq,true_and,and_true] at h;obtain ⟨h1,_,h2⟩:=h;simp only [Rw.mk.injEq];exact ⟨h1,bP.inj _ _ h2⟩
theorem D5 {α:Type} {enc:α->List V} {s:Nat} (h:∀x,(enc x).length=s):∀(L:List α) (i:Nat),(ae enc L).drop (i*s)=ae enc (L.drop i)
 | L,0=>by simp
 | [],i+1=>by simp [ae]
 | x::L,i+1=>by
  rw [eS,List.drop_succ_cons,<- D5 h L i,show (i+1)*s=(enc x).length+i*s by rw [h,Nat.succ_mul];omega,<- List.drop_drop,List.drop_left]
theorem KJ {α:Type} {enc:α->List V} {s:Nat} (h:∀x,(enc x).length=s):∀(L:List α) (i:Nat),(ae enc L).take (i*s)=ae enc (L.take i)
 | L,0=>by simp [ae]
 | [],i+1=>by simp [ae]
 | x::L,i+1=>by
  rw [eS,List.take_succ_cons,eS,<- KJ h L i,show (i+1)*s=(enc x).length+i*s by rw [h,Nat.succ_mul];omega,List.take_length_add_append]
theorem VB (L:List Rw) (i:Nat) (hi:i<L.length):((ae ca L).drop (i*2)).take 2=ca (L.getD i ⟨0,[]⟩):=by
 rw [D5 (enc:=ca) (s:=2) (fun _=>rfl),iE ⟨0,[]⟩ hi,eS];rfl
theorem KH (L:List Rw) (i:Nat) (hi:i<L.length) (r:Rw):ae ca (L.set i r)=(ae ca L).take (i*2)++(ca r++(ae ca L).drop (i*2+2)):=by
 rw [List.set_eq_take_append_cons_drop,if_pos hi,oS,eS,KJ (enc:=ca) (s:=2) (fun _=>rfl),show i*2+2=(i+1)*2 by omega,D5 (enc:=ca) (s:=2) (fun _=>rfl)]
theorem VC (L:List Rw) (i:Nat) (hi:i<L.length):ae ca L=(ae ca L).take (i*2)++(ca (L.getD i ⟨0,[]⟩)++(ae ca L).drop (i*2+2)):=by
 have:=KH L i hi (L.getD i ⟨0,[]⟩);have e:L.set i (L.getD i ⟨0,[]⟩)=L:=by
  apply List.ext_getElem?;intro j;rw [List.getElem?_set];split
  ·rename_i h;subst h;rw [List.getD_eq_getElem?_getD,List.getElem?_eq_getElem hi];rfl
  ·rfl
 rw [e] at this;exact this
theorem ZW (b:List Rw) (d:aQ) (n:Nat) (hn:n<d.length):jI b (d.take (n+1))=jI b (d.take n)++(bif decide (0<=cE b (d.getD n ⟨0,0,[]⟩).n) then [d.getD n ⟨0,0,[]⟩] else []):=by
 unfold jI;rw [fU ⟨0,0,[]⟩ hn,List.filter_append];congr 1
def aO5 (S:aO) (a b c:List Rw) (nx k:Int) (y:aQ):St:=⟨ah 164 [(2,.ptr 0 0),(3,.ptr 1 0),(4,.ptr 2 0),(8,.int .i64 0),(9,.int .i64 1),(11,ab aq b),(12,.int .i64 k),(13,.sl 3 0 y.length false)],fm S a b c nx++[some ([.aw (ae aj y)],pX)],[]⟩
theorem Rr (S:aO) (a b c:List Rw) (nx k:Int) (d:aQ) (hb:b.length<=1048576) (hd:d.length<=1048576):∀(m n:Nat),n+m=d.length ->
  aT Pz 0 (lp Pz cA 12) (Ci S a b c nx k (jI b (d.take n)) d n) (.exit 12) (aO5 S a b c nx k (jI b d))
 | 0,n,hn=>by
  have hn:n=d.length:=hn;subst hn;rw [List.take_length];refine bt (Rt S a b c nx k (jI b d) d (d.length:Nat)) ?_;simp only [sz];exact ⟨fun h=>ag,fun _=>⟨rfl,rfl⟩⟩
 | m+1,n,hn=>by
  have aD:=bu.at d ⟨0,0,[]⟩ n 3 ag rfl;have ih:=Rr S a b c nx k d hb hd m (n+1) ag;have w1:=cX n;have cD:(jI b (d.take n)).length<=1048576:=by
   refine Nat.le_trans (List.length_filter_le _ _) ?_;rw [List.length_take];omega
  rw [ZW b d n ag] at ih;refine bt (Rt S a b c nx k (jI b (d.take n)) d (n:Nat)) ?_;simp only [sz,w1,bu.af,bI.af,bu.length,Int.toNat_natCast];refine ⟨fun _=>⟨⟨aB,aD⟩,?_⟩,fun h=>ag⟩;rintro y rfl;refine ⟨Bx _ _ hb,fun h => ?_,fun h => ?_⟩
  ·rw [decide_eq_true (by omega:0<=cE b (d.getD n ⟨0,0,[]⟩).n),cond_true] at ih;refine ⟨⟨aB,aD⟩,aB,?_⟩;simp only [Ci,dF,aj,List.length_append,List.length_singleton] at ih ⊢;exact ih
  ·rw [decide_eq_false (by omega:¬0<=cE b (d.getD n ⟨0,0,[]⟩).n),cond_false,List.append_nil] at ih;exact ih
def kZ (S:aO) (a b c:List Rw) (nx i k:Int):St:=⟨ah 164 [(2,.ptr 0 0),(3,.ptr 1 0),(4,.ptr 2 0),(8,.int .i64 i),(9,.int .i64 k)],fm S a b c nx,[]⟩
theorem aL8 {α:Type} (f:α->α) (d:α) (a:List α) (k:Nat) (hk:k<a.length):(a.set k (f (a.getD k d))).take (k+1)++((a.set k (f (a.getD k d))).drop (k+1)).map f=a.take k++(a.drop k).map f:=by
 rw [iE d hk,List.map_cons,List.drop_set_of_lt ag,fU d (by rw [List.length_set];exact hk),List.take_set_of_le (Nat.le_refl _),List.append_assoc];congr 1;rw [List.singleton_append];congr 1;rw [List.getD_eq_getElem?_getD,List.getElem?_set_self hk];rfl
theorem Rq (S:aO) (b c:List Rw) (nx:Int) (hb:b.length<=1048576):∀(m k:Nat) (a:List Rw),k+m=a.length->a.length<=1048576->(∀r∈a,fv r/\2<=r.cells.length) ->
  aT Tryz.prog 0 (lp Tryz.prog cA 10) (Ch S a b c nx k) (.exit 10) (kZ S (a.take k++(a.drop k).map (fi b 1)) b c nx 0 1)
 | 0,k,a,hk,ha,hr=>by
  have hk:k=a.length:=hk;subst hk;rw [List.take_length,List.drop_length,List.map_nil,List.append_nil];refine bZ (E:=Dd S a b c nx) follows named (Rs S a b c nx (a.length:Nat)) ?_;simp only [ba,T.WP,All,bh,bl,bg];exact ⟨aB,aB,fun h=>by omega,fun _=>⟨rfl,rfl⟩⟩
 | m+1,k,a,hk,ha,hr=>by
  have dO:k<a.length:=by omega
  have xM:=hr _ (bH ⟨0,[]⟩ dO);have w1:IntKind.i64.wrap ((k:Int)+1)=((k+1:Nat):Int):=bW (by omega);have aD:=VB a k dO;have mg:=VC a k dO;have cL:=KH a k dO (fi b 1 (a.getD k ⟨0,[]⟩));have ih:=Rq S b c nx hb m (k+1) (a.set k (fi b 1 (a.getD k ⟨0,[]⟩))) (by rw [List.length_set];omega) (by rw [List.length_set];exact ha) (fun r h=>by
   rcases List.mem_or_eq_of_mem_set h with h | rfl
   ·exact hr r h
   ·refine ⟨⟨?_,fun d hd => ?_⟩,?_⟩
    ·show (List.set _ _ _).length<=_;rw [List.length_set];exact xM.1.n
    ·rcases List.mem_or_eq_of_mem_set (show d∈List.set _ _ _ from hd) with hd | rfl
     ·exact xM.1.d d hd
     ·exact Nat.le_trans (List.length_filter_le _ _) (xM.1.d _ (bH [] (by omega)))
    ·show 2<=(List.set _ _ _).length;rw [List.length_set];exact xM.2)
  rw [aL8 (fi b 1) ⟨0,[]⟩ a k dO] at ih;have gP:fi b 1 (a.getD k ⟨0,[]⟩)=⟨(a.getD k ⟨0,[]⟩).id,(a.getD k ⟨0,[]⟩).cells.set 1 (jI b ((a.getD k ⟨0,[]⟩).cells.getD 1 []))⟩:=rfl;rw [gP] at cL ih;generalize mZ:a.getD k ⟨0,[]⟩=r at *;have nX:=bP.at r.cells [] 1 1 (by omega) rfl;have kn:=bP.setAt r.cells 1 (by omega) (jI b (r.cells.getD 1 []));have hd:=xM.1.d _ (bH [] (show 1<r.cells.length by omega));have hl:=Rr S a b c nx k (r.cells.getD 1 []) hb hd (r.cells.getD 1 []).length 0 (by omega);generalize Xe:r.cells.getD 1 []=d at *;refine bZ (E:=Dd S a b c nx) follows named (Rs S a b c nx (k:Nat)) ?_;simp only [ba,T.WP,All,bh,bl,bg,w1,bu.af,bP.af,UZ,Int.toNat_natCast,Nat.zero_add,Nat.mul_div_cancel _ (show 0<2 by omega),mZ,Xe];refine ⟨aB,aB,fun _=>⟨aB,aB,aB,⟨aD,by rw [D4];omega⟩,aB,nX,?_⟩,fun h=>by omega⟩;rintro y rfl;have Yz:List.take (k*2) (ae ca a)++V.int .i64 r.id::V.osl ix r.cells.length false (ae aG r.cells)::List.drop (k*2+2) (ae ca a)=ae ca a:=mg.symm;refine ⟨⟨by rw [Yz],.aV hl⟩,aB,aB,aB,⟨aD,by rw [D4];omega⟩,aB,?_⟩;refine ⟨⟨nX,by rw [bP.length];omega⟩,?_⟩;have e1:ca ⟨r.id,r.cells.set 1 (jI b d)⟩=[.int .i64 r.id,.osl ix r.cells.length false (ae aG (r.cells.set 1 (jI b d)))]:=by unfold ca;rw [List.length_set]
  rw [e1,kn] at cL;simp only [Ch,fm,nj,List.length_set] at ih ⊢;rw [cL] at ih;exact ih
def NT:Ex->Kp:=fun ex=>match ex with
 | .normal=>{keep:=[2,3,4,8,9],pk:=some fc}
 | _=>{keep:=[2,3,4,8],pk:=some fc}
def aq7:Ex->Kp:=fun ex=>match ex with
 | .normal=>{keep:=[2,3,4,8],pk:=some fc}
 | _=>{keep:=[3,4],pk:=some fc}
def ng (S:aO) (a b c:List Rw) (nx i:Int):St:=⟨ah 164 [(2,.ptr 0 0),(3,.ptr 1 0),(4,.ptr 2 0),(8,.int .i64 i)],fm S a b c nx,[]⟩
def Sy:Env:={P:=Pz,vw:=zm,res:=fun _ _ _=>none}
def aF9:cy:=fun f _ _=>bif Nat.beq f oZ then some ⟨(),fun _=>⟨.int .i64 1,[],[]⟩⟩ else none
def af1 (S:aO) (a b c:List Rw) (nx:Int):Nat->St->Option b8:=fun id _=>match id with
 | 10=>some ⟨(),fun _=> .one {keep:=[2,3,4,8,9,11,12],pk:=some fc} (Ch S a b c nx 0) (.exit 10) (kZ S (a.map (fi b 1)) b c nx 0 1)⟩
 | _=>none
def Sz (S:aO) (a b c:List Rw) (nx:Int):Env:={P:=Pz,vw:=zm,res:=aF9,ls:=af1 S a b c nx}
def af0 (S:aO) (a a' b c:List Rw) (nx:Int):Nat->St->Option b8:=fun id s=>match id,s.tm.get 8 with
 | 8,.int _ i=>some ⟨(),fun _=> .one {keep:=[2,3,4,8,9],pk:=some fc} (kZ S a b c nx i 0) (.exit 8) (ng S a' b c nx i)⟩
 | _,_=>none
def Sw (S:aO) (a a' b c:List Rw) (nx:Int):Env:={P:=Pz,vw:=zm,res:=fun _ _ _=>none,ls:=af0 S a a' b c nx}
theorem Rv (S:aO) (a b c:List Rw) (nx i k:Int):bp Sy 0 NT (lp Pz cA 8) (kZ S a b c nx i k)=(
 let q1:=List.getD (af ao (ae ao S)) i.toNat (Tb.mk [] [] [] false);
 let q6:=ae aY (Tb.av q1);
 let q:=List.getD (af aY q6) k.toNat (aL.mk [] (0:Int) (0:Int) (0:Int) (0:Int) (0:Int) [] false);
 let q2:Hp:=[some ([ab ao S],25),some ([.osl 46 3 true [.osl 53 a.length true (ae ca a),ab aq b,ab aq c],aa nx],29),some ([.osl 46 0 false [],aa 0],29)];
 let q3:=ah 164 [(2,pp 0),(3,pp 1),(4,pp 2),(8,aa i),(9,aa (wz (k+1)))];
 let q4:List Prop:=[0<=i/\i<(S.length:Int),td 4 i (ae ao S)=(ao q1)];
 let q5:=(↑(List.length (Tb.av q1)):Int);.ai q4 (bif decide (k<q5) then .ai q4 (.ai [0<=k/\k<q5,td 8 k q6=[.str (aL.name q),aa (aL.kind q),aa (aL.min q),aa (aL.max q),aa (aL.low q),aa (aL.high q),
  .str (aL.ref q),.bool (aL.fF q)]] (bif aL.kind q != 4 then nz q3 q2 else bif aL.fF q then nz q3 q2 else .fail)) else .done (Ex.exit 8,St.mk (ah 164 [(2,pp 0),(3,pp 1),(4,pp 2),(8,aa i)]) q2 [])):T _):=fz
theorem aU4 (S:aO) (a b c:List Rw) (nx:Int):bp (Sz S a b c nx) 0 NT (lp Pz cA 8) (kZ S a b c nx 0 1)=(
 let q2:=List.getD (af ao (ae ao S)) 0 (Tb.mk [] [] [] false);
 let q8:=ae aY (Tb.av q2);
 let q:=List.getD (af aY q8) 1 (aL.mk [] (0:Int) (0:Int) (0:Int) (0:Int) (0:Int) [] false);
 let q1:Hp:=[some ([ab ao S],25),some ([.osl 46 3 true [.osl 53 a.length true (ae ca a),ab aq b,ab aq c],aa nx],29),some ([.osl 46 0 false [],aa 0],29)];
 let q3:Hp:=[some ([ab ao S],25),some ([.osl 46 3 true [.osl 53 (List.length (List.map (fi b 1) a)) true (ae ca (List.map (fi b 1) a)),ab aq b,ab aq c],aa nx],29),some ([.osl 46 0 false [],aa 0],
  29)];
 let q4:=ah 164 [(2,pp 0),(3,pp 1),(4,pp 2),(8,aa 0),(9,aa 1),(11,ab aq b),(12,aa 0)];
 let q5:=ah 164 [(2,pp 0),(3,pp 1),(4,pp 2),(8,aa 0),(9,aa 2)];
 let q6:List Prop:=[(0:Int)<=0/\(0:Int)<(S.length:Int),List.take 4 (List.drop 0 (ae ao S))=(ao q2)];
 let q7:=(↑(List.length (Tb.av q2)):Int);.ai q6 (bif decide ((1:Int)<q7) then .ai q6 (.ai [(0:Int)<=1/\(1:Int)<q7,List.take 8 (List.drop 8 q8)=[.str (aL.name q),aa (aL.kind q),aa (aL.min q),aa (aL.max
  q),aa (aL.low q),aa (aL.high q),.str (aL.ref q),.bool (aL.fF q)]] (bif aL.kind q != 4 then nz q5 q1 else bif aL.fF q then nz q5 q1 else .bind PUnit.unit fun _=>cz 113 [.agg [ab ao S],.str (aL.ref q)] []
  (aa 1) [] [] (.ai [(0:Int)<=1/\(1:Int)<3] (.ai [([ab aq b]:List V)=[ab aq b]] (.bind PUnit.unit fun _=> .ai [St.mk q4 q1 []=St.mk q4 q1 [],aN Pz 0 (blk Pz cA 10) (St.mk q4 q1 []) (Ex.exit 10)
  (St.mk (ah 164 [(2,pp 0),(3,pp 1),(4,pp 2),(8,aa 0),(9,aa 1)]) q3 [])] (nz q5 q3)))))) else .done (Ex.exit 8,St.mk (ah 164 [(2,pp 0),(3,pp 1),(4,pp 2),(8,aa 0)]) q1 [])):T _):=fz
theorem Ru (S:aO) (a a' b c:List Rw) (nx i:Int):bp (Sw S a a' b c nx) 0 aq7 (lp Pz cA 6) (ng S a b c nx i)=(
 let q3:List V:=[.osl 46 3 true [.osl 53 a.length true (ae ca a),ab aq b,ab aq c],aa nx];
 let q4:List V:=[.osl 46 0 false [],aa 0];
 let q:Hp:=[some ([ab ao S],25),some (q3,29),some (q4,29)];
 let q1:Hp:=[some ([ab ao S],25),some ([.osl 46 3 true [.osl 53 (List.length a') true (ae ca a'),ab aq b,ab aq c],aa nx],29),some (q4,29)];
 let q2:=ah 164 [(2,pp 0),(3,pp 1),(4,pp 2),(8,aa i),(9,aa 0)];bif decide (i<3) then .bind PUnit.unit fun _=> .ai [St.mk q2 q []=St.mk q2 q [],aN Pz 0 (blk Pz cA 8) (St.mk q2 q []) (Ex.exit 8) (St.mk (ah
  164 [(2,pp 0),(3,pp 1),(4,pp 2),(8,aa i)]) q1 [])] (nz (ah 164 [(2,pp 0),(3,pp 1),(4,pp 2),(8,aa (wz (i+1)))]) q1) else .done (Ex.exit 6,St.mk (ah 164 [(3,pp 0),(4,pp 1)]) [some (q3,29),some (q4,29)] []):T _):=kz
theorem tT {S:aO} (a b c:List Rw) (nx:Int) {i k:Nat} (hi:i<S.length) (hk:k<(S.getD i .zero).av.length) (hle:(S.getD i .zero).av.length<=1000) (hc:(gZ S i k).kind≠4\/(gZ S i k).fF=true) {ex:Ex} {s':St}
  (h:aT Pz 0 (lp Pz cA 8) (kZ S a b c nx i ((k+1:Nat):Int)) ex s'):aT Pz 0 (lp Pz cA 8) (kZ S a b c nx i k) ex s':=by
 have eN:=bN.at S .zero i 4 hi rfl;have pq:=db.at (S.getD i .zero).av .zero k 8 hk rfl;have w1:=cX k;unfold gZ at hc;refine bt (Rv S a b c nx i k) ?_;simp only [Tb.zero,aL.zero] at *;simp only [sz,Int.toNat_natCast,bN.af,db.af,w1];refine ⟨⟨aB,eN⟩,fun _=>⟨⟨aB,eN⟩,⟨aB,pq⟩,fun _=>h,fun h1=>⟨fun _=>h,fun h2 => ?_⟩⟩,fun h=>ag⟩;have jB:((S.getD i ⟨[],[],[],false⟩).av.getD k ⟨[],0,0,0,0,0,[],false⟩).kind=4:=by simpa only [bne_eq_false_iff_eq] using h1
 rw [jB,h2] at hc;rcases hc with hc | hc
 ·exact hc rfl
 ·cases hc
theorem II {S:aO} (a b c:List Rw) (nx:Int) {i:Nat} (hi:i<S.length):aT Pz 0 (lp Pz cA 8) (kZ S a b c nx i ((S.getD i .zero).av.length:Nat)) (.exit 8) (ng S a b c nx i):=by
 have eN:=bN.at S .zero i 4 hi rfl;refine bt (Rv S a b c nx i ((S.getD i .zero).av.length:Nat)) ?_;simp only [Tb.zero] at *;simp only [sz,Int.toNat_natCast,bN.af,db.af];exact ⟨⟨aB,eN⟩,fun h=>ag,fun _=>⟨rfl,rfl⟩⟩
theorem aB4:dk aI [112,111,114,116]=1:=by decide
theorem aU3 (a b c:List Rw) (nx:Int) (hb:b.length<=1048576) (ha:a.length<=1048576) (hr:∀r∈a,fv r/\2<=r.cells.length) {ex:Ex} {s':St}
  (h:aT Pz 0 (lp Pz cA 8) (kZ aI (a.map (fi b 1)) b c nx 0 2) ex s'):aT Pz 0 (lp Pz cA 8) (kZ aI a b c nx 0 1) ex s':=by
 have eN:=bN.at aI .zero 0 4 (by decide) rfl;have pq:=db.at (aI.getD 0 .zero).av .zero 1 8 (by decide) rfl;have hl:=Rq aI b c nx hb a.length 0 a ag ha hr;rw [List.take_zero,List.drop_zero,List.nil_append] at hl;have hf:=Ay aI [112,111,114,116] (by decide);rw [aB4] at hf;have hc:(aI.getD 0 .zero).av.getD 1 .zero=rT:=rfl;rw [Nat.zero_mul] at eN;rw [Nat.one_mul,hc] at pq;refine bt (aU4 aI a b c nx) ?_;generalize hP:aI=P at *;have cd:((P.getD 0 ⟨[],[],[],false⟩).av.length:Int)=2:=by rw [<- hP];rfl
 have Fs:P.length=3:=by rw [<- hP];rfl
 change (P.getD 0 ⟨[],[],[],false⟩).av.getD 1 ⟨[],0,0,0,0,0,[],false⟩=rT at hc;change List.take 4 (List.drop 0 (ae ao P))=ao (P.getD 0 ⟨[],[],[],false⟩) at eN;change List.take 8 (List.drop 8 (ae aY (P.getD 0 ⟨[],[],[],false⟩).av))=aY rT at pq;simp only [sz,bN.af,db.af,hc,cd];refine ⟨⟨aB,eN⟩,fun _=>⟨⟨aB,eN⟩,⟨aB,pq⟩,fun h1=>by simp [rT] at h1,fun _=>⟨fun h2=>by simp [rT] at h2,fun _ => ?_⟩⟩,fun h=>ag⟩;rintro _ -;refine ⟨hf,?_⟩;refine ⟨aB,aB,?_⟩;rintro _ -;exact ⟨⟨a8,.aV hl⟩,h⟩
def QL (a b c:List Rw) (nx:Int):St:=⟨ah 164 [(3,.ptr 0 0),(4,.ptr 1 0)],[some ([.osl ez 3 true (nj a b c),.int .i64 nx],da),some ([.osl ez 0 false [],.int .i64 0],da)],[]⟩
theorem IH {S:aO} {a a' b c:List Rw} {nx:Int} {i:Nat} (hi:i<3) (hl:aT Pz 0 (lp Pz cA 8) (kZ S a b c nx i 0) (.exit 8) (ng S a' b c nx i)) {ex:Ex} {s':St}
  (h:aT Pz 0 (lp Pz cA 6) (ng S a' b c nx ((i+1:Nat):Int)) ex s'):aT Pz 0 (lp Pz cA 6) (ng S a b c nx i) ex s':=by
 have w1:=cX i;refine bt (Ru S a a' b c nx i) ?_;simp only [sz,w1];refine ⟨fun _ => ?_,fun h=>ag⟩;rintro _ -;exact ⟨⟨a8,.aV hl⟩,h⟩
theorem aU2 (a b c:List Rw) (nx:Int) (hb:b.length<=1048576) (ha:a.length<=1048576) (hr:∀r∈a,fv r/\2<=r.cells.length):
  aT Pz 0 (lp Pz cA 6) (ng aI a b c nx 0) (.exit 6) (QL (a.map (fi b 1)) b c nx):=by
 have e0:=II (S:=aI) (a.map (fi b 1)) b c nx (i:=0) (by decide);have e1:=II (S:=aI) (a.map (fi b 1)) b c nx (i:=1) (by decide);have e2:=II (S:=aI) (a.map (fi b 1)) b c nx (i:=2) (by decide);have l0:aT Pz 0 (lp Pz cA 8) (kZ aI a b c nx 0 0) (.exit 8) (ng aI (a.map (fi b 1)) b c nx 0):=
  tT (i:=0) (k:=0) a b c nx (by decide) (by decide) (by decide) (.inl (by decide)) (aU3 a b c nx hb ha hr e0)
 have l1:aT Pz 0 (lp Pz cA 8) (kZ aI (a.map (fi b 1)) b c nx 1 0) (.exit 8) (ng aI (a.map (fi b 1)) b c nx 1):=
  tT (i:=1) (k:=0) _ b c nx (by decide) (by decide) (by decide) (.inl (by decide)) (tT (i:=1) (k:=1) _ b c nx (by decide) (by decide) (by decide) (.inl (by decide)) (tT (i:=1) (k:=2) _ b c nx (by decide) (by decide) (by decide) (.inl (by decide)) e1))
 have l2:aT Pz 0 (lp Pz cA 8) (kZ aI (a.map (fi b 1)) b c nx 2 0) (.exit 8) (ng aI (a.map (fi b 1)) b c nx 2):=
  tT (i:=2) (k:=0) _ b c nx (by decide) (by decide) (by decide) (.inl (by decide)) (tT (i:=2) (k:=1) _ b c nx (by decide) (by decide) (by decide) (.inl (by decide)) (tT (i:=2) (k:=2) _ b c nx (by decide) (by decide) (by decide) (.inr (by decide)) e2))
 refine IH (i:=0) ag l0 (IH (i:=1) ag l1 (IH (i:=2) ag l2 ?_));refine bt (Ru aI (a.map (fi b 1)) (a.map (fi b 1)) b c nx ((3:Nat):Int)) ?_;simp only [sz];exact ⟨fun h=>ag,fun _=>⟨rfl,rfl⟩⟩
def oe (S:aO) (x:aA):Hp:=[some ([ab ao S],rB),some (aM x,da),some ([.osl ez 0 false [],.int .i64 0],da)]
def oH (i k:Int) (g:Bool):Tm:=ah 164 [(2,.ptr 0 0),(3,.ptr 1 0),(4,.ptr 2 0),(5,.bool g),(6,.int .i64 i),(7,.int .i64 k)]
def lg (i:Int) (g:Bool):Tm:=ah 164 [(2,.ptr 0 0),(3,.ptr 1 0),(4,.ptr 2 0),(5,.bool g),(6,.int .i64 i)]
def nk (g:Bool):Tm:=ah 164 [(2,.ptr 0 0),(3,.ptr 1 0),(4,.ptr 2 0),(5,.bool g)]
def zg:Tm:=ah 164 [(2,.ptr 0 0),(3,.ptr 1 0),(4,.ptr 2 0)]
def Bm:Ex->Kp:=fun ex=>match ex with
 | .normal=>{keep:=[2,3,4,5,6,7],pk:=some fc}
 | _=>{keep:=[2,3,4,5,6],pk:=some fc}
def NC:Ex->Kp:=fun ex=>match ex with
 | .normal=>{keep:=[2,3,4,5,6],pk:=some fc}
 | _=>{keep:=[2,3,4,5],pk:=some fc}
def NB:Ex->Kp:=fun ex=>match ex with
 | .normal=>{keep:=[2,3,4,5],pk:=some fc}
 | _=>{keep:=[2,3,4],pk:=some fc}
def P1 (a b c:List Rw) (nx:Int):aF:=⟨.agg [.sl 0 0 3 false,.int .i64 nx],[some ([.cS (nj a b c)],ez)],[]⟩
def QH (a b c:List Rw) (nx:Int):Nat->Nat->FuncId->List V->Hp->Option (Bool×aF×aF):=fun _ _ f vs _=>
 bif Nat.beq f uB then (match vs with | [.agg [.dsl _ _ ts,.int _ n],.int _ i,.int _ k]=>some (decide (iv ⟨af az ts,n⟩ i.toNat k.toNat=⟨[a,b,c],nx⟩),P1 a b c nx,⟨.agg (aM (iv ⟨af az ts,n⟩ i.toNat k.toNat)),[],[]⟩) | _=>none) else
 bif Nat.beq f eT then (match vs with | [.agg [.dsl _ _ ts,.int _ n]]=>some (decide ((⟨af az ts,n⟩:aA)=⟨[a,b,c],nx⟩),P1 a b c nx,⟨.agg (aM ⟨af az ts,n⟩),[],[]⟩) | _=>none) else none
def wE (a b c:List Rw) (nx:Int):Env:={P:=Pz,vw:=rD,res:=vN,sp:=QH a b c nx}
theorem qU (S:aO) (a b c:List Rw) (nx:Int) (x:aA) (i k:Int) (g:Bool):bp (wE a b c nx) 0 Bm (lp Pz cA 4) ⟨oH i k g,oe S x,[]⟩=(
 let q:=af az (ae az x.ak);
 let q4:=List.getD q i.toNat [];
 let q1:=List.getD (af aq (ae aq q4)) k.toNat (Rw.mk (0:Int) []);
 let bK:List V:=[.osl 46 0 false [],aa 0];
 let q2:Hp:=[some ([ab ao S],25),some ((aM x),29),some (bK,29)];
 let bS:=aA.mk q x.next;
 let q3:=iv bS i.toNat k.toNat;
 let q5:=ah 164 [(2,pp 0),(3,pp 1),(4,pp 2),(5,.bool true),(6,aa i),(7,aa (wz (wz (k - 1)+1)))];
 let q6:=ah 164 [(2,pp 0),(3,pp 1),(4,pp 2),(5,.bool g),(6,aa i),(7,aa (wz (k+1)))];
 let q7:List Prop:=[0<=i/\i<(x.ak.length:Int),td 1 i (ae az x.ak)=[ab aq q4]];
 let q8:=List.getD (af ao (ae ao S)) i.toNat (Tb.mk [] [] [] false);
 let q9:List V:=[.osl 53 a.length true (ae ca a),ab aq b,ab aq c];.ai q7 (bif decide (k<(↑(List.length q4):Int)) then .ai [0<=i/\i<(S.length:Int),td 4 i (ae ao S)=(ao q8)] (bif !Tb.root q8
  then .ai q7 (.ai [0<=k/\k<(↑(List.length q4):Int),td 2 k (ae aq q4)=[aa (Rw.id q1),ab aG (Rw.cells q1)]] (.bind (ey (af ao (ae ao S)) bS i.toNat (Rw.id q1)) fun y0=>cz 138 [.agg [ab ao S],
  .agg (aM x),aa i,aa (Rw.id q1)] [] (aa (y0:Int)) [] [] (bif (y0:Int)==0 then bif decide (iv bS i.toNat k.toNat=aA.mk [a,b,c] nx) then cz 139 [.agg (aM x),aa i,aa k] [] (.agg [.sl 0 0 3 false,aa nx])
  [some ([.cS q9],46)] [] (nz q5 [some ([ab ao S],25),some ([.osl 46 3 true q9,aa nx],29),some (bK,29)]) else cz 139 [.agg (aM x),aa i,aa k] [] (.agg [ab az (aA.ak q3),aa (aA.next q3)]) [] [] (nz q5 [some
  ([ab ao S],25),some ([ab az (aA.ak q3),aa (aA.next q3)],29),some (bK,29)]) else nz q6 q2))) else nz q6 q2) else .done (Ex.exit 4,St.mk (ah 164 [(2,pp 0),(3,pp 1),(4,pp 2),(5,.bool g),(6,aa i)]) q2 [])):T _):=fz
def aF5 (S:aO) (a b c:List Rw) (nx:Int):cy:=fun f vs hp=>
 bif Nat.beq f jd then (match vs with | [_,.agg [.sl _ _ _ _,_],.int _ t,.int _ w]=>some ⟨ey S ⟨[a,b,c],nx⟩ t.toNat w,fun y=>⟨.int .i64 (y:Nat),hp,[]⟩⟩ | _=>none) else none
def tX (S:aO) (a b c:List Rw) (nx:Int):Env:={P:=Pz,vw:=CB,res:=aF5 S a b c nx}
theorem OY (S:aO) (a b c:List Rw) (nx:Int) (k:Int) (g:Bool):bp (tX S a b c nx) 0 Bm (lp Pz cA 4) ⟨oH 0 k g,fm S a b c nx,[]⟩=(
 let q4:=ae ca a;
 let q:Hp:=[some ([ab ao S],25),some ([.osl 46 3 true [.osl 53 a.length true q4,ab aq b,ab aq c],aa nx],29),some ([.osl 46 0 false [],aa 0],29)];
 let q1:=List.getD (af aq q4) ((0+k.toNat*2) / 2) (Rw.mk (0:Int) []);
 let q2:Hp:=[some ([.cS [],.sl 1 0 a.length false,.cS [ab aq b,ab aq c]],46),some ([.cS q4],53)];
 let q3:=ah 164 [(2,pp 0),(3,pp 1),(4,pp 2),(5,.bool g),(6,aa 0),(7,aa (wz (k+1)))];
 let q5:=List.getD (af ao (ae ao S)) 0 (Tb.mk [] [] [] false);.ai [(0:Int)<=0/\(0:Int)<3] (.ai [([.osl 53 a.length true q4]:List V)=[.osl 53 a.length true q4],1<=3] (bif decide (k<(a.length:Int)) then
  .ai [(0:Int)<=0/\(0:Int)<(S.length:Int),List.take 4 (List.drop 0 (ae ao S))=(ao q5)] (bif !Tb.root q5 then .ai [(0:Int)<=0/\(0:Int)<3] (.ai [0=0] (.ai [0<=k/\k<(a.length:Int)] (.ai
  [List.take 2 (List.drop (0+k.toNat*2) q4)=(aq q1)] (.bind (ey S (aA.mk [a,b,c] nx) 0 (Rw.id q1)) fun y0=>cz 138 [.agg [ab ao S],.agg [.sl 0 0 3 false,aa nx],aa 0,aa (Rw.id q1)] q2 (aa (y0:Int)) q2 []
  (bif (y0:Int)==0 then .fail else nz q3 q))))) else nz q3 q) else .done (Ex.exit 4,St.mk (ah 164 [(2,pp 0),(3,pp 1),(4,pp 2),(5,.bool g),(6,aa 0)]) q []))):T _):=fz
theorem Hb (S:aO) (a b c:List Rw) (nx:Int) (k:Int) (g:Bool):bp (tX S a b c nx) 0 Bm (lp Pz cA 4) ⟨oH 1 k g,fm S a b c nx,[]⟩=(
 let q2:List V:=[.osl 53 a.length true (ae ca a),ab aq b,ab aq c];
 let q:Hp:=[some ([ab ao S],25),some ([.osl 46 3 true q2,aa nx],29),some ([.osl 46 0 false [],aa 0],29)];
 let q1:=List.getD (af aq (ae aq b)) k.toNat (Rw.mk (0:Int) []);
 let q3:=ah 164 [(2,pp 0),(3,pp 1),(4,pp 2),(5,.bool g),(6,aa 1),(7,aa (wz (k+1)))];
 let q4:=List.getD (af ao (ae ao S)) 1 (Tb.mk [] [] [] false);
 let q5:List Prop:=[([ab aq b]:List V)=[ab aq b]];.ai [(0:Int)<=1/\(1:Int)<3] (.ai q5 (bif decide (k<(b.length:Int)) then .ai [(0:Int)<=1/\(1:Int)<(S.length:Int),List.take 4 (List.drop 4 (ae
  ao S))=(ao q4)] (bif !Tb.root q4 then .ai [(0:Int)<=1/\(1:Int)<3] (.ai q5 (.ai [0<=k/\k<(b.length:Int),td 2 k (ae aq b)=(aq q1)] (.bind (ey S (aA.mk [a,b,c] nx) 1 (Rw.id q1)) fun y0=>cz
  138 [.agg [ab ao S],.agg [.sl 0 0 3 false,aa nx],aa 1,aa (Rw.id q1)] [some ([.cS q2],46)] (aa (y0:Int)) [some ([.cS q2],46)] [] (bif (y0:Int)==0 then .fail else nz q3 q)))) else nz q3 q) else .done (Ex.exit 4,
  St.mk (ah 164 [(2,pp 0),(3,pp 1),(4,pp 2),(5,.bool g),(6,aa 1)]) q []))):T _):=fz
theorem OZ (S:aO) (a b c:List Rw) (nx:Int) (k:Int) (g:Bool):bp (tX S a b c nx) 0 Bm (lp Pz cA 4) ⟨oH 2 k g,fm S a b c nx,[]⟩=(
 let q2:List V:=[.osl 53 a.length true (ae ca a),ab aq b,ab aq c];
 let q:Hp:=[some ([ab ao S],25),some ([.osl 46 3 true q2,aa nx],29),some ([.osl 46 0 false [],aa 0],29)];
 let q1:=List.getD (af aq (ae aq c)) k.toNat (Rw.mk (0:Int) []);
 let q3:=ah 164 [(2,pp 0),(3,pp 1),(4,pp 2),(5,.bool g),(6,aa 2),(7,aa (wz (k+1)))];
 let q4:=List.getD (af ao (ae ao S)) 2 (Tb.mk [] [] [] false);
 let q5:List Prop:=[([ab aq c]:List V)=[ab aq c]];.ai [(0:Int)<=2/\(2:Int)<3] (.ai q5 (bif decide (k<(c.length:Int)) then .ai [(0:Int)<=2/\(2:Int)<(S.length:Int),List.take 4 (List.drop 8 (ae
  ao S))=(ao q4)] (bif !Tb.root q4 then .ai [(0:Int)<=2/\(2:Int)<3] (.ai q5 (.ai [0<=k/\k<(c.length:Int),td 2 k (ae aq c)=(aq q1)] (.bind (ey S (aA.mk [a,b,c] nx) 2 (Rw.id q1)) fun y0=>cz
  138 [.agg [ab ao S],.agg [.sl 0 0 3 false,aa nx],aa 2,aa (Rw.id q1)] [some ([.cS q2],46)] (aa (y0:Int)) [some ([.cS q2],46)] [] (bif (y0:Int)==0 then .fail else nz q3 q)))) else nz q3 q) else .done (Ex.exit 4,
  St.mk (ah 164 [(2,pp 0),(3,pp 1),(4,pp 2),(5,.bool g),(6,aa 2)]) q []))):T _):=fz
def lsP (S:aO) (a b c:List Rw) (nx:Int):Nat->St->Option b8:=fun id s=>match id,s.tm.get 5,s.tm.get 6,s.hp with
 | 4,.bool g,.int _ i,[_,some ([.dsl _ _ ts,.int _ n],_),_]=>some ⟨swK S i.toNat (((af az ts).getD i.toNat []).length) 0 ⟨af az ts,n⟩ g,fun y=> .two {keep:=[2,3,4,5,6,7],pk:=some fc} ⟨oH i 0 g,oe S ⟨af az ts,n⟩,[]⟩ (decide (y.1=⟨[a,b,c],nx⟩)) (.exit 4) ⟨lg i y.2,fm S a b c nx,[]⟩ (.exit 4) ⟨lg i y.2,oe S y.1,[]⟩⟩
 | 4,.bool g,.int _ i,_=>some ⟨(),fun _=> .one {keep:=[2,3,4,5,6,7],pk:=some fc} ⟨oH i 0 g,fm S a b c nx,[]⟩ (.exit 4) ⟨lg i g,fm S a b c nx,[]⟩⟩
 | 2,_,_,[_,some ([.dsl _ _ ts,.int _ n],_),_]=>some ⟨tK S (af az ts).length 0 ⟨af az ts,n⟩ false,fun y=> .two {keep:=[2,3,4,5,6],pk:=some fc} ⟨lg 0 false,oe S ⟨af az ts,n⟩,[]⟩ (decide (y.1=⟨[a,b,c],nx⟩)) (.exit 2) ⟨nk y.2,fm S a b c nx,[]⟩ (.exit 2) ⟨nk y.2,oe S y.1,[]⟩⟩
 | 2,_,_,_=>some ⟨(),fun _=> .one {keep:=[2,3,4,5,6],pk:=some fc} ⟨lg 0 false,fm S a b c nx,[]⟩ (.exit 2) ⟨nk false,fm S a b c nx,[]⟩⟩
 | 0,_,_,[_,some ([.dsl _ _ ts,.int _ n],_),_]=>some ⟨(),fun _=> .one {keep:=[2,3,4,5],pk:=some fc} ⟨nk true,oe S ⟨af az ts,n⟩,[]⟩ (.exit 0) ⟨zg,fm S a b c nx,[]⟩⟩
 | 0,_,_,_=>some ⟨(),fun _=> .one {keep:=[2,3,4,5],pk:=some fc} ⟨nk true,fm S a b c nx,[]⟩ (.exit 0) ⟨zg,fm S a b c nx,[]⟩⟩
 | 6,_,_,_=>some ⟨(),fun _=> .one {keep:=[2,3,4,8],pk:=some fc} (ng S a b c nx 0) (.exit 6) (QL (a.map (fi b 1)) b c nx)⟩
 | _,_,_,_=>none
def wF (S:aO) (a b c:List Rw) (nx:Int):Env:={P:=Pz,vw:=CB,res:=vN,sp:=QH a b c nx,ls:=lsP S a b c nx}
theorem OV (S:aO) (a b c:List Rw) (nx:Int) (x:aA) (i:Int) (g:Bool):bp (wF S a b c nx) 0 NC (lp Pz cA 2) ⟨lg i g,oe S x,[]⟩=(
 let q4:=af az (ae az x.ak);
 let q3:List V:=[.osl 46 0 false [],aa 0];
 let q:Hp:=[some ([ab ao S],25),some ((aM (aA.mk q4 x.next)),29),some (q3,29)];
 let q1:=ah 164 [(2,pp 0),(3,pp 1),(4,pp 2),(5,.bool g),(6,aa i),(7,aa 0)];
 let q2:Hp:=[some ([ab ao S],25),some ([.osl 46 3 true [.osl 53 a.length true (ae ca a),ab aq b,ab aq c],aa nx],29),some (q3,29)];
 let q5:Hp:=[some ([ab ao S],25),some ((aM x),29),some (q3,29)];bif decide (i<(x.ak.length:Int)) then .bind (swK S i.toNat (List.length (List.getD q4 i.toNat [])) 0 (aA.mk q4 x.next) g) fun y0=>
 let q6:=ah 164 [(2,pp 0),(3,pp 1),(4,pp 2),(5,.bool y0.2),(6,aa (wz (i+1)))];
 let q7:=ah 164 [(2,pp 0),(3,pp 1),(4,pp 2),(5,.bool y0.2),(6,aa i)];
 let q8:Hp:=[some ([ab ao S],25),some ((aM y0.1),29),some (q3,29)];.ai [St.mk q1 q5 []=St.mk q1 q []] (bif decide (y0.1=aA.mk [a,b,c] nx) then .ai [aN Pz 0 (blk Pz cA 4) (St.mk q1 q []) (Ex.exit 4)
  (St.mk q7 q2 [])] (nz q6 q2) else .ai [aN Pz 0 (blk Pz cA 4) (St.mk q1 q []) (Ex.exit 4) (St.mk q7 q8 [])] (nz q6 q8)) else .done (Ex.exit 2,St.mk (ah 164 [(2,pp 0),(3,pp 1),(4,pp 2),(5,.bool g)]) q5 []):T _):=kz
theorem OU (S:aO) (a b c:List Rw) (nx:Int) (i:Int) (g:Bool):bp (wF S a b c nx) 0 NC (lp Pz cA 2) ⟨lg i g,fm S a b c nx,[]⟩=(
 let q:Hp:=[some ([ab ao S],25),some ([.osl 46 3 true [.osl 53 a.length true (ae ca a),ab aq b,ab aq c],aa nx],29),some ([.osl 46 0 false [],aa 0],29)];
 let q1:=ah 164 [(2,pp 0),(3,pp 1),(4,pp 2),(5,.bool g),(6,aa i),(7,aa 0)];bif decide (i<3) then .bind PUnit.unit fun _=> .ai [St.mk q1 q []=St.mk q1 q [],aN Pz 0 (blk Pz cA 4) (St.mk q1 q []) (Ex.exit
  4) (St.mk (ah 164 [(2,pp 0),(3,pp 1),(4,pp 2),(5,.bool g),(6,aa i)]) q [])] (nz (ah 164 [(2,pp 0),(3,pp 1),(4,pp 2),(5,.bool g),(6,aa (wz (i+1)))]) q) else .done (Ex.exit 2,St.mk (ah 164 [(2,pp 0),(3,pp
  1),(4,pp 2),(5,.bool g)]) q []):T _):=kz
theorem p0F (S:aO) (a b c:List Rw) (nx:Int) (x:aA) (g:Bool):bp (wF S a b c nx) 0 NB (lp Pz cA 0) ⟨nk g,oe S x,[]⟩=(
 let q4:=af az (ae az x.ak);
 let q3:List V:=[.osl 46 0 false [],aa 0];
 let q:Hp:=[some ([ab ao S],25),some ((aM (aA.mk q4 x.next)),29),some (q3,29)];
 let q1:=ah 164 [(2,pp 0),(3,pp 1),(4,pp 2),(5,.bool false),(6,aa 0)];
 let q2:Hp:=[some ([ab ao S],25),some ([.osl 46 3 true [.osl 53 a.length true (ae ca a),ab aq b,ab aq c],aa nx],29),some (q3,29)];
 let q5:Hp:=[some ([ab ao S],25),some ((aM x),29),some (q3,29)];bif g then .bind (tK S (List.length q4) 0 (aA.mk q4 x.next) false) fun y0=>
 let q6:=ah 164 [(2,pp 0),(3,pp 1),(4,pp 2),(5,.bool y0.2)];
 let q7:Hp:=[some ([ab ao S],25),some ((aM y0.1),29),some (q3,29)];.ai [St.mk q1 q5 []=St.mk q1 q []] (bif decide (y0.1=aA.mk [a,b,c] nx) then .ai [aN Pz 0 (blk Pz cA 2) (St.mk q1 q []) (Ex.exit 2)
  (St.mk q6 q2 [])] (nz q6 q2) else .ai [aN Pz 0 (blk Pz cA 2) (St.mk q1 q []) (Ex.exit 2) (St.mk q6 q7 [])] (nz q6 q7)) else .done (Ex.exit 0,St.mk (ah 164 [(2,pp 0),(3,pp 1),(4,pp 2)]) q5 []):T _):=kz
theorem OR (S:aO) (a b c:List Rw) (nx:Int) (g:Bool):bp (wF S a b c nx) 0 NB (lp Pz cA 0) ⟨nk g,fm S a b c nx,[]⟩=(
 let q:Hp:=[some ([ab ao S],25),some ([.osl 46 3 true [.osl 53 a.length true (ae ca a),ab aq b,ab aq c],aa nx],29),some ([.osl 46 0 false [],aa 0],29)];
 let q1:=ah 164 [(2,pp 0),(3,pp 1),(4,pp 2),(5,.bool false),(6,aa 0)];
 let q2:=ah 164 [(2,pp 0),(3,pp 1),(4,pp 2),(5,.bool false)];bif g then .bind PUnit.unit fun _=> .ai [St.mk q1 q []=St.mk q1 q [],aN Pz 0 (blk Pz cA 2) (St.mk q1 q []) (Ex.exit 2) (St.mk q2 q [])] (nz q2 q) else
  .done (Ex.exit 0,St.mk (ah 164 [(2,pp 0),(3,pp 1),(4,pp 2)]) q []):T _):=kz
theorem prT (S:aO) (a b c:List Rw) (nx:Int) (x:aA):fnT (wF S a b c nx) 0 cA [.agg [ab ao S],.agg (aM x)] []=(
 let bK:List V:=[.osl 53 a.length true (ae ca a),ab aq b,ab aq c];
 let q8:List V:=[.osl 46 0 false [],aa 0];
 let q:Hp:=[some ([ab ao S],25),some ([.osl 46 3 true bK,aa nx],29),some (q8,29)];
 let cF:=af az (ae az x.ak);
 let q6:=aA.mk cF x.next;
 let q1:=aA.mk (af az (ae az (aA.ak q6))) (aA.next q6);
 let q2:=ah 164 [(2,pp 0),(3,pp 1),(4,pp 2),(5,.bool true)];
 let q3:=ah 164 [(2,pp 0),(3,pp 1),(4,pp 2),(8,aa 0)];
 let q9:=List.map (fi b 1) a;
 let q4:=St.mk (ah 164 [(3,pp 0),(4,pp 1)]) [some ([.osl 46 3 true [.osl 53 (List.length q9) true (ae ca q9),ab aq b,ab aq c],aa nx],29),some (q8,29)] [];
 let q5:=dz (.agg [.dsl 3 false [.dsl (List.length q9) false (V.fzL (ae ca q9)),ab aq b,ab aq c],aa nx]) [] [];
 let q7:Hp:=[some ([ab ao S],25),some ([ab az (aA.ak q1),aa (aA.next q1)],29),some (q8,29)];
 let bS:=St.mk (ah 164 [(2,pp 0),(3,pp 1),(4,pp 2)]) q [];bif decide (aA.mk cF x.next=aA.mk [a,b,c] nx) then cz 74 [.agg (aM x)] [] (.agg [.sl 0 0 3 false,aa nx]) [some ([.cS bK],46)] [] (.bind PUnit.unit fun _
  => .ai [St.mk q2 q []=St.mk q2 q [],aN Pz 0 (blk Pz cA 0) (St.mk q2 q []) (Ex.exit 0) bS] (.bind PUnit.unit fun _=> .ai [St.mk q3 q []=St.mk q3 q [],aN Pz 0 (blk Pz cA 6) (St.mk q3 q []) (Ex.exit 6) q4]
  q5)) else cz 74 [.agg (aM x)] [] (.agg (aM q6)) [] [] (.bind PUnit.unit fun _=> .ai [St.mk q2 [some ([ab ao S],25),some ((aM q6),29),some (q8,29)] []=St.mk q2 q7 [],aN Pz 0 (blk Pz cA 0) (St.mk q2 q7
  []) (Ex.exit 0) bS] (.bind PUnit.unit fun _=> .ai [St.mk q3 q []=St.mk q3 q [],aN Pz 0 (blk Pz cA 6) (St.mk q3 q []) (Ex.exit 6) q4] q5)):T _):=kz
theorem Fg:∀a:List Rw,V.fzL (ae ca a)=ae aq a
 | []=>by simp [ae,V.fzL]
 | r::a=>by
  rw [eS,eS,<- Fg a];simp [ca,aq,ab,V.fzL,V.fz]
theorem Wj (a b c:List Rw):V.fzL (nj a b c)=ae az [a,b,c]:=by
 have:ae az [a,b,c]=[ab aq a,ab aq b,ab aq c]:=rfl;rw [this];simp [nj,ab,V.fzL,V.fz,Fg]
def swB (a c:List Rw) (nx:Int):Nat->Nat->List Rw->Bool->List Rw×Bool
 | 0,_,b,g=>(b,g)
 | n+1,k,b,g=>bif decide (k<b.length) then
   (bif ey aI ⟨[a,b,c],nx⟩ 1 (b.getD k .zero).id==0 then swB a c nx n k (gf b k) true else swB a c nx n (k+1) b g) else (b,g)
def drB (a c:List Rw) (nx:Int):Nat->List Rw->List Rw
 | 0,b=>b
 | n+1,b=>bif (swB a c nx b.length 0 b false).2 then drB a c nx n (swB a c nx b.length 0 b false).1 else (swB a c nx b.length 0 b false).1
def dR (x:aA):aA:=match x.ak with
 | [a,b,c]=>⟨[a.map (fi (drB a c x.next (b.length+1) b) 1),drB a c x.next (b.length+1) b,c],x.next⟩
 | _=>x
theorem P9 {b:List Rw} {k:Nat} (hk:k<b.length):(gf b k).length+1=b.length:=by
 unfold gf;rw [List.length_append,List.length_take,List.length_drop];omega
theorem Qa {b:List Rw} {k:Nat} {r:Rw} (h:r∈gf b k):r∈b:=by
 unfold gf at h;rcases List.mem_append.1 h with h | h
 ·exact List.mem_of_mem_take h
 ·exact List.mem_of_mem_drop h
theorem tJ (a c:List Rw) (nx:Int):∀(n k:Nat) (b:List Rw) (g:Bool),(swB a c nx n k b g).1.length<=b.length/\(∀r∈(swB a c nx n k b g).1,r∈b)/\((swB a c nx n k b g).2=true->g=true\/(swB a c nx n k b g).1.length<b.length)/\((swB a c nx n k b g).2=false->(swB a c nx n k b g).1=b)
 | 0,k,b,g=>⟨Nat.le_refl _,fun _ h=>h,fun h=> .inl h,fun _=>rfl⟩
 | n+1,k,b,g=>by
  rw [swB];by_cases hk:k<b.length
  ·rw [decide_eq_true hk,cond_true];cases ey aI ⟨[a,b,c],nx⟩ 1 (b.getD k .zero).id==0
   ·exact tJ a c nx n (k+1) b g
   ·have ih:=tJ a c nx n k (gf b k) true;have hl:=P9 hk;rw [cond_true];refine ⟨ag,fun r hr=>Qa (ih.2.1 r hr),fun _=> .inr ag,fun h => ?_⟩;have:=ih.2.2.2 h;exfalso;have h2:∀(n k:Nat) (b:List Rw),(swB a c nx n k b true).2=true:=by
     intro n;induction n with
     | zero=>intro k b;rfl
     | succ n ih=>
      intro k b;rw [swB];cases decide (k<b.length)
      ·rfl
      ·rw [cond_true];cases ey aI ⟨[a,b,c],nx⟩ 1 (b.getD k .zero).id==0
       ·exact ih _ _
       ·exact ih _ _
    rw [h2] at h;cases h
  ·rw [decide_eq_false hk,cond_false];exact ⟨Nat.le_refl _,fun _ h=>h,fun h=> .inl h,fun _=>rfl⟩
theorem D1 (a c:List Rw) (nx:Int):∀(n:Nat) (b:List Rw),(drB a c nx n b).length<=b.length/\∀r∈drB a c nx n b,r∈b
 | 0,b=>⟨Nat.le_refl _,fun _ h=>h⟩
 | n+1,b=>by
  rw [drB];have h1:=tJ a c nx b.length 0 b false;cases (swB a c nx b.length 0 b false).2
  ·exact ⟨h1.1,h1.2.1⟩
  ·have h2:=D1 a c nx n (swB a c nx b.length 0 b false).1;exact ⟨Nat.le_trans h2.1 h1.1,fun r hr=>h1.2.1 r (h2.2 r hr)⟩
structure kE (a b c:List Rw):Prop where
 a:a.length<=1048576/\∀r∈a,fv r/\r.cells.length=2
 b:b.length<=1048576/\∀r∈b,fv r/\r.cells.length=3
 c:c.length<=1048576/\∀r∈c,fv r/\r.cells.length=3
theorem kE.sh {a b c:List Rw} (h:kE a b c) (nx:Int):eG aI ⟨[a,b,c],nx⟩:=by
 refine ⟨⟨by simp,fun rows hr => ?_,fun rows hr r mZ => ?_⟩,rfl,fun i hi r hr => ?_,by decide⟩
 ·simp only [List.mem_cons,List.not_mem_nil,or_false] at hr;rcases hr with rfl | rfl | rfl
  ·exact h.a.1
  ·exact h.b.1
  ·exact h.c.1
 ·simp only [List.mem_cons,List.not_mem_nil,or_false] at hr;rcases hr with rfl | rfl | rfl
  ·exact (h.a.2 r mZ).1
  ·exact (h.b.2 r mZ).1
  ·exact (h.c.2 r mZ).1
 ·have iJ:i=0\/i=1\/i=2:=by simp only [List.length_cons,List.length_nil] at hi;omega
  rcases iJ with rfl | rfl | rfl
  ·exact (h.a.2 r hr).2
  ·exact (h.b.2 r hr).2
  ·exact (h.c.2 r hr).2
theorem kE.sub {a b c b':List Rw} (h:kE a b c) (hl:b'.length<=b.length) (hm:∀r∈b',r∈b):kE a b' c:=
 ⟨h.a,⟨Nat.le_trans hl h.b.1,fun r hr=>h.b.2 r (hm r hr)⟩,h.c⟩
theorem aP7 {a b c:List Rw} (h:kE a b c) (nx t w:Int) (f:Bool) (ht:0<=t/\t<3):au Pz jd [.agg [ab ao aI],.agg [.sl 0 0 3 f,.int .i64 nx],.int .i64 t,.int .i64 w] [some ([.cS (nj a b c)],ez)] ⟨.int .i64 (ey aI ⟨[a,b,c],nx⟩ t.toNat w:Nat),[some ([.cS (nj a b c)],ez)],[]⟩:=by
 refine (au.Bf 5 (cM:=[.agg [ab ao aI],.agg (aM ⟨[a,b,c],nx⟩),.int .i64 t,.int .i64 w]) ?_ (Iq (h.sh nx) t w ht) rfl);have e:aM ⟨[a,b,c],nx⟩=[.dsl 3 false (V.fzL (nj a b c)),.int .i64 nx]:=by rw [Wj];rfl
 rw [e];rfl
def ig (a bF c:List Rw) (nx:Int) (b:List Rw):Hp:=bif decide (b=bF) then fm aI a bF c nx else oe aI ⟨[a,b,c],nx⟩
theorem km (a bF c:List Rw) (nx:Int):ig a bF c nx bF=fm aI a bF c nx:=by
 unfold ig;rw [decide_eq_true rfl];rfl
theorem jZ {a bF c:List Rw} {nx:Int} {b:List Rw} (h:¬b=bF):ig a bF c nx b=oe aI ⟨[a,b,c],nx⟩:=by
 unfold ig;rw [decide_eq_false h];rfl
theorem ru {a b bF c:List Rw} {nx:Int}:((⟨[a,b,c],nx⟩:aA)=⟨[a,bF,c],nx⟩)↔b=bF:=by simp
theorem aO9 (a b c:List Rw) (nx:Int) (k:Nat):iv ⟨[a,b,c],nx⟩ 1 k=⟨[a,gf b k,c],nx⟩:=rfl
theorem ZS {a bF c:List Rw} {nx:Int}:∀(n k:Nat) (b:List Rw) (g:Bool),b.length<=k+n->kE a b c->bF.length<=(swB a c nx n k b g).1.length ->
  aT Tryz.prog 0 (lp Tryz.prog cA 4) ⟨oH 1 k g,ig a bF c nx b,[]⟩ (.exit 4) ⟨lg 1 (swB a c nx n k b g).2,ig a bF c nx (swB a c nx n k b g).1,[]⟩:=by
 intro n;induction n with
 | zero=>
  intro k b g hk h3 hF;rw [swB];by_cases hb:b=bF
  ·subst hb;rw [km];refine bZ (E:=tX aI a b c nx) follows named (Hb aI a b c nx (k:Nat) g) ?_;simp only [ba,T.WP,All,bh,bl,bg,bm,bn,bo];exact ⟨aB,aB,fun h=>by omega,fun _=>⟨rfl,rfl⟩⟩
  ·rw [jZ hb];refine bZ (E:=wE a bF c nx) follows named (qU aI a bF c nx ⟨[a,b,c],nx⟩ 1 (k:Nat) g) ?_;simp only [ba,T.WP,All,bh,bl,bg,bm,bn,bo,bB.af];have aD:=bB.at' [a,b,c] [] 1 1 (by simp) rfl;exact ⟨⟨by simp,aD⟩,fun h=>by have h':(k:Int)<b.length:=h;omega,fun _=>⟨rfl,rfl⟩⟩
 | succ n ih=>
  intro k b g hk h3 hF;have w1:∀q:Nat,q<9223372036854775807->IntKind.i64.wrap ((q:Int)+1)=((q+1:Nat):Int):=fun q h=>bW h;have nY:=h3.b.1;have eN:=bN.at aI ⟨[],[],[],false⟩ 1 4 (by decide) rfl;have pE:(aI.getD 1 ⟨[],[],[],false⟩).root=false:=rfl;have Fs:aI.length=3:=rfl;rw [swB] at hF ⊢;by_cases bQ:k<b.length
  ·rw [decide_eq_true bQ,cond_true] at hF ⊢;have cB:=bI.at b ⟨0,[]⟩ k 2 bQ rfl;have cL:=Iq (h3.sh nx) 1 (b.getD k ⟨0,[]⟩).id (by simp [aI]);rw [show (1:Int).toNat=1 from rfl] at cL;by_cases hs:ey aI ⟨[a,b,c],nx⟩ 1 (b.getD k ⟨0,[]⟩).id=0
   ·have F6:(ey aI ⟨[a,b,c],nx⟩ 1 (b.getD k .zero).id==0)=true:=by
     have:ey aI ⟨[a,b,c],nx⟩ 1 (b.getD k .zero).id=0:=hs;rw [this];rfl
    rw [F6,cond_true] at hF ⊢;have hl:=P9 bQ;have bO:=(tJ a c nx n k (gf b k) true).1;have eZ:=ih k (gf b k) true (by omega) (h3.sub (by omega) (fun r hr=>Qa hr)) hF;have bc:¬b=bF:=by rintro rfl;omega
    rw [jZ bc];have aD:List.take 1 (List.drop (1*1) (ae az [a,b,c]))=[V.dsl b.length false (ae aq b)]:=rfl;have AN:=Ks (h3.sh nx).s 1 k (by simp) bQ;have Xk:=fun e:gf b k=bF=>e▸Vn (h3.sh nx).s k bQ;have t1:(1:Int).toNat=1:=rfl;have t2:[a,b,c].getD 1 []=b:=rfl;have t3:[a,b,c].length=3:=rfl;have w0:IntKind.i64.wrap (IntKind.i64.wrap ((k:Int) - 1)+1)=(k:Nat):=by
     rw [du (n:=(k:Int) - 1) (by omega),du (by omega)];omega
    refine bZ (E:=wE a bF c nx) follows named (qU aI a bF c nx ⟨[a,b,c],nx⟩ 1 (k:Nat) g) ?_;simp only [ba,T.WP,All,bh,bl,bg,bm,bn,bo,bB.af,bN.af,bI.af,t1,t2,t3,Int.toNat_natCast,w0];refine ⟨⟨aB,aD⟩,fun _=>⟨⟨aB,eN⟩,fun _=>⟨⟨aB,aD⟩,⟨aB,cB⟩,?_⟩,fun h=>by rw [pE] at h;cases h⟩,fun h=>by omega⟩;rintro y rfl;refine ⟨cL,fun _=>⟨fun he => ?_,fun he => ?_⟩,fun h=>absurd hs (by omega)⟩
    ·have he':gf b k=bF:=ru.1 he;refine ⟨Xk he',?_⟩;rw [show ig a bF c nx (gf b k)=fm aI a bF c nx by rw [he',km]] at eZ;exact eZ
    ·have he':¬gf b k=bF:=fun h=>he (ru.2 h);refine ⟨AN,?_⟩;rw [jZ he'] at eZ;exact eZ
   ·have F6:(ey aI ⟨[a,b,c],nx⟩ 1 (b.getD k .zero).id==0)=false:=by
     have:¬ey aI ⟨[a,b,c],nx⟩ 1 (b.getD k .zero).id=0:=hs;simpa using this
    rw [F6,cond_false] at hF ⊢;have eZ:=ih (k+1) b g (by omega) h3 hF;have aD:List.take 1 (List.drop (1*1) (ae az [a,b,c]))=[V.dsl b.length false (ae aq b)]:=rfl;have t1:(1:Int).toNat=1:=rfl;have t2:[a,b,c].getD 1 []=b:=rfl;have t3:[a,b,c].length=3:=rfl;by_cases hb:b=bF
    ·subst hb;rw [km] at eZ ⊢;have cL:=aP7 h3 nx 1 (b.getD k ⟨0,[]⟩).id false (by omega);rw [show (1:Int).toNat=1 from rfl] at cL;refine bZ (E:=tX aI a b c nx) follows named (Hb aI a b c nx (k:Nat) g) ?_;simp only [ba,T.WP,All,bh,bl,bg,bm,bn,bo,bN.af,bI.af,Int.toNat_natCast,w1 k (by omega)];refine ⟨aB,aB,fun _=>⟨⟨aB,eN⟩,fun _=>⟨aB,aB,⟨aB,cB⟩,?_⟩,fun h=>by rw [pE] at h;cases h⟩,fun h=>by omega⟩;rintro y rfl;refine ⟨cL,fun h=>absurd (show ey aI ⟨[a,b,c],nx⟩ 1 (b.getD k ⟨0,[]⟩).id=0 by omega) hs,fun _ => ?_⟩;exact eZ
    ·rw [jZ hb];rw [jZ hb] at eZ;refine bZ (E:=wE a bF c nx) follows named (qU aI a bF c nx ⟨[a,b,c],nx⟩ 1 (k:Nat) g) ?_;simp only [ba,T.WP,All,bh,bl,bg,bm,bn,bo,bB.af,bN.af,bI.af,t1,t2,t3,Int.toNat_natCast,w1 k (by omega)];refine ⟨⟨aB,aD⟩,fun _=>⟨⟨aB,eN⟩,fun _=>⟨⟨aB,aD⟩,⟨aB,cB⟩,?_⟩,fun h=>by rw [pE] at h;cases h⟩,fun h=>by omega⟩;rintro y rfl;refine ⟨cL,fun h=>absurd (show ey aI ⟨[a,b,c],nx⟩ 1 (b.getD k ⟨0,[]⟩).id=0 by omega) hs,fun _ => ?_⟩;exact eZ
  ·rw [decide_eq_false bQ,cond_false];by_cases hb:b=bF
   ·subst hb;rw [km];refine bZ (E:=tX aI a b c nx) follows named (Hb aI a b c nx (k:Nat) g) ?_;simp only [ba,T.WP,All,bh,bl,bg,bm,bn,bo];exact ⟨aB,aB,fun h=>by omega,fun _=>⟨rfl,rfl⟩⟩
   ·rw [jZ hb];refine bZ (E:=wE a bF c nx) follows named (qU aI a bF c nx ⟨[a,b,c],nx⟩ 1 (k:Nat) g) ?_;simp only [ba,T.WP,All,bh,bl,bg,bm,bn,bo,bB.af];have aD:=bB.at' [a,b,c] [] 1 1 (by simp) rfl;exact ⟨⟨by simp,aD⟩,fun h=>by have h':(k:Int)<b.length:=h;omega,fun _=>⟨rfl,rfl⟩⟩
theorem zc {S:aO} {i:Nat} (hr:(S.getD i .zero).root=true) (x:aA) (g:Bool):∀n k,swK S i n k x g=(x,g)
 | 0,k=>rfl
 | n+1,k=>by
  rw [swK,hr];cases decide (k<(x.ak.getD i []).length)
  ·rfl
  ·exact zc hr x g n (k+1)
theorem Cm (a c:List Rw) (nx:Int):∀(n k:Nat) (b:List Rw) (g:Bool),swK aI 1 n k ⟨[a,b,c],nx⟩ g=(⟨[a,(swB a c nx n k b g).1,c],nx⟩,(swB a c nx n k b g).2)
 | 0,k,b,g=>rfl
 | n+1,k,b,g=>by
  rw [swK,swB];have e1:(aA.ak ⟨[a,b,c],nx⟩).getD 1 []=b:=rfl;have e2:(!(aI.getD 1 .zero).root&&ey aI ⟨[a,b,c],nx⟩ 1 (jO ⟨[a,b,c],nx⟩ 1 k).id==0)=(ey aI ⟨[a,b,c],nx⟩ 1 (b.getD k .zero).id==0):=rfl;rw [e1,e2,aO9];cases decide (k<b.length)
  ·rfl
  ·cases ey aI ⟨[a,b,c],nx⟩ 1 (b.getD k .zero).id==0
   ·exact Cm a c nx n (k+1) b g
   ·exact Cm a c nx n k (gf b k) true
theorem aP9 (a b c:List Rw) (nx:Int) (g:Bool):tK aI 3 0 ⟨[a,b,c],nx⟩ g=(⟨[a,(swB a c nx b.length 0 b g).1,c],nx⟩,(swB a c nx b.length 0 b g).2):=by
 rw [tK,zc (i:=0) rfl];dsimp only;rw [tK,show (aA.ak ⟨[a,b,c],nx⟩).getD (0+1) []=b from rfl,show (0+1:Nat)=1 from rfl,Cm];dsimp only;rw [tK,zc (i:=2) rfl];rfl
section
variable {a bF c:List Rw} {nx:Int}
theorem ZT (b:List Rw) (g:Bool) (ha:a.length<=1048576):∀(m k:Nat),k+m=a.length ->
  aT Pz 0 (lp Pz cA 4) ⟨oH 0 k g,ig a bF c nx b,[]⟩ (.exit 4) ⟨lg 0 g,ig a bF c nx b,[]⟩:=by
 have eN:=bN.at aI ⟨[],[],[],false⟩ 0 4 (by decide) rfl;have pE:(aI.getD 0 ⟨[],[],[],false⟩).root=true:=rfl;have Fs:aI.length=3:=rfl;have aD:List.take 1 (List.drop (0*1) (ae az [a,b,c]))=[V.dsl a.length false (ae aq a)]:=rfl;have t1:(0:Int).toNat=0:=rfl;have t2:[a,b,c].getD 0 []=a:=rfl;have t3:[a,b,c].length=3:=rfl;intro m;induction m with
 | zero=>
  intro k hk;by_cases hb:b=bF
  ·subst hb;rw [km];refine bt (OY aI a b c nx (k:Nat) g) ?_;simp only [sz];exact ⟨aB,aB,fun h=>ag,fun _=>⟨rfl,rfl⟩⟩
  ·rw [jZ hb];refine bt (qU aI a bF c nx ⟨[a,b,c],nx⟩ 0 (k:Nat) g) ?_;simp only [sz,bB.af,t1,t2,t3];exact ⟨⟨aB,aD⟩,fun h=>ag,fun _=>⟨rfl,rfl⟩⟩
 | succ m ih=>
  intro k hk;have eZ:=ih (k+1) ag;have w1:=cX k;by_cases hb:b=bF
  ·subst hb;rw [km] at eZ ⊢;rw [Nat.zero_mul] at eN;refine bt (OY aI a b c nx (k:Nat) g) ?_;simp only [sz,bN.af,w1];exact ⟨aB,aB,fun _=>⟨⟨aB,eN⟩,(fun h=>by rw [pE] at h;cases h),fun _=>eZ⟩,fun h=>ag⟩
  ·rw [jZ hb] at eZ ⊢;refine bt (qU aI a bF c nx ⟨[a,b,c],nx⟩ 0 (k:Nat) g) ?_;simp only [sz,bB.af,bN.af,t1,t2,t3,w1];exact ⟨⟨aB,aD⟩,fun _=>⟨⟨aB,eN⟩,(fun h=>by rw [pE] at h;cases h),fun _=>eZ⟩,fun h=>ag⟩
theorem ZU (b:List Rw) (g:Bool) (hc:c.length<=1048576):∀(m k:Nat),k+m=c.length ->
  aT Pz 0 (lp Pz cA 4) ⟨oH 2 k g,ig a bF c nx b,[]⟩ (.exit 4) ⟨lg 2 g,ig a bF c nx b,[]⟩:=by
 have eN:=bN.at aI ⟨[],[],[],false⟩ 2 4 (by decide) rfl;have pE:(aI.getD 2 ⟨[],[],[],false⟩).root=true:=rfl;have Fs:aI.length=3:=rfl;have aD:List.take 1 (List.drop (2*1) (ae az [a,b,c]))=[V.dsl c.length false (ae aq c)]:=rfl;have t1:(2:Int).toNat=2:=rfl;have t2:[a,b,c].getD 2 []=c:=rfl;have t3:[a,b,c].length=3:=rfl;intro m;induction m with
 | zero=>
  intro k hk;by_cases hb:b=bF
  ·subst hb;rw [km];refine bt (OZ aI a b c nx (k:Nat) g) ?_;simp only [sz];exact ⟨aB,aB,fun h=>ag,fun _=>⟨rfl,rfl⟩⟩
  ·rw [jZ hb];refine bt (qU aI a bF c nx ⟨[a,b,c],nx⟩ 2 (k:Nat) g) ?_;simp only [sz,bB.af,t1,t2,t3];exact ⟨⟨aB,aD⟩,fun h=>ag,fun _=>⟨rfl,rfl⟩⟩
 | succ m ih=>
  intro k hk;have eZ:=ih (k+1) ag;have w1:=cX k;by_cases hb:b=bF
  ·subst hb;rw [km] at eZ ⊢;refine bt (OZ aI a b c nx (k:Nat) g) ?_;simp only [sz,bN.af,w1];exact ⟨aB,aB,fun _=>⟨⟨aB,eN⟩,(fun h=>by rw [pE] at h;cases h),fun _=>eZ⟩,fun h=>ag⟩
  ·rw [jZ hb] at eZ ⊢;refine bt (qU aI a bF c nx ⟨[a,b,c],nx⟩ 2 (k:Nat) g) ?_;simp only [sz,bB.af,bN.af,t1,t2,t3,w1];exact ⟨⟨aB,aD⟩,fun _=>⟨⟨aB,eN⟩,(fun h=>by rw [pE] at h;cases h),fun _=>eZ⟩,fun h=>ag⟩
theorem Hz {i:Nat} (hi:i<3) {b b':List Rw} {g g':Bool} (F9:swK aI i ([a,b,c].getD i []).length 0 ⟨[a,b,c],nx⟩ g=(⟨[a,b',c],nx⟩,g')) (hD:b=bF->b'=bF/\g'=g)
  (hl:aT Pz 0 (lp Pz cA 4) ⟨oH i 0 g,ig a bF c nx b,[]⟩ (.exit 4) ⟨lg i g',ig a bF c nx b',[]⟩) {ex:Ex} {s':St}
  (h:aT Pz 0 (lp Pz cA 2) ⟨lg ((i+1:Nat):Int) g',ig a bF c nx b',[]⟩ ex s'):aT Pz 0 (lp Pz cA 2) ⟨lg i g,ig a bF c nx b,[]⟩ ex s':=by
 have w1:=cX i
 have t3:[a,b,c].length=3:=rfl
 by_cases hb:b=bF
 ·subst hb
  obtain ⟨rfl,rfl⟩:=hD rfl
  rw [km] at *
  refine bt (OU aI a b' c nx (i:Nat) g') ?_
  simp only [sz,w1]
  refine ⟨fun _ => ?_,fun h=>ag⟩
  rintro _ -
  exact ⟨⟨a8,.aV hl⟩,h⟩
 ·rw [jZ hb] at *
  refine bt (OV aI a bF c nx ⟨[a,b,c],nx⟩ (i:Nat) g) ?_
  simp only [sz,w1,bB.af,t3,Int.toNat_natCast]
  refine ⟨fun _ => ?_,fun h=>ag⟩
  rintro y e
  have e:y=swK aI i ([a,b,c].getD i []).length 0 ⟨[a,b,c],nx⟩ g:=e
  rw [F9] at e
  subst e
  dsimp only
  refine ⟨a8,fun he => ?_,fun he => ?_⟩
  ·have he':b'=bF:=ru.1 he
   subst he'
   rw [km] at hl h
   exact ⟨.aV hl,h⟩
  ·have he':¬b'=bF:=fun h=>he (ru.2 h)
   rw [jZ he'] at hl h
   exact ⟨.aV hl,h⟩
theorem ZR {b:List Rw} (h3:kE a b c) (hF:bF.length<=(swB a c nx b.length 0 b false).1.length):
  aT Pz 0 (lp Pz cA 2) ⟨lg 0 false,ig a bF c nx b,[]⟩ (.exit 2) ⟨nk (swB a c nx b.length 0 b false).2,ig a bF c nx (swB a c nx b.length 0 b false).1,[]⟩:=by
 have l0:=ZT (bF:=bF) (c:=c) (nx:=nx) b false h3.a.1 a.length 0 ag
 have l1:=ZS (a:=a) (bF:=bF) (c:=c) (nx:=nx) b.length 0 b false ag h3 hF
 have l2:=ZU (a:=a) (bF:=bF) (c:=c) (nx:=nx) (swB a c nx b.length 0 b false).1 (swB a c nx b.length 0 b false).2 h3.c.1 c.length 0 ag
 have hlen:=tJ a c nx b.length 0 b false
 refine Hz (i:=0) ag (zc rfl _ _ _ _) (fun h=>⟨h,rfl⟩) l0 (Hz (i:=1) ag (Cm a c nx b.length 0 b false) (fun h => ?_) l1 (Hz (i:=2) ag (zc rfl _ _ _ _) (fun h=>⟨h,rfl⟩) l2 ?_))
 ·cases hg:(swB a c nx b.length 0 b false).2
  ·exact ⟨(hlen.2.2.2 hg).trans h,rfl⟩
  ·rcases hlen.2.2.1 hg with h1 | h1
   ·cases h1
   ·rw [<- h] at hF;omega
 ·generalize (swB a c nx b.length 0 b false).1=b'
  generalize (swB a c nx b.length 0 b false).2=g'
  by_cases hb:b'=bF
  ·subst hb
   rw [km]
   refine bt (OU aI a b' c nx ((3:Nat):Int) g') ?_
   simp only [sz]
   exact ⟨fun h=>ag,fun _=>⟨rfl,rfl⟩⟩
  ·rw [jZ hb]
   have t3:[a,b',c].length=3:=rfl
   refine bt (OV aI a bF c nx ⟨[a,b',c],nx⟩ ((3:Nat):Int) g') ?_
   simp only [sz,t3]
   exact ⟨fun h=>ag,fun _=>⟨rfl,rfl⟩⟩
end
section
variable {a bF c:List Rw} {nx:Int}
theorem ZQ:aT Pz 0 (lp Pz cA 0) ⟨nk false,ig a bF c nx bF,[]⟩ (.exit 0) ⟨zg,fm aI a bF c nx,[]⟩:=by
 rw [km];refine bt (OR aI a bF c nx false) ?_;simp only [sz];exact ⟨(fun h=>by cases h),fun _=>⟨rfl,rfl⟩⟩
theorem MX:∀(n:Nat) (b:List Rw),b.length<n->kE a b c->drB a c nx n b=bF ->
  aT Pz 0 (lp Pz cA 0) ⟨nk true,ig a bF c nx b,[]⟩ (.exit 0) ⟨zg,fm aI a bF c nx,[]⟩
 | 0,b,hn,h3,hF=>ag
 | n+1,b,hn,h3,hF=>by
  have hlen:=tJ a c nx b.length 0 b false;rw [drB] at hF;have hle:bF.length<=(swB a c nx b.length 0 b false).1.length:=by
   cases hg:(swB a c nx b.length 0 b false).2
   ·rw [hg,cond_false] at hF;rw [hF];exact Nat.le_refl _
   ·rw [hg,cond_true] at hF;rw [<- hF];exact (D1 a c nx n _).1
  have l2:=ZR (bF:=bF) (nx:=nx) h3 hle;have pD:aT Pz 0 (lp Pz cA 0) ⟨nk (swB a c nx b.length 0 b false).2,ig a bF c nx (swB a c nx b.length 0 b false).1,[]⟩ (.exit 0) ⟨zg,fm aI a bF c nx,[]⟩:=by
   cases hg:(swB a c nx b.length 0 b false).2
   ·rw [hg,cond_false] at hF;rw [hF];exact ZQ
   ·rw [hg,cond_true] at hF;have h1:(swB a c nx b.length 0 b false).1.length<b.length:=by
     rcases hlen.2.2.1 hg with h | h
     ·cases h
     ·exact h
    exact MX n _ ag (h3.sub hlen.1 hlen.2.1) hF
  have F9:=aP9 a b c nx false;have t3:[a,b,c].length=3:=rfl;by_cases hb:b=bF
  ·subst hb;have hg:(swB a c nx b.length 0 b false).2=false:=by
    cases hg:(swB a c nx b.length 0 b false).2
    ·rfl
    ·rcases hlen.2.2.1 hg with h | h
     ·cases h
     ·omega
   rw [hg,hlen.2.2.2 hg] at l2 pD;rw [km] at l2 pD ⊢;refine bt (OR aI a b c nx true) ?_;simp only [sz];refine ⟨fun _ => ?_,fun h=>by cases h⟩;rintro _ -;exact ⟨⟨a8,.aV l2⟩,pD⟩
  ·rw [jZ hb] at l2 ⊢;generalize (swB a c nx b.length 0 b false).1=b' at *;generalize (swB a c nx b.length 0 b false).2=g' at *;refine bt (p0F aI a bF c nx ⟨[a,b,c],nx⟩ true) ?_;simp only [sz,bB.af,t3];refine ⟨fun _ => ?_,fun h=>by cases h⟩;rintro y e;rw [F9] at e;subst e;dsimp only;refine ⟨a8,fun he => ?_,fun he => ?_⟩
   ·have he':b'=bF:=ru.1 he;subst he';rw [km] at l2 pD;exact ⟨.aV l2,pD⟩
   ·have he':¬b'=bF:=fun h=>he (ru.2 h);rw [jZ he'] at l2 pD;exact ⟨.aV l2,pD⟩
end
theorem aD2 {a b c:List Rw} {nx:Int} (h3:kE a b c):au Pz cA [.agg [ab ao aI],.agg (aM ⟨[a,b,c],nx⟩)] [] ⟨.agg (aM (dR ⟨[a,b,c],nx⟩)),[],[]⟩:=by
 have e:dR ⟨[a,b,c],nx⟩=⟨[a.map (fi (drB a c nx (b.length+1) b) 1),drB a c nx (b.length+1) b,c],nx⟩:=rfl;rw [e];have hd:=D1 a c nx (b.length+1) b;have l0:=MX (bF:=drB a c nx (b.length+1) b) (b.length+1) b ag h3 rfl;generalize hbF:drB a c nx (b.length+1) b=bF at *;have bT:=h3.sub hd.1 hd.2;have l6:=aU2 a bF c nx bT.b.1 h3.a.1 (fun r hr=>⟨(h3.a.2 r hr).1,by rw [(h3.a.2 r hr).2];exact Nat.le_refl _⟩);have t3:[a,b,c].length=3:=rfl;have gd:=Ha (h3.sh nx).s;have aW4:=fun h:b=bF=>h▸G9 (h3.sh nx).s (by simp);refine a6 (prT aI a bF c nx ⟨[a,b,c],nx⟩) ?_;simp only [sz,bB.af,Fg];refine ⟨fun hb => ?_,fun hb => ?_⟩
 ·have hb:=ru.1 hb;subst hb;rw [km] at l0;refine ⟨G9 (h3.sh nx).s (by simp),?_⟩;rintro _ -;refine ⟨⟨a8,.aV l0⟩,?_⟩;rintro _ -;exact ⟨⟨a8,.aV l6⟩,aH⟩
 ·have hb:¬b=bF:=fun h=>hb (ru.2 h);rw [jZ hb] at l0;refine ⟨gd,?_⟩;rintro _ -;refine ⟨⟨a8,.aV l0⟩,?_⟩;rintro _ -;exact ⟨⟨a8,.aV l6⟩,aH⟩
end Go.Proofs.YtlomaojlpodibaaGreat
end

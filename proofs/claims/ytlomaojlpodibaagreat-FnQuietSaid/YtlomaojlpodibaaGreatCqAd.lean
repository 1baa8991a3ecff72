/-
  Rows mutated, rows set.
  Fresh rows, cells picked.
  Codes of conditions, mutations, sets.
  Names; codes of sets; what can be told of an operation ahead of a store.
  What can be told of an operation ahead of a store.
  Sets of a row that are drawn.
  Sets of a row that are drawn: the function.
  Operations that are drawn: the loop of mutations.
  Operations that are drawn: the function's trees.
  Operations that are drawn.
  Of a sealed block less may be said.
  Lists of operations that are drawn.
  A transaction under way: numbers of inserts, rows by names.
  A transaction under way: names made numbers.
  A transaction under way: a row inserted.
  A transaction under way: rows selected.
  A transaction under way: a wait, rows changed.
  A transaction under way: rows changed.
  A transaction under way: one operation.
  A whole transaction.
  Rows that are right stay right: cells set, mutated (plain laws).
  Stores under way: what an operation keeps (plain laws).
-/
import Derived.Test.YtlomaojlpodibaaGreatCqAc
noncomputable section
namespace Go.Proofs.YtlomaojlpodibaaGreat
open Go.RowKit
set_option maxRecDepth 100000
abbrev nT:Nat:=256
def mutRW (t:Tb):List Mt->Rw->Rw×Int
 | [],r=>(r,0)
 | m::ms,r=>bif (fb (t.av.getD (bf t m.aC).toNat .zero) (r.cells.getD (bf t m.aC).toNat []) m).2 != 0 then (.zero,(fb (t.av.getD (bf t m.aC).toNat .zero) (r.cells.getD (bf t m.aC).toNat []) m).2)
  else mutRW t ms ⟨r.id,r.cells.set (bf t m.aC).toNat (fb (t.av.getD (bf t m.aC).toNat .zero) (r.cells.getD (bf t m.aC).toNat []) m).1⟩
def vO:cy:=fun f vs hp=>
 bif Nat.beq f nQ then (match vs with | [.agg [.str nm,.int _ a,.int _ b,.int _ e,.int _ g,.int _ h,.str r,.bool q],.dsl _ _ ds,.agg [.str co,.int _ fn,.dsl _ _ va]]=>some ⟨fb ⟨nm,a,b,e,g,h,r,q⟩ (af aj ds) ⟨co,fn,af aj va⟩,fun y=>⟨.tup [ab aj y.1,.int .i64 y.2],[],[]⟩⟩ | _=>none) else
 bif Nat.beq f ly then (match vs with | [.agg [.int _ d,.dsl n _ cs]]=>some ⟨(),fun _=>⟨.agg [.int .i64 d,.sl 0 0 n false],[some ([.aw cs],ix)],[]⟩⟩ | _=>none) else ye f vs hp
def np:Vw:=fun t cs i=>bif Nat.beq t lL then some (aR ((af aR cs).getD i Sx.zero)) else bif Nat.beq t Cq then some (bR ((af bR cs).getD i aZ.zero)) else zk t cs i
def iR:Env:={P:=Pz,vw:=np,res:=vO}
def tU:List V:=[.int .i64 0,.dsl 0 true []]
def tv (t:Tb) (id:Int) (cs:List aQ) (l:List Mt) (i:Int):St:=⟨ah 55 [(2,ab bR l),(3,.ptr 0 0),(4,.ptr 1 0),(6,.ptr 2 0),(8,.int .i64 i)],[some (ao t,gp),some ([.int .i64 id,.sl 3 0 cs.length false],eb),some (tU,eb),some ([.aw (ae aG cs)],ix)],[]⟩
def NG:Ex->Kp:=fun ex=>match ex with
 | .normal=>{keep:=[2,3,4,6,8],perm:=some ([0,1,2,3],[3])}
 | .ret=>{keep:=[6,7]}
 | _=>{keep:=[4,6]}
theorem PD (t:Tb) (id:Int) (cs:List aQ) (l:List Mt) (i:Int):bp iR 0 NG (lp Pz nS 0) (tv t id cs l i)=(
 let q:=aL.mk [] (0:Int) (0:Int) (0:Int) (0:Int) (0:Int) [] false;
 let q1:=List.getD (af bR (ae bR l)) i.toNat (aZ.mk [] (0:Int) []);
 let q6:=ae aY t.av;
 let q2:=af aY q6;
 let q3:=ae aG cs;
 let q4:List Prop:=[0<=i/\i<(l.length:Int),td 3 i (ae bR l)=(aE q1)];
 let q5:=af aG q3;bif decide (i<(l.length:Int)) then .ai q4 (.bind (bf (bw t.name q6 (ae aJ t.uniq) t.root) (aZ.aC q1)) fun y0=>
 let q7:=List.getD q2 y0.toNat q;
 let q9:=0+y0.toNat*1;
 let q8:=List.getD q5 (q9 / 1) [];.ai [au (Env.P iR) 178 [.agg (ao t),.str (aZ.aC q1)] [] (aF.mk (aa y0) [] [])] (.ai [0<=y0/\y0<(t.av.length:Int),td 8 y0 q6=aY q7] (.ai [0<=y0/\y0<(cs.length:Int)]
  (.ai [List.take 1 (List.drop q9 q3)=[ab aj q8]] (.ai q4 (.bind (fb (aL.mk (aL.name q7) (aL.kind q7) (aL.min q7) (aL.max q7) (aL.low q7) (aL.high q7) (aL.ref q7) (aL.fF q7)) (af aj (ae aj q8)) (aZ.mk
  (aZ.aC q1) (aZ.func q1) (af aj (ae aj (aZ.val q1))))) fun y1=> .ai [au (Env.P iR) 277 [.agg (aY q7),ab aj q8,.agg (aE q1)] [] (aF.mk (.tup [ab aj y1.1,aa y1.2]) [] [])] (bif y1.2 != 0 then .done
  (Ex.ret,St.mk (ah 55 [(6,pp 0),(7,aa y1.2)]) [some ([aa 0,.dsl 0 true []],53)] []) else .ai [0<=y0/\y0<(cs.length:Int)] (.ai [List.take 1 (List.drop q9 q3)=[ab aj q8],0+y0.toNat*1+1<=List.length q3]
  (nz (ah 55 [(2,ab bR l),(3,pp 0),(4,pp 1),(6,pp 2),(8,aa (wz (i+1)))]) [some ((ao t),44),some ([aa id,.sl 3 0 cs.length false],53),some ([aa 0,.dsl 0 true []],53),some ([.aw (List.take q9 q3++ab aj
  y1.1::List.drop (0+y0.toNat*1+1) q3)],32)]))))))))) else .done (Ex.exit 0,St.mk (ah 55 [(4,pp 0),(6,pp 1)]) [some ([aa id,.sl 2 0 cs.length false],53),some ([aa 0,.dsl 0 true []],53),some ([.aw q3],32)] []):T _):=kz
def tA (t:Tb) (id:Int) (cs:List aQ) (l:List Sx) (i:Int):St:=⟨ah 53 [(2,ab aR l),(3,.ptr 0 0),(4,.ptr 1 0),(6,.ptr 2 0),(8,.int .i64 i)],[some (ao t,gp),some ([.int .i64 id,.sl 3 0 cs.length false],eb),some (tU,eb),some ([.aw (ae aG cs)],ix)],[]⟩
theorem Qh (t:Tb) (id:Int) (cs:List aQ) (l:List Sx) (i:Int):bp iR 0 NG (lp Pz nT 0) (tA t id cs l i)=(
 let q:=List.getD (af aR (ae aR l)) i.toNat (Sx.mk [] [] []);
 let q1:=aL.mk [] (0:Int) (0:Int) (0:Int) (0:Int) (0:Int) [] false;
 let q6:=ae aY t.av;
 let q2:=af aY q6;
 let q3:List Prop:=[0<=i/\i<(l.length:Int),td 3 i (ae aR l)=[.str (Sx.aC q),ab aj (Sx.val q),ab encStr (Sx.names q)]];
 let q4:=ae aG cs;
 let q5:=ae aj (Sx.val q);
 let q7:=0+List.length (Sx.val q);bif decide (i<(l.length:Int)) then .ai q3 (.bind (bf (bw t.name q6 (ae aJ t.uniq) t.root) (Sx.aC q)) fun y0=>
 let q8:=List.getD q2 y0.toNat q1;
 let q9:=0+y0.toNat*1;.ai [au (Env.P iR) 178 [.agg (ao t),.str (Sx.aC q)] [] (aF.mk (aa y0) [] [])] (.ai [0<=y0/\y0<(t.av.length:Int),td 8 y0 q6=aY q8] (.ai q3 (.bind (dn (aL.mk (aL.name q8)
  (aL.kind q8) (aL.min q8) (aL.max q8) (aL.low q8) (aL.high q8) (aL.ref q8) (aL.fF q8)) (af aj q5)) fun y1=> .ai [au (Env.P iR) 191 [.agg (aY q8),ab aj (Sx.val q)] [] (aF.mk (aa y1) [] [])] (bif y1 != 0
  then .done (Ex.ret,St.mk (ah 53 [(6,pp 0),(7,aa y1)]) [some ([aa 0,.dsl 0 true []],53)] []) else .ai q3 (.ai [List.length q5=List.length (Sx.val q)*3,List.all q5 V.one=true,0=0,0=0,0+List.length (Sx.val q)
  <= 9223372036854775807,q7*32<=140737488355328] (.ai [0<=y0/\y0<(cs.length:Int)] (.ai [List.take 1 (List.drop q9 q4)=[ab aj (List.getD (af aG q4) (q9 / 1) [])],0+y0.toNat*1+1<=List.length q4] (nz (ah
  53 [(2,ab aR l),(3,pp 0),(4,pp 1),(6,pp 2),(8,aa (wz (i+1)))]) [some ((ao t),44),some ([aa id,.sl 3 0 cs.length false],53),some ([aa 0,.dsl 0 true []],53),some ([.aw (List.take q9 q4 ++ .dsl q7 false q5 ::
  List.drop (0+y0.toNat*1+1) q4)],32)]))))))))) else .done (Ex.exit 0,St.mk (ah 53 [(4,pp 0),(6,pp 1)]) [some ([aa id,.sl 2 0 cs.length false],53),some ([aa 0,.dsl 0 true []],53),some ([.aw q4],32)] []):T _):=kz
theorem VT {c:aL} {d:aQ} (h:dn c d=0):(d.length:Int)<=c.max:=by
 unfold dn at h;cases h1:(decide (0<d.length) && !((d.getD 0 .zero).kind==c.kind))
 ·rw [h1,cond_false] at h;cases h2: !bC d.length c.min c.max
  ·rw [Bool.not_eq_false'] at h2;unfold bC at h2;rw [Bool.and_eq_true,decide_eq_true_eq,decide_eq_true_eq] at h2;exact h2.2
  ·rw [h2] at h;cases h
 ·rw [h1] at h;cases h
theorem aj2 {c:aL} {d:aQ} {m:Mt} (h:(fb c d m).2=0):((fb c d m).1.length:Int)<=max c.max 0:=by
 unfold fb at h ⊢;cases hv:pR d m with
 | none=>rw [hv] at h;cases h
 | some v=>
  rw [hv] at h;dsimp only at h ⊢;cases hf:dn c v != 0
  ·have:=VT (c:=c) (d:=v) (by simpa using hf);rw [cond_false];dsimp only;omega
  ·rw [hf] at h;simp only [cond_true] at h;rw [h] at hf;cases hf
structure qe (t:Tb):Prop where
 n:t.av.length<=1048576
 m:∀c∈t.av,c.max<=1000
def rX (nt:Nat) (id:Int) (cs:List aQ):St:=⟨ah nt [(4,.ptr 0 0),(6,.ptr 1 0)],[some ([.int .i64 id,.sl 2 0 cs.length false],eb),some (tU,eb),some ([.aw (ae aG cs)],ix)],[]⟩
def rR (nt:Nat) (code:Int):St:=⟨ah nt [(6,.ptr 0 0),(7,.int .i64 code)],[some (tU,eb)],[]⟩
theorem PE {t:Tb} (ht:qe t) (id:Int) (l:List Mt) (hl:∀m∈l,rJ m/\0<=bf t m.aC) (cD:l.length<=1048576):∀(k i:Nat) (cs:List aQ),i+k=l.length->cs.length=t.av.length->(∀d∈cs,d.length<=1000) ->
  ((mutRW t (l.drop i) ⟨id,cs⟩).2=0->aT Tryz.prog 0 (lp Tryz.prog nS 0) (tv t id cs l i) (.exit 0) (rX 55 id (mutRW t (l.drop i) ⟨id,cs⟩).1.cells)/\(mutRW t (l.drop i) ⟨id,cs⟩).1.id=id/\(mutRW t (l.drop i) ⟨id,cs⟩).1.cells.length=cs.length) /\
  (¬(mutRW t (l.drop i) ⟨id,cs⟩).2=0->aT Tryz.prog 0 (lp Tryz.prog nS 0) (tv t id cs l i) .ret (rR 55 (mutRW t (l.drop i) ⟨id,cs⟩).2)/\(mutRW t (l.drop i) ⟨id,cs⟩).1= .zero)
 | 0,i,cs,hi,hc,hd=>by
  have hi:i=l.length:=hi
  subst hi
  rw [List.drop_length]
  refine ⟨fun _=>⟨?_,rfl,rfl⟩,fun h=>absurd rfl h⟩
  refine bZ (E:=iR) follows named (PD t id cs l (l.length:Nat)) ?_
  simp only [ba,T.WP,All,bh,bl,bg]
  exact ⟨fun h=>by omega,fun _=>⟨rfl,rfl⟩⟩
 | k+1,i,cs,hi,hc,hd=>by
  have bA:i<l.length:=by omega
  have hm:=hl _ (bH ⟨[],0,[]⟩ bA)
  have aD:=cp.at l ⟨[],0,[]⟩ i 3 bA rfl
  have hk:=nI hm.2
  have ic:=qj t (l.getD i ⟨[],0,[]⟩).aC ht.n
  have eC:=db.at' t.av ⟨[],0,0,0,0,0,[],false⟩ (bf t (l.getD i ⟨[],0,[]⟩).aC) 8 ⟨hm.2,by omega⟩ rfl
  have u0:=bP.at' cs [] (bf t (l.getD i ⟨[],0,[]⟩).aC) 1 ⟨hm.2,by omega⟩ rfl
  have jk:=ht.m _ (bH ⟨[],0,0,0,0,0,[],false⟩ hk)
  have ma:=hd _ (bH [] (show (bf t (l.getD i ⟨[],0,[]⟩).aC).toNat<cs.length by omega))
  have w1:IntKind.i64.wrap ((i:Int)+1)=((i+1:Nat):Int):=bW (by omega)
  have pz:=aj0 (c:=t.av.getD (bf t (l.getD i ⟨[],0,[]⟩).aC).toNat ⟨[],0,0,0,0,0,[],false⟩) ma hm.1
  have hlen:=aj2 (c:=t.av.getD (bf t (l.getD i ⟨[],0,[]⟩).aC).toNat ⟨[],0,0,0,0,0,[],false⟩) (d:=cs.getD (bf t (l.getD i ⟨[],0,[]⟩).aC).toNat []) (m:=l.getD i ⟨[],0,[]⟩)
  have hM:mutRW t (l.drop i) ⟨id,cs⟩=bif (fb (t.av.getD (bf t (l.getD i ⟨[],0,[]⟩).aC).toNat ⟨[],0,0,0,0,0,[],false⟩) (cs.getD (bf t (l.getD i ⟨[],0,[]⟩).aC).toNat []) (l.getD i ⟨[],0,[]⟩)).2 != 0 then (.zero,(fb (t.av.getD (bf t (l.getD i ⟨[],0,[]⟩).aC).toNat ⟨[],0,0,0,0,0,[],false⟩) (cs.getD (bf t (l.getD i ⟨[],0,[]⟩).aC).toNat []) (l.getD i ⟨[],0,[]⟩)).2)
   else mutRW t (l.drop (i+1)) ⟨id,cs.set (bf t (l.getD i ⟨[],0,[]⟩).aC).toNat (fb (t.av.getD (bf t (l.getD i ⟨[],0,[]⟩).aC).toNat ⟨[],0,0,0,0,0,[],false⟩) (cs.getD (bf t (l.getD i ⟨[],0,[]⟩).aC).toNat []) (l.getD i ⟨[],0,[]⟩)).1⟩:=by
   rw [iE ⟨[],0,[]⟩ bA,mutRW];rfl
  rw [hM]
  have kn:=fun v=>bP.setAt cs (bf t (l.getD i ⟨[],0,[]⟩).aC).toNat (by omega) v
  rw [Nat.mul_one] at u0
  generalize hq:l.getD i ⟨[],0,[]⟩=q at *
  have key:∀ {ex:Ex} {s':St},(∀w:aQ×Int,w=fb (t.av.getD (bf t q.aC).toNat ⟨[],0,0,0,0,0,[],false⟩) (cs.getD (bf t q.aC).toNat []) q->((w.2 != 0)=true->Ex.ret=ex/\rR 55 w.2=s')/\((w.2 != 0)=false->aT Tryz.prog 0 (lp Tryz.prog nS 0) (tv t id (cs.set (bf t q.aC).toNat w.1) l ((i+1:Nat):Int)) ex s'))->aT Tryz.prog 0 (lp Tryz.prog nS 0) (tv t id cs l i) ex s':=by
   intro ex s' h1
   refine bZ (E:=iR) follows named (PD t id cs l (i:Nat)) ?_
   simp only [ba,T.WP,All,bh,bl,bg,w1,cp.af,bu.af,db.af,bP.af,cH,Int.toNat_natCast,Nat.zero_add,Nat.mul_one,Nat.div_one,hq,bP.length]
   refine ⟨fun _=>⟨⟨aB,aD⟩,?_⟩,fun h=>by omega⟩
   rintro y rfl
   refine ⟨ic,⟨aB,eC⟩,aB,u0,⟨aB,aD⟩,?_⟩
   rintro w e
   have e:w=fb (t.av.getD (bf t q.aC).toNat ⟨[],0,0,0,0,0,[],false⟩) (cs.getD (bf t q.aC).toNat []) q:=e
   have h2:=h1 w e
   rw [<- e] at pz
   refine ⟨pz,h2.1,fun hw=>⟨aB,⟨u0,by omega⟩,?_⟩⟩
   have h3:=h2.2 hw
   simp only [tv,kn,List.length_set,Nat.mul_one] at h3
   exact h3
  generalize hw:fb (t.av.getD (bf t q.aC).toNat ⟨[],0,0,0,0,0,[],false⟩) (cs.getD (bf t q.aC).toNat []) q=w at *
  cases hz:w.2 != 0
  ·have Ba:w.2=0:=by simpa using hz
   have hlen:=hlen Ba
   have ih:=PE ht id l hl cD k (i+1) (cs.set (bf t q.aC).toNat w.1) (by omega) (by rw [List.length_set];exact hc) (fun d mR=>by
    rcases List.mem_or_eq_of_mem_set mR with h | rfl
    ·exact hd d h
    ·omega)
   rw [cond_false]
   refine ⟨fun h=>⟨key fun w' e => ?_,(ih.1 h).2.1,?_⟩,fun h=>⟨key fun w' e => ?_,(ih.2 h).2⟩⟩
   ·subst e;exact ⟨(fun h2=>by rw [hz] at h2;cases h2),fun _=>(ih.1 h).1⟩
   ·have:=(ih.1 h).2.2;rw [List.length_set] at this;exact this
   ·subst e;exact ⟨(fun h2=>by rw [hz] at h2;cases h2),fun _=>(ih.2 h).1⟩
  ·rw [cond_true]
   refine ⟨fun h => ?_,fun h=>⟨key fun w' e => ?_,rfl⟩⟩
   ·have h':w.2=0:=h
    rw [h'] at hz;cases hz
   ·subst e;exact ⟨fun _=>⟨rfl,rfl⟩,fun h2=>by rw [hz] at h2;cases h2⟩
def ad7:Nat->St->Option b8:=fun id s=>match id,s.tm.get 2,s.hp with
 | 0,.dsl _ _ ms,some ([.str tn,.dsl _ _ cc,.dsl _ _ uu,.bool q],_)::some ([.int _ d,_],_)::_::some ([.aw cs],_)::_=>
  some ⟨mutRW (bw tn cc uu q) (af bR ms) ⟨d,af aG cs⟩,fun y=> .two {keep:=[2,3,4,6,8]} (tv (bw tn cc uu q) d (af aG cs) (af bR ms) 0) (decide (y.2=0)) (.exit 0) (rX 55 d y.1.cells) .ret (rR 55 y.2)⟩
 | _,_,_=>none
def zE:Env:={P:=Pz,vw:=np,res:=vO,ls:=ad7}
theorem r7T (t:Tb) (r:Rw) (l:List Mt):fnT zE 0 nS [.agg (ao t),.agg (aq r),ab bR l] []=(
 let q3:=bw t.name (ae aY t.av) (ae aJ t.uniq) t.root;
 let q2:=ae aG r.cells;
 let q4:=af aG q2;
 let q:Hp:=[some ((ao q3),44),some ([aa r.id,.sl 3 0 (List.length q4) false],53),some ([aa 0,.dsl 0 true []],53),some ([.aw (ae aG q4)],32)];
 let q5:=af bR (ae bR l);
 let q1:=ah 55 [(2,ab bR q5),(3,pp 0),(4,pp 1),(6,pp 2),(8,aa 0)];.bind PUnit.unit fun _=> .ai [au (Env.P zE) 154 [.agg (aq r)] [] (aF.mk (.agg [aa r.id,.sl 0 0 r.cells.length false]) [some ([.aw q2],32)]
  [])] (.bind (mutRW q3 q5 (Rw.mk r.id q4)) fun y1=> .ai [St.mk (ah 55 [(2,ab bR l),(3,pp 0),(4,pp 1),(6,pp 2),(8,aa 0)]) [some ((ao t),44),some ([aa r.id,.sl 3 0 r.cells.length false],53),some ([aa 0,.dsl 0
  true []],53),some ([.aw q2],32)] []=St.mk q1 q []] (bif decide (y1.2=(0:Int)) then .ai [aN (Env.P zE) 0 (blk Pz nS 0) (St.mk q1 q []) (Ex.exit 0) (St.mk (ah 55 [(4,pp 0),(6,pp 1)]) [some ([aa r.id,.sl 2 0
  y1.1.cells.length false],53),some ([aa 0,.dsl 0 true []],53),some ([.aw (ae aG y1.1.cells)],32)] [])] (dz (.tup [.agg [aa r.id,ab aG y1.1.cells],aa 0]) [] []) else .ai [aN (Env.P zE) 0 (blk Pz nS 0)
  (St.mk q1 q []) Ex.ret (St.mk (ah 55 [(6,pp 0),(7,aa y1.2)]) [some ([aa 0,.dsl 0 true []],53)] [])] (dz (.tup [.agg [aa 0,.dsl 0 false []],aa y1.2]) [] []))):T _):=fz
theorem Qg {r:Rw} {id:Int} (h:r.id=id):(⟨id,r.cells⟩:Rw)=r:=by subst h;rfl
structure qa (t:Tb) (r:Rw):Prop where
 n:r.cells.length=t.av.length
 d:∀d∈r.cells,d.length<=1000
theorem qa.s {t:Tb} {r:Rw} (h:qa t r) (ht:qe t):fv r:=⟨by rw [h.n];exact ht.n,fun d hd=>Nat.le_trans (h.d d hd) ag⟩
theorem aH5 {t:Tb} {r:Rw} {l:List Mt} (ht:qe t) (hr:qa t r) (hl:∀m∈l,rJ m/\0<=bf t m.aC) (cD:l.length<=1048576):
  au Pz nS [.agg (ao t),.agg (aq r),ab bR l] [] ⟨.tup [.agg (aq (mutRW t l r).1),.int .i64 (mutRW t l r).2],[],[]⟩:=by
 have h:=PE ht r.id l hl cD l.length 0 r.cells ag hr.n hr.d
 rw [List.drop_zero] at h
 have ho:=Bs r (hr.s ht)
 refine a6 (r7T t r l) ?_
 simp only [sz,cp.af,bP.af,cH]
 rintro _ -
 refine ⟨ho,?_⟩
 rintro y e
 have e:y=mutRW t l ⟨r.id,r.cells⟩:=e
 rw [show mutRW t l r=mutRW t l ⟨r.id,r.cells⟩ from rfl]
 rw [<- e] at h ⊢
 refine ⟨a8,fun hz => ?_,fun hz => ?_⟩
 ·obtain ⟨h1,h2,h3⟩:=h.1 hz
  refine ⟨.aV h1,?_⟩
  rw [<- Qg h2,hz]
  exact aH
 ·obtain ⟨h1,h2⟩:=h.2 hz
  refine ⟨.aV h1,?_⟩
  rw [h2];exact aH
theorem Qi {t:Tb} (ht:qe t) (id:Int) (l:List Sx) (hl:∀m∈l,m.val.length<=1000/\0<=bf t m.aC) (cD:l.length<=1048576):∀(k i:Nat) (cs:List aQ),i+k=l.length->cs.length=t.av.length->(∀d∈cs,d.length<=1000) ->
  ((setRL t (l.drop i) ⟨id,cs⟩).2=0->aT Pz 0 (lp Pz nT 0) (tA t id cs l i) (.exit 0) (rX 53 id (setRL t (l.drop i) ⟨id,cs⟩).1.cells)/\(setRL t (l.drop i) ⟨id,cs⟩).1.id=id) /\
  (¬(setRL t (l.drop i) ⟨id,cs⟩).2=0->aT Pz 0 (lp Pz nT 0) (tA t id cs l i) .ret (rR 53 (setRL t (l.drop i) ⟨id,cs⟩).2)/\(setRL t (l.drop i) ⟨id,cs⟩).1= .zero)
 | 0,i,cs,hi,hc,hd=>by
  have hi:i=l.length:=hi
  subst hi
  rw [List.drop_length]
  refine ⟨fun _=>⟨?_,rfl⟩,fun h=>absurd rfl h⟩
  refine bt (Qh t id cs l (l.length:Nat)) ?_
  simp only [sz]
  exact ⟨fun h=>ag,fun _=>⟨rfl,rfl⟩⟩
 | k+1,i,cs,hi,hc,hd=>by
  have bA:i<l.length:=ag
  have hm:=hl _ (bH ⟨[],[],[]⟩ bA)
  have aD:=eE.at l ⟨[],[],[]⟩ i 3 bA rfl
  have hk:=nI hm.2
  have ic:=qj t (l.getD i ⟨[],[],[]⟩).aC ht.n
  have eC:=db.at' t.av ⟨[],0,0,0,0,0,[],false⟩ (bf t (l.getD i ⟨[],[],[]⟩).aC) 8 ⟨hm.2,ag⟩ rfl
  have u0:=bP.at' cs [] (bf t (l.getD i ⟨[],[],[]⟩).aC) 1 ⟨hm.2,ag⟩ rfl
  have w1:=cX i
  have LP:=E8 (t.av.getD (bf t (l.getD i ⟨[],[],[]⟩).aC).toNat ⟨[],0,0,0,0,0,[],false⟩) (l.getD i ⟨[],[],[]⟩).val ag
  have hM:setRL t (l.drop i) ⟨id,cs⟩=bif dn (t.av.getD (bf t (l.getD i ⟨[],[],[]⟩).aC).toNat ⟨[],0,0,0,0,0,[],false⟩) (l.getD i ⟨[],[],[]⟩).val != 0 then (.zero,dn (t.av.getD (bf t (l.getD i ⟨[],[],[]⟩).aC).toNat ⟨[],0,0,0,0,0,[],false⟩) (l.getD i ⟨[],[],[]⟩).val)
   else setRL t (l.drop (i+1)) ⟨id,cs.set (bf t (l.getD i ⟨[],[],[]⟩).aC).toNat (l.getD i ⟨[],[],[]⟩).val⟩:=by
   rw [iE ⟨[],[],[]⟩ bA,setRL];rfl
  rw [hM]
  have kn:=fun v=>bP.setAt cs (bf t (l.getD i ⟨[],[],[]⟩).aC).toNat ag v
  rw [Nat.mul_one] at u0
  generalize hq:l.getD i ⟨[],[],[]⟩=q at *
  have key:∀ {ex:Ex} {s':St},(∀w:Int,w=dn (t.av.getD (bf t q.aC).toNat ⟨[],0,0,0,0,0,[],false⟩) q.val->((w != 0)=true->Ex.ret=ex/\rR 53 w=s')/\((w != 0)=false->aT Pz 0 (lp Pz nT 0) (tA t id (cs.set (bf t q.aC).toNat q.val) l ((i+1:Nat):Int)) ex s'))->aT Pz 0 (lp Pz nT 0) (tA t id cs l i) ex s':=by
   intro ex s' h1
   refine bt (Qh t id cs l (i:Nat)) ?_
   simp only [sz,w1,eE.af,bu.af,db.af,bP.af,cH,Int.toNat_natCast,Nat.zero_add,Nat.mul_one,Nat.div_one,hq,bP.length,bu.length,bu.all]
   refine ⟨fun _=>⟨⟨aB,aD⟩,?_⟩,fun h=>ag⟩
   rintro y rfl
   refine ⟨ic,⟨aB,eC⟩,⟨aB,aD⟩,?_⟩
   rintro w e
   have e:w=dn (t.av.getD (bf t q.aC).toNat ⟨[],0,0,0,0,0,[],false⟩) q.val:=e
   have h2:=h1 w e
   rw [<- e] at LP
   refine ⟨LP,h2.1,fun hw => ?_⟩
   have h3:=h2.2 hw
   simp only [tA,kn,List.length_set,Nat.mul_one] at h3
   refine ⟨⟨aB,aD⟩,aB,aB,⟨u0,ag⟩,?_⟩
   exact h3
  generalize hw:dn (t.av.getD (bf t q.aC).toNat ⟨[],0,0,0,0,0,[],false⟩) q.val=w at *
  cases hz:w != 0
  ·have ih:=Qi ht id l hl cD k (i+1) (cs.set (bf t q.aC).toNat q.val) ag (by rw [List.length_set];exact hc) (fun d mR=>by
    rcases List.mem_or_eq_of_mem_set mR with h | rfl
    ·exact hd d h
    ·exact hm.1)
   rw [cond_false]
   refine ⟨fun h=>⟨key fun w' e => ?_,(ih.1 h).2⟩,fun h=>⟨key fun w' e => ?_,(ih.2 h).2⟩⟩
   ·subst e;exact ⟨(fun h2=>by rw [hz] at h2;cases h2),fun _=>(ih.1 h).1⟩
   ·subst e;exact ⟨(fun h2=>by rw [hz] at h2;cases h2),fun _=>(ih.2 h).1⟩
  ·rw [cond_true]
   refine ⟨fun h => ?_,fun h=>⟨key fun w' e => ?_,rfl⟩⟩
   ·have h':w=0:=h
    rw [h'] at hz;cases hz
   ·subst e;exact ⟨fun _=>⟨rfl,rfl⟩,fun h2=>by rw [hz] at h2;cases h2⟩
def ae0:Nat->St->Option b8:=fun id s=>match id,s.tm.get 2,s.hp with
 | 0,.dsl _ _ ms,some ([.str tn,.dsl _ _ cc,.dsl _ _ uu,.bool q],_)::some ([.int _ d,_],_)::_::some ([.aw cs],_)::_=>
  some ⟨setRL (bw tn cc uu q) (af aR ms) ⟨d,af aG cs⟩,fun y=> .two {keep:=[2,3,4,6,8]} (tA (bw tn cc uu q) d (af aG cs) (af aR ms) 0) (decide (y.2=0)) (.exit 0) (rX 53 d y.1.cells) .ret (rR 53 y.2)⟩
 | _,_,_=>none
def zF:Env:={P:=Pz,vw:=np,res:=vO,ls:=ae0}
theorem s8T (t:Tb) (r:Rw) (l:List Sx):fnT zF 0 nT [.agg (ao t),.agg (aq r),ab aR l] []=(
 let q3:=bw t.name (ae aY t.av) (ae aJ t.uniq) t.root;
 let q2:=ae aG r.cells;
 let q4:=af aG q2;
 let q:Hp:=[some ((ao q3),44),some ([aa r.id,.sl 3 0 (List.length q4) false],53),some ([aa 0,.dsl 0 true []],53),some ([.aw (ae aG q4)],32)];
 let q5:=af aR (ae aR l);
 let q1:=ah 53 [(2,ab aR q5),(3,pp 0),(4,pp 1),(6,pp 2),(8,aa 0)];.bind PUnit.unit fun _=> .ai [au (Env.P zF) 154 [.agg (aq r)] [] (aF.mk (.agg [aa r.id,.sl 0 0 r.cells.length false]) [some ([.aw q2],32)]
  [])] (.bind (setRL q3 q5 (Rw.mk r.id q4)) fun y1=> .ai [St.mk (ah 53 [(2,ab aR l),(3,pp 0),(4,pp 1),(6,pp 2),(8,aa 0)]) [some ((ao t),44),some ([aa r.id,.sl 3 0 r.cells.length false],53),some ([aa 0,.dsl 0
  true []],53),some ([.aw q2],32)] []=St.mk q1 q []] (bif decide (y1.2=(0:Int)) then .ai [aN (Env.P zF) 0 (blk Pz nT 0) (St.mk q1 q []) (Ex.exit 0) (St.mk (ah 53 [(4,pp 0),(6,pp 1)]) [some ([aa r.id,.sl 2 0
  y1.1.cells.length false],53),some ([aa 0,.dsl 0 true []],53),some ([.aw (ae aG y1.1.cells)],32)] [])] (dz (.tup [.agg [aa r.id,ab aG y1.1.cells],aa 0]) [] []) else .ai [aN (Env.P zF) 0 (blk Pz nT 0)
  (St.mk q1 q []) Ex.ret (St.mk (ah 53 [(6,pp 0),(7,aa y1.2)]) [some ([aa 0,.dsl 0 true []],53)] [])] (dz (.tup [.agg [aa 0,.dsl 0 false []],aa y1.2]) [] []))):T _):=fz
theorem Qr {t:Tb} {r:Rw} {l:List Sx} (ht:qe t) (hr:qa t r) (hl:∀m∈l,m.val.length<=1000/\0<=bf t m.aC) (cD:l.length<=1048576):
  au Pz nT [.agg (ao t),.agg (aq r),ab aR l] [] ⟨.tup [.agg (aq (setRL t l r).1),.int .i64 (setRL t l r).2],[],[]⟩:=by
 have h:=Qi ht r.id l hl cD l.length 0 r.cells ag hr.n hr.d
 rw [List.drop_zero] at h
 have ho:=Bs r (hr.s ht)
 refine a6 (s8T t r l) ?_
 simp only [sz,eE.af,bP.af,cH]
 rintro _ -
 refine ⟨ho,?_⟩
 rintro y e
 have e:y=setRL t l ⟨r.id,r.cells⟩:=e
 rw [show setRL t l r=setRL t l ⟨r.id,r.cells⟩ from rfl]
 rw [<- e] at h ⊢
 refine ⟨a8,fun hz => ?_,fun hz => ?_⟩
 ·obtain ⟨h1,h2⟩:=h.1 hz
  refine ⟨.aV h1,?_⟩
  rw [<- Qg h2,hz]
  exact aH
 ·obtain ⟨h1,h2⟩:=h.2 hz
  refine ⟨.aV h1,?_⟩
  rw [h2];exact aH
abbrev uD:Nat:=257
abbrev uN:Nat:=237
def B4 (t:Tb) (id:Int) (l:List aQ) (i:Int):St:=⟨ah 29 [(2,.ptr 0 0),(4,.ptr 1 0),(5,.ptr 2 0),(6,.int .i64 i)],[some (ao t,gp),some (tU,eb),some ([.int .i64 id,.sl 3 0 l.length false],eb),some ([.aw (ae aG l)],ix)],[]⟩
def am5:Ex->Kp:=fun ex=>match ex with
 | .normal=>{keep:=[2,4,5,6],perm:=some ([0,1,2,5],[3])}
 | _=>{keep:=[4,5]}
theorem Lj (t:Tb) (id:Int) (l:List aQ) (i:Int):bp iR 0 am5 (lp Pz uD 0) (B4 t id l i)=(
 let q:=List.getD (af aY (ae aY t.av)) i.toNat (aL.mk [] (0:Int) (0:Int) (0:Int) (0:Int) (0:Int) [] false);bif decide (i<(t.av.length:Int)) then .ai [0<=i/\i<(t.av.length:Int),td 8 i (ae
  aY t.av)=aY q] (.bind (jb (aL.mk (aL.name q) (aL.kind q) (aL.min q) (aL.max q) (aL.low q) (aL.high q) (aL.ref q) (aL.fF q))) fun y0=> .ai [au (Env.P iR) 203 [.agg (aY q)] [] (aF.mk (ab aj y0)
  [] [])] (.ai [0=0,List.length (ae aG l)=l.length*1,l.length+1<=9223372036854775807,(l.length+1)*24<=140737488355328] (nz (ah 29 [(2,pp 0),(4,pp 1),(5,pp 2),(6,aa (wz (i+1)))]) [some ((ao t),44),
  some ([aa 0,.dsl 0 true []],53),some ([aa id,.sl 3 0 (l.length+1) false],53),some ([.aw (ae aG l++[ab aj y0])],32)]))) else .done (Ex.exit 0,St.mk (ah 29 [(4,pp 0),(5,pp 1)]) [some ([aa 0,.dsl 0 true
  []],53),some ([aa id,.sl 2 0 l.length false],53),some ([.aw (ae aG l)],32)] []):T _):=kz
def AF (nt:Nat) (a b:Nat) (id:Int) (l:List aQ):St:=⟨ah nt [(a,.ptr 0 0),(b,.ptr 1 0)],[some (tU,eb),some ([.int .i64 id,.sl 2 0 l.length false],eb),some ([.aw (ae aG l)],ix)],[]⟩
theorem U5 (c:aL):(jb c).length<=1:=by
 unfold jb;cases c.min==0
 ·cases c.kind==1 <;> simp
 ·simp
theorem Lk (t:Tb) (id:Int) (ht:t.av.length<=1048576):∀(k i:Nat),i+k=t.av.length ->
  aT Pz 0 (lp Pz uD 0) (B4 t id ((t.av.take i).map jb) i) (.exit 0) (AF 29 4 5 id (t.av.map jb))
 | 0,i,hi=>by
  have hi:i=t.av.length:=hi;subst hi;rw [List.take_length];refine bt (Lj t id (t.av.map jb) (t.av.length:Nat)) ?_;simp only [sz];exact ⟨fun h=>ag,fun _=>⟨rfl,rfl⟩⟩
 | k+1,i,hi=>by
  have bA:i<t.av.length:=ag;have aD:=db.at t.av ⟨[],0,0,0,0,0,[],false⟩ i 8 bA rfl;have ih:=Lk t id ht k (i+1) ag;have w1:=cX i;have hd:=U6 (t.av.getD i ⟨[],0,0,0,0,0,[],false⟩);have hle:(t.av.take i).length=i:=by rw [List.length_take];omega
  rw [fU ⟨[],0,0,0,0,0,[],false⟩ bA,List.map_append,List.map_singleton] at ih;refine bt (Lj t id ((t.av.take i).map jb) (i:Nat)) ?_;simp only [sz,w1,db.af,bP.length,List.length_map,hle,Int.toNat_natCast];refine ⟨fun _=>⟨⟨aB,aD⟩,?_⟩,fun h=>ag⟩;rintro y rfl;refine ⟨hd,aB,?_⟩;simp only [B4,dF,aG,encS,ab,List.length_append,List.length_singleton,List.length_map,hle] at ih ⊢;exact ih
def aa5:Nat->St->Option b8:=fun id s=>match id,s.hp with
 | 0,some ([.str tn,.dsl _ _ cc,.dsl _ _ uu,.bool q],_)::_::_::some ([.int _ d,_],_)::_=>some ⟨(),fun _=> .one {keep:=[2,4,5,6],lI:=[(3,1)]} (B4 (bw tn cc uu q) d [] 0) (.exit 0) (AF 29 4 5 d ((bw tn cc uu q).av.map jb))⟩
 | _,_=>none
def IQ:Env:={P:=Pz,vw:=np,res:=vO,ls:=aa5}
theorem V8 (t:Tb) (id:Int):fnT IQ 0 uD [.agg (ao t),.int .i64 id] []=(
 let q:=bw t.name (ae aY t.av) (ae aJ t.uniq) t.root;
 let q1:Hp:=[some ((ao q),44),some ([aa 0,.dsl 0 true []],53),some ([aa id,.sl 3 0 0 false],53),some ([.aw []],32)];
 let q2:=ah 29 [(2,pp 0),(4,pp 1),(5,pp 2),(6,aa 0)];
 let q3:=List.map jb (Tb.av q);.bind PUnit.unit fun _=> .ai [St.mk q2 [some ((ao t),44),some ([aa 0,.dsl 0 true []],53),some ([aa id,.sl 3 0 0 false],53),some ([.aw []],32)] []=St.mk q2 q1 [],aN (Env.P
  IQ) 0 (blk Pz uD 0) (St.mk q2 q1 []) (Ex.exit 0) (St.mk (ah 29 [(4,pp 0),(5,pp 1)]) [some ([aa 0,.dsl 0 true []],53),some ([aa id,.sl 2 0 (List.length q3) false],53),some ([.aw (ae aG q3)],32)] [])] (dz (.agg
  [aa id,ab aG q3]) [] []):T _):=fz
theorem Wa (t:Tb) (id:Int) (ht:t.av.length<=1048576):au Pz uD [.agg (ao t),.int .i64 id] [] ⟨.agg (aq (gM t id)),[],[]⟩:=by
 have h:=Lk t id ht t.av.length 0 ag;refine a6 (V8 t id) ?_;simp only [sz,cH];rintro _ -;exact ⟨⟨a8,.aV h⟩,aH⟩
def m6 (t:Tb) (r:Rw) (nm:List (List UInt8)):Rw:=⟨r.id,nm.map (dw t r)⟩
def B9 (t:Tb) (r:Rw) (nm:List (List UInt8)) (l:List aQ) (i:Int):St:=⟨ah 34 [(2,ab encStr nm),(3,.ptr 0 0),(4,.ptr 1 0),(6,.ptr 2 0),(7,.ptr 3 0),(8,.int .i64 i)],[some (ao t,gp),some (aq r,eb),some (tU,eb),some ([.int .i64 r.id,.sl 4 0 l.length false],eb),some ([.aw (ae aG l)],ix)],[]⟩
def ao6:Ex->Kp:=fun ex=>match ex with
 | .normal=>{keep:=[2,3,4,6,7,8],perm:=some ([0,1,2,3,8],[4])}
 | _=>{keep:=[6,7]}
theorem O5 (t:Tb) (r:Rw) (nm:List (List UInt8)) (l:List aQ) (i:Int):bp iR 0 ao6 (lp Pz uN 0) (B9 t r nm l i)=(
 let q:=List.getD (af encStr (ae encStr nm)) i.toNat [];bif decide (i<(nm.length:Int)) then .ai [0<=i/\i<(nm.length:Int),td 1 i (ae encStr nm)=[.str q]] (.bind (dw (bw t.name (ae aY t.av) (ae aJ
  t.uniq) t.root) (Rw.mk r.id (af aG (ae aG r.cells))) q) fun y0=>
 let q1:=ae aj y0;.ai [au (Env.P iR) 242 [.agg (ao t),.agg (aq r),.str q] [] (aF.mk (ab aj y0) [] [])] (.ai [List.length q1=y0.length*3,List.all q1 V.one=true,0=0,0=0,0+y0.length <=
  9223372036854775807,(0+y0.length)*32<=140737488355328] (.ai [0=0,List.length (ae aG l)=l.length*1,l.length+1<=9223372036854775807,(l.length+1)*24<=140737488355328] (nz (ah 34 [(2,ab encStr nm),(3,pp
  0),(4,pp 1),(6,pp 2),(7,pp 3),(8,aa (wz (i+1)))]) [some ((ao t),44),some ((aq r),53),some ([aa 0,.dsl 0 true []],53),some ([aa r.id,.sl 4 0 (l.length+1) false],53),some ([.aw (ae aG l++[.dsl (0 +
  y0.length) false q1])],32)])))) else .done (Ex.exit 0,St.mk (ah 34 [(6,pp 0),(7,pp 1)]) [some ([aa 0,.dsl 0 true []],53),some ([aa r.id,.sl 2 0 l.length false],53),some ([.aw (ae aG l)],32)] []):T _):=kz
def ad0:Nat->St->Option b8:=fun id s=>match id,s.tm.get 2,s.hp with
 | 0,.dsl _ _ ns,some ([.str tn,.dsl _ _ cc,.dsl _ _ uu,.bool q],_)::some ([.int _ d,.dsl _ _ cs],_)::_=>some ⟨(),fun _=> .one {keep:=[2,3,4,6,7,8],lI:=[(4,1)]} (B9 (bw tn cc uu q) ⟨d,af aG cs⟩ (af encStr ns) [] 0) (.exit 0) (AF 34 6 7 d ((af encStr ns).map (dw (bw tn cc uu q) ⟨d,af aG cs⟩)))⟩
 | _,_,_=>none
def I7:Env:={P:=Pz,vw:=np,res:=vO,ls:=ad0}
theorem piT (t:Tb) (r:Rw) (nm:List (List UInt8)):fnT I7 0 uN [.agg (ao t),.agg (aq r),ab encStr nm] []=(
 let q4:=bw t.name (ae aY t.av) (ae aJ t.uniq) t.root;
 let q3:=Rw.mk r.id (af aG (ae aG r.cells));
 let q5:=af encStr (ae encStr nm);
 let q:=List.map (dw q4 q3) q5;
 let q1:Hp:=[some ((ao q4),44),some ((aq q3),53),some ([aa 0,.dsl 0 true []],53),some ([aa (Rw.id q3),.sl 4 0 0 false],53),some ([.aw []],32)];
 let q2:=ah 34 [(2,ab encStr q5),(3,pp 0),(4,pp 1),(6,pp 2),(7,pp 3),(8,aa 0)];.bind PUnit.unit fun _=> .ai [St.mk (ah 34 [(2,ab encStr nm),(3,pp 0),(4,pp 1),(6,pp 2),(7,pp 3),(8,aa 0)]) [some ((ao
  t),44),some ((aq r),53),some ([aa 0,.dsl 0 true []],53),some ([aa r.id,.sl 4 0 0 false],53),some ([.aw []],32)] []=St.mk q2 q1 [],aN (Env.P I7) 0 (blk Pz uN 0) (St.mk q2 q1 []) (Ex.exit 0) (St.mk (ah 34
  [(6,pp 0),(7,pp 1)]) [some ([aa 0,.dsl 0 true []],53),some ([aa r.id,.sl 2 0 (List.length q) false],53),some ([.aw (ae aG q)],32)] [])] (dz (.agg [aa r.id,ab aG q]) [] []):T _):=fz
theorem O6 {t:Tb} {r:Rw} (hr:iX t r) (nm:List (List UInt8)) (hn:nm.length<=1048576):∀(k i:Nat),i+k=nm.length ->
  aT Pz 0 (lp Pz uN 0) (B9 t r nm ((nm.take i).map (dw t r)) i) (.exit 0) (AF 34 6 7 r.id (nm.map (dw t r)))
 | 0,i,hi=>by
  have hi:i=nm.length:=hi;subst hi;rw [List.take_length];refine bt (O5 t r nm (nm.map (dw t r)) (nm.length:Nat)) ?_;simp only [sz];exact ⟨fun h=>ag,fun _=>⟨rfl,rfl⟩⟩
 | k+1,i,hi=>by
  have bA:i<nm.length:=ag;have aD:=cx.at nm [] i 1 bA rfl;have ih:=O6 hr nm hn k (i+1) ag;have w1:=cX i;have hc:=JL t r (nm.getD i []) hr.k (hr.at _);have ga:=hr.rU (nm.getD i []);have hle:(nm.take i).length=i:=by rw [List.length_take];omega
  rw [fU [] bA,List.map_append,List.map_singleton] at ih;refine bt (O5 t r nm ((nm.take i).map (dw t r)) (i:Nat)) ?_;simp only [sz,w1,cx.af,bP.af,bP.length,bu.length,bu.all,List.length_map,hle,Int.toNat_natCast,cH,Nat.zero_add];refine ⟨fun _=>⟨⟨aB,aD⟩,?_⟩,fun h=>ag⟩;rintro y e;have e:y=dw t r (nm.getD i []):=e;rw [<- e] at hc ga ih;refine ⟨hc,aB,aB,?_⟩;simp only [B9,dF,aG,encS,ab,List.length_append,List.length_singleton,List.length_map,hle] at ih ⊢;exact ih
theorem aA2 {t:Tb} {r:Rw} (hr:iX t r) (nm:List (List UInt8)) (hn:nm.length<=1048576):au Pz uN [.agg (ao t),.agg (aq r),ab encStr nm] [] ⟨.agg (aq (m6 t r nm)),[],[]⟩:=by
 have h:=O6 hr nm hn nm.length 0 ag;refine a6 (piT t r nm) ?_;simp only [sz,cx.af,bP.af,cH];rintro _ -;exact ⟨⟨a8,.aV h⟩,aH⟩
abbrev Ee:Nat:=116
abbrev oU:Nat:=52
abbrev EE:Nat:=276
abbrev qv:Nat:=254
abbrev kJ:Nat:=253
section
variable {E:Env} {m:Nat} {nf:Ex->Kp} {c:Code}
theorem xf {α:Type} {st:Nat->St} {sr:Int->St} {sx:St} (f:α->Int) (L:List α) (d:α) {t:Nat->T (Ex×St)} {ex ex':Ex}
  (hm:E.P.follows .mixedOrders=true) (hn:ee E.P) (hx:ex≠ .normal) (kq:ex'≠ .normal) (e:∀i,bp E m nf c (st i)=t i)
  (h:∀i,i<L.length->(t i).WP (· = bif f (L.getD i d) != 0 then (ex',sr (f (L.getD i d))) else (.normal,st (i+1))))
  (he:(t L.length).WP (· = (ex,sx))):∀(k i:Nat),i+k=L.length ->
   (firstC f (L.drop i)=0->aT E.P m c (st i) ex sx)/\(¬firstC f (L.drop i)=0->aT E.P m c (st i) ex' (sr (firstC f (L.drop i))))
 | 0,i,hi=>by
  obtain rfl:i=L.length:=by omega
  rw [List.drop_length]
  exact ⟨fun _=> .done (jP hm hn (e _) he) hx,fun h=>absurd rfl h⟩
 | k+1,i,hi=>by
  have h1:=h i (by omega)
  have ih:=xf f L d hm hn hx kq e h he k (i+1) (by omega)
  rw [iE d (show i<L.length by omega),firstC]
  cases hg:f (L.getD i d) != 0 with
  | true=>
   rw [hg] at h1
   have hb:=jP hm hn (e i) h1
   simp only [cond_true]
   exact ⟨fun h=>(by rw [h] at hg;cases hg),fun _=> .done hb kq⟩
  | false=>
   rw [hg] at h1
   have hb:=jP hm hn (e i) h1
   simp only [cond_false]
   exact ⟨fun h=> .step hb (ih.1 h),fun h=> .step hb (ih.2 h)⟩
end
theorem To (t:Tb) (c:aZ):fnT iR 0 Ee [.agg (ao t),.agg (aE c)] []=(
 let q:=aL.mk [] (0:Int) (0:Int) (0:Int) (0:Int) (0:Int) [] false;
 let q5:=ae aY t.av;
 let q1:=af aY q5;
 let q2:=List.getD (af aj (ae aj c.val)) 0 (At.mk (0:Int) (0:Int) []);
 let q6:=(c.val.length:Int);
 let q3:List Prop:=[(0:Int)<=0/\(0:Int)<q6,List.take 3 (List.drop 0 (ae aj c.val))=aj q2];
 let q4:=bC c.func (3:Int) (6:Int);
 let q7:=(t.av.length:Int);.bind (bf (bw t.name q5 (ae aJ t.uniq) t.root) c.aC) fun y0=>
 let q8:=List.getD q1 y0.toNat q;
 let q9:List Prop:=[0<=y0/\y0<q7,td 8 y0 q5=aY q8];.ai [au (Env.P iR) 178 [.agg (ao t),.str c.aC] [] (aF.mk (aa y0) [] [])] (bif decide (y0>=0) then .ai q9 (bif decide (q6>0) then .ai q3 (bif At.kind q2
  != aL.kind q8 then dz (aa 9) [] [] else .bind q4 fun y1=> .ai [au (Env.P iR) 51 [aa c.func,aa 3,aa 6] [] (aF.mk (.bool y1) [] [])] (bif y1 then bif aL.kind q8 != 1 then dz (aa 9) [] [] else .ai q9 (bif aL.max q8 != 1
  then dz (aa 9) [] [] else bif q6 != 1 then dz (aa 9) [] [] else dz (aa 0) [] []) else dz (aa 0) [] [])) else .bind q4 fun y2=> .ai [au (Env.P iR) 51 [aa c.func,aa 3,aa 6] [] (aF.mk (.bool y2) [] [])] (bif y2 then bif
  aL.kind q8 != 1 then dz (aa 9) [] [] else .ai q9 (bif aL.max q8 != 1 then dz (aa 9) [] [] else bif q6 != 1 then dz (aa 9) [] [] else dz (aa 0) [] []) else dz (aa 0) [] [])) else bif !c.aC==[(95:UInt8),117,117,105,100]
  then dz (aa 11) [] [] else bif decide (q6>0) then .ai q3 (bif At.kind q2 != 4 then dz (aa 9) [] [] else .bind q4 fun y3=> .ai [au (Env.P iR) 51 [aa c.func,aa 3,aa 6] [] (aF.mk (.bool y3) [] [])] (bif y3 then dz (aa
  9) [] [] else dz (aa 0) [] [])) else .bind q4 fun y4=> .ai [au (Env.P iR) 51 [aa c.func,aa 3,aa 6] [] (aF.mk (.bool y4) [] [])] (bif y4 then dz (aa 9) [] [] else dz (aa 0) [] [])):T _):=fz
theorem Tp (t:Tb) (c:aZ) (ht:t.av.length<=1048576):au Pz Ee [.agg (ao t),.agg (aE c)] [] ⟨.int .i64 (fW t c),[],[]⟩:=by
 have ic:=qj t c.aC ht;have aD:(c.val.length:Int)>0->List.take 3 (List.drop 0 (ae aj c.val))=aj (c.val.getD 0 ⟨0,0,[]⟩):=fun h=>by
  have:=bu.at c.val ⟨0,0,[]⟩ 0 3 ag rfl;rwa [Nat.zero_mul] at this
 have bc:((c.val.length:Int) != 1)=(c.val.length != 1):=by
  have:=Bk c.val.length 1;unfold bne;rw [<- this];rfl
 refine a6 (To t c) ?_;simp only [sz,cH,bu.af,db.af];rintro y rfl;refine ⟨ic,fun h0 => ?_,fun h0 => ?_⟩
 ·clear ic;have hk:=nI h0;have eC:=db.at' t.av ⟨[],0,0,0,0,0,[],false⟩ (bf t c.aC) 8 ⟨h0,ag⟩ rfl;have e1:fW t c=bif decide (0<c.val.length)&&(c.val.getD 0 ⟨0,0,[]⟩).kind != (t.av.getD (bf t c.aC).toNat ⟨[],0,0,0,0,0,[],false⟩).kind then 9
   else bif bC c.func 3 6&&((t.av.getD (bf t c.aC).toNat ⟨[],0,0,0,0,0,[],false⟩).kind != 1||(t.av.getD (bf t c.aC).toNat ⟨[],0,0,0,0,0,[],false⟩).max != 1||c.val.length != 1) then 9 else 0:=by
   unfold fW;dsimp only;rw [decide_eq_false (by omega:¬bf t c.aC<0),decide_eq_true (by omega:0<=bf t c.aC)];rfl
  rw [e1];generalize t.av.getD (bf t c.aC).toNat ⟨[],0,0,0,0,0,[],false⟩=q at *;refine ⟨⟨aB,eC⟩,fun hl=>⟨⟨aB,aD hl⟩,fun hk => ?_,fun hk => ?_⟩,fun hl => ?_⟩
  ·rw [decide_eq_true (by omega:0<c.val.length),hk];exact aH
  all_goals
   have hB:(decide (0<c.val.length)&&(c.val.getD 0 ⟨0,0,[]⟩).kind != q.kind)=false:=by
    first
    | (rw [decide_eq_false (by omega:¬0<c.val.length)];rfl)
    | (rw [hk];simp)
   rw [hB,cond_false];rintro y rfl;refine ⟨pL _ _ _,fun hy=>⟨fun h1 => ?_,fun h1=>⟨⟨aB,eC⟩,fun h2 => ?_,fun h2=>⟨fun h3 => ?_,fun h3 => ?_⟩⟩⟩,fun hy => ?_⟩
   ·rw [hy,h1];exact aH
   ·rw [hy,h1,h2];exact aH
   ·rw [bc] at h3;rw [hy,h1,h2,h3];exact aH
   ·rw [bc] at h3;rw [hy,h1,h2,h3];exact aH
   ·rw [hy];exact aH
 ·clear ic;have e1:fW t c=bif c.aC != jw then 11 else bif decide (0<c.val.length)&&(c.val.getD 0 ⟨0,0,[]⟩).kind != 4 then 9
   else bif bC c.func 3 6 then 9 else 0:=by
   unfold fW;dsimp only;rw [decide_eq_true (by omega:bf t c.aC<0),decide_eq_false (by omega:¬0<=bf t c.aC)];simp;rfl
  rw [e1];refine ⟨fun hu => ?_,fun hu=>⟨fun hl=>⟨⟨aB,aD hl⟩,fun hk => ?_,fun hk => ?_⟩,fun hl => ?_⟩⟩
  ·rw [show (c.aC != jw)=true from hu];exact aH
  ·rw [show (c.aC != jw)=false from hu,decide_eq_true (by omega:0<c.val.length),hk];exact aH
  all_goals
   have hB:(decide (0<c.val.length)&&(c.val.getD 0 ⟨0,0,[]⟩).kind != 4)=false:=by
    first
    | (rw [decide_eq_false (by omega:¬0<c.val.length)];rfl)
    | (rw [hk];simp)
   rw [show (c.aC != jw)=false from hu,hB];simp only [cond_false];rintro y rfl;refine ⟨pL _ _ _,fun hy => ?_,fun hy => ?_⟩
   ·rw [hy];exact aH
   ·rw [hy];exact aH
def BI:cy:=fun f vs hp=>
 bif Nat.beq f Ee then (match vs with | [.agg [.str tn,.dsl _ _ cc,.dsl _ _ uu,.bool r],.agg [.str co,.int _ fn,.dsl _ _ va]]=>some ⟨fW (bw tn cc uu r) ⟨co,fn,af aj va⟩,fun y=>⟨.int .i64 y,[],[]⟩⟩ | _=>none) else
 bif Nat.beq f EE then (match vs with | [.agg [.str tn,.dsl _ _ cc,.dsl _ _ uu,.bool r],.agg [.str co,.int _ fn,.dsl _ _ va]]=>some ⟨iO (bw tn cc uu r) ⟨co,fn,af aj va⟩,fun y=>⟨.int .i64 y,[],[]⟩⟩ | _=>none) else
 bif Nat.beq f oU then (match vs with | [.agg [.str tn,.dsl _ _ cc,.dsl _ _ uu,.bool r],.dsl _ _ qs]=>some ⟨firstC (fW (bw tn cc uu r)) (af aE qs),fun y=>⟨.int .i64 y,[],[]⟩⟩ | _=>none) else
 bif Nat.beq f qv then (match vs with | [.agg [.str tn,.dsl _ _ cc,.dsl _ _ uu,.bool r],.dsl _ _ qs]=>some ⟨firstC (iO (bw tn cc uu r)) (af aE qs),fun y=>⟨.int .i64 y,[],[]⟩⟩ | _=>none) else
 bif Nat.beq f kJ then (match vs with | [.agg [.str tn,.dsl _ _ cc,.dsl _ _ uu,.bool r],.dsl _ _ qs]=>some ⟨firstC (lb (bw tn cc uu r) (af aR qs)) (List.range (af aR qs).length),fun y=>⟨.int .i64 y,[],[]⟩⟩ | _=>none) else vO f vs hp
def mC:Env:={P:=Pz,vw:=np,res:=BI}
def pV (t:Tb) (l:List aZ) (i:Int):St:=⟨ah 22 [(1,ab aE l),(2,.ptr 0 0),(5,.int .i64 i)],[some (ao t,gp)],[]⟩
def vG:Ex->Kp:=fun ex=>match ex with
 | .normal=>{keep:=[1,2,5]}
 | .ret=>{keep:=[4]}
 | _=>{keep:=[]}
theorem UM (t:Tb) (l:List aZ) (i:Int):bp mC 0 vG (lp Pz oU 0) (pV t l i)=(
 let q:=List.getD (af aE (ae aE l)) i.toNat (aZ.mk [] (0:Int) []);bif decide (i<(l.length:Int)) then .ai [0<=i/\i<(l.length:Int),td 3 i (ae aE l)=(aE q)] (.bind (fW (bw t.name (ae aY
  t.av) (ae aJ t.uniq) t.root) (aZ.mk (aZ.aC q) (aZ.func q) (af aj (ae aj (aZ.val q))))) fun y0=> .ai [au (Env.P mC) 116 [.agg (ao t),.agg (aE q)] [] (aF.mk (aa y0) [] [])] (bif y0 != 0 then .done
  (Ex.ret,St.mk (ah 22 [(4,aa y0)]) [] []) else nz (ah 22 [(1,ab aE l),(2,pp 0),(5,aa (wz (i+1)))]) [some ((ao t),44)])) else .done (Ex.exit 0,St.mk (ah 22 []) [] []):T _):=kz
theorem msL (t:Tb) (l:List aZ) (i:Int):bp mC 0 vG (lp Pz qv 0) (pV t l i)=(
 let q:=List.getD (af bR (ae aE l)) i.toNat (aZ.mk [] (0:Int) []);bif decide (i<(l.length:Int)) then .ai [0<=i/\i<(l.length:Int),td 3 i (ae aE l)=(aE q)] (.bind (iO (bw t.name (ae aY
  t.av) (ae aJ t.uniq) t.root) (aZ.mk (aZ.aC q) (aZ.func q) (af aj (ae aj (aZ.val q))))) fun y0=> .ai [au (Env.P mC) 276 [.agg (ao t),.agg (aE q)] [] (aF.mk (aa y0) [] [])] (bif y0 != 0 then .done
  (Ex.ret,St.mk (ah 22 [(4,aa y0)]) [] []) else nz (ah 22 [(1,ab aE l),(2,pp 0),(5,aa (wz (i+1)))]) [some ((ao t),44)])) else .done (Ex.exit 0,St.mk (ah 22 []) [] []):T _):=kz
theorem mcT (t:Tb) (c:Mt):fnT mC 0 EE [.agg (ao t),.agg (bR c)] []=(
 let q:=aL.mk [] (0:Int) (0:Int) (0:Int) (0:Int) (0:Int) [] false;
 let q4:=ae aY t.av;
 let q1:=af aY q4;
 let q2:=List.getD (af aj (ae aj c.val)) 0 (At.mk (0:Int) (0:Int) []);
 let q3:=(c.val.length:Int);.bind (bf (bw t.name q4 (ae aJ t.uniq) t.root) c.aC) fun y0=>
 let q5:=List.getD q1 y0.toNat q;.ai [au (Env.P mC) 178 [.agg (ao t),.str c.aC] [] (aF.mk (aa y0) [] [])] (bif decide (y0<0) then dz (aa 11) [] [] else .ai [0<=y0/\y0<(t.av.length:Int),td 8 y0 q4=aY q5]
  (bif decide (q3>0) then .ai [(0:Int)<=0/\(0:Int)<q3,List.take 3 (List.drop 0 (ae aj c.val))=aj q2] (bif At.kind q2 != aL.kind q5 then dz (aa 9) [] [] else bif decide (c.func<=5) then bif aL.kind q5 != 1 then
  dz (aa 9) [] [] else bif q3 != 1 then dz (aa 9) [] [] else dz (aa 0) [] [] else dz (aa 0) [] []) else bif decide (c.func<=5) then bif aL.kind q5 != 1 then dz (aa 9) [] [] else bif q3 != 1 then dz (aa 9) [] [] else dz (aa 0) []
  [] else dz (aa 0) [] [])):T _):=fz
theorem ag4 (t:Tb) (c:Mt) (ht:t.av.length<=1048576):au Tryz.prog EE [.agg (ao t),.agg (bR c)] [] ⟨.int .i64 (iO t c),[],[]⟩:=by
 have ic:=qj t c.aC ht;have aD:(c.val.length:Int)>0->List.take 3 (List.drop 0 (ae aj c.val))=aj (c.val.getD 0 ⟨0,0,[]⟩):=fun h=>by
  have:=bu.at c.val ⟨0,0,[]⟩ 0 3 (by omega) rfl;rwa [Nat.zero_mul] at this
 have bc:((c.val.length:Int) != 1)=(c.val.length != 1):=by
  have:=Bk c.val.length 1;unfold bne;rw [<- this];rfl
 refine iG (E:=mC) follows named (mcT t c) (by simp) ?_;simp only [ba,T.WP,All,bh,bl,bg,cH,bu.af,db.af];rintro y rfl;refine ⟨ic,fun h0 => ?_,fun h0 => ?_⟩
 ·have e1:iO t c=11:=by
   unfold iO;dsimp only;rw [decide_eq_true (by omega:bf t c.aC<0)];rfl
  rw [e1];exact ⟨rfl,rfl,by simp⟩
 ·clear ic;have hk:=nI (show 0<=bf t c.aC by omega);have eC:=db.at' t.av ⟨[],0,0,0,0,0,[],false⟩ (bf t c.aC) 8 ⟨by omega,by omega⟩ rfl;have e1:iO t c=bif decide (0<c.val.length)&&(c.val.getD 0 ⟨0,0,[]⟩).kind != (t.av.getD (bf t c.aC).toNat ⟨[],0,0,0,0,0,[],false⟩).kind then 9
   else bif decide (c.func<=5)&&((t.av.getD (bf t c.aC).toNat ⟨[],0,0,0,0,0,[],false⟩).kind != 1||c.val.length != 1) then 9 else 0:=by
   unfold iO;dsimp only;rw [decide_eq_false (by omega:¬bf t c.aC<0)];rfl
  rw [e1];generalize t.av.getD (bf t c.aC).toNat ⟨[],0,0,0,0,0,[],false⟩=q at *;refine ⟨⟨aB,eC⟩,fun hl=>⟨⟨aB,aD hl⟩,fun hk => ?_,fun hk => ?_⟩,fun hl => ?_⟩
  ·rw [decide_eq_true (by omega:0<c.val.length),hk];exact ⟨rfl,rfl,by simp⟩
  all_goals
   have hB:(decide (0<c.val.length)&&(c.val.getD 0 ⟨0,0,[]⟩).kind != q.kind)=false:=by
    first
    | (rw [decide_eq_false (by omega:¬0<c.val.length)];rfl)
    | (rw [hk];simp)
   rw [hB,cond_false];refine ⟨fun hy=>⟨fun h1 => ?_,fun h1=>⟨fun h3 => ?_,fun h3 => ?_⟩⟩,fun hy => ?_⟩
   ·rw [decide_eq_true hy,h1];exact ⟨rfl,rfl,by simp⟩
   ·rw [bc] at h3;rw [decide_eq_true hy,h1,h3];exact ⟨rfl,rfl,by simp⟩
   ·rw [bc] at h3;rw [decide_eq_true hy,h1,h3];exact ⟨rfl,rfl,by simp⟩
   ·rw [decide_eq_false hy];exact ⟨rfl,rfl,by simp⟩
theorem UO (t:Tb) (l:List aZ) (ht:t.av.length<=1048576) (hl:l.length<=1048576):
  (firstC (fW t) l=0->aT Tryz.prog 0 (lp Tryz.prog oU 0) (pV t l 0) (.exit 0) ⟨ah 22 [],[],[]⟩) /\
  (¬firstC (fW t) l=0->aT Tryz.prog 0 (lp Tryz.prog oU 0) (pV t l 0) .ret ⟨ah 22 [(4,.int .i64 (firstC (fW t) l))],[],[]⟩):=by
 refine xf (E:=mC) (nf:=vG) (st:=fun i=>pV t l (i:Nat)) (sr:=fun j=>⟨ah 22 [(4,.int .i64 j)],[],[]⟩) (fW t) l ⟨[],0,[]⟩ follows named (by simp) (by simp) (fun i=>UM t l (i:Nat)) (fun i hi => ?_) ?_ l.length 0 (by simp)
 ·have aD:=cp.at l ⟨[],0,[]⟩ i 3 hi rfl
  have hc:=Tp t (l.getD i ⟨[],0,[]⟩) ht
  simp only [ba,T.WP,All,bh,bl,bg,Int.toNat_natCast,cp.af,bu.af,cH,bW (show i<9223372036854775807 by omega)]
  refine ⟨fun _=>⟨⟨aB,aD⟩,?_⟩,fun h=>by omega⟩
  rintro y e
  have e:y=fW t (l.getD i ⟨[],0,[]⟩):=e
  rw [<- e] at hc ⊢
  refine ⟨hc,fun h => ?_,fun h => ?_⟩
  ·rw [h];rfl
  ·rw [h];rfl
 ·simp only [ba,T.WP,All,bh,bl,bg]
  exact ⟨fun h=>by omega,fun _=>trivial⟩
theorem ai1 (t:Tb) (l:List Mt) (ht:t.av.length<=1048576) (hl:l.length<=1048576):
  (firstC (iO t) l=0->aT Tryz.prog 0 (lp Tryz.prog qv 0) (pV t l 0) (.exit 0) ⟨ah 22 [],[],[]⟩) /\
  (¬firstC (iO t) l=0->aT Tryz.prog 0 (lp Tryz.prog qv 0) (pV t l 0) .ret ⟨ah 22 [(4,.int .i64 (firstC (iO t) l))],[],[]⟩):=by
 refine xf (E:=mC) (nf:=vG) (st:=fun i=>pV t l (i:Nat)) (sr:=fun j=>⟨ah 22 [(4,.int .i64 j)],[],[]⟩) (iO t) l ⟨[],0,[]⟩ follows named (by simp) (by simp) (fun i=>msL t l (i:Nat)) (fun i hi => ?_) ?_ l.length 0 (by simp)
 ·have aD:=cp.at l ⟨[],0,[]⟩ i 3 hi rfl
  have hc:=ag4 t (l.getD i ⟨[],0,[]⟩) ht
  simp only [ba,T.WP,All,bh,bl,bg,Int.toNat_natCast,cp.af,bu.af,cH,bW (show i<9223372036854775807 by omega)]
  refine ⟨fun _=>⟨⟨aB,aD⟩,?_⟩,fun h=>by omega⟩
  rintro y e
  have e:y=iO t (l.getD i ⟨[],0,[]⟩):=e
  rw [<- e] at hc ⊢
  refine ⟨hc,fun h => ?_,fun h => ?_⟩
  ·rw [h];rfl
  ·rw [h];rfl
 ·simp only [ba,T.WP,All,bh,bl,bg]
  exact ⟨fun h=>by omega,fun _=>trivial⟩
def aa0 (f:Tb->aZ->Int):Nat->St->Option b8:=fun id s=>match id,s.tm.get 1,s.hp with
 | 0,.dsl _ _ qs,some ([.str tn,.dsl _ _ cc,.dsl _ _ uu,.bool q],_)::_=>some ⟨firstC (f (bw tn cc uu q)) (af aE qs),fun y=> .two {keep:=[1,2,5]} (pV (bw tn cc uu q) (af aE qs) 0) (decide (y=0)) (.exit 0) ⟨ah 22 [],[],[]⟩ .ret ⟨ah 22 [(4,.int .i64 y)],[],[]⟩⟩
 | _,_,_=>none
def IN (f:Tb->aZ->Int):Env:={P:=Pz,vw:=np,res:=BI,ls:=aa0 f}
theorem UN (t:Tb) (l:List aZ):fnT (IN fW) 0 oU [.agg (ao t),ab aE l] []=(
 let q:=bw t.name (ae aY t.av) (ae aJ t.uniq) t.root;
 let q3:=af aE (ae aE l);
 let q1:=ah 22 [(1,ab aE q3),(2,pp 0),(5,aa 0)];
 let q2:Hp:=[some ((ao q),44)];.bind (firstC (fW q) q3) fun y0=> .ai [St.mk (ah 22 [(1,ab aE l),(2,pp 0),(5,aa 0)]) [some ((ao t),44)] []=St.mk q1 q2 []] (bif decide (y0=(0:Int)) then .ai [aN Pz
  0 (blk Pz oU 0) (St.mk q1 q2 []) (Ex.exit 0) (St.mk (ah 22 []) [] [])] (dz (aa 0) [] []) else .ai [aN Pz 0 (blk Pz oU 0) (St.mk q1 q2 []) Ex.ret (St.mk (ah 22 [(4,aa y0)]) [] [])] (dz (aa y0) [] [])):T _):=fz
theorem msT (t:Tb) (l:List aZ):fnT (IN iO) 0 qv [.agg (ao t),ab aE l] []=(
 let q:=bw t.name (ae aY t.av) (ae aJ t.uniq) t.root;
 let q3:=af aE (ae aE l);
 let q1:=ah 22 [(1,ab aE q3),(2,pp 0),(5,aa 0)];
 let q2:Hp:=[some ((ao q),44)];.bind (firstC (iO q) q3) fun y0=> .ai [St.mk (ah 22 [(1,ab aE l),(2,pp 0),(5,aa 0)]) [some ((ao t),44)] []=St.mk q1 q2 []] (bif decide (y0=(0:Int)) then .ai [aN Pz 0
  (blk Pz qv 0) (St.mk q1 q2 []) (Ex.exit 0) (St.mk (ah 22 []) [] [])] (dz (aa 0) [] []) else .ai [aN Pz 0 (blk Pz qv 0) (St.mk q1 q2 []) Ex.ret (St.mk (ah 22 [(4,aa y0)]) [] [])] (dz (aa y0) [] [])):T _):=fz
theorem Tt (t:Tb) (l:List aZ) (ht:t.av.length<=1048576) (hl:l.length<=1048576):au Pz oU [.agg (ao t),ab aE l] [] ⟨.int .i64 (firstC (fW t) l),[],[]⟩:=by
 have h:=UO t l ht hl;refine a6 (UN t l) ?_;simp only [sz,cp.af,cH];rintro y rfl;refine ⟨a8,fun e=>⟨.aV (h.1 e),?_⟩,fun e=>⟨.aV (h.2 e),?_⟩⟩
 ·rw [e];exact aH
 ·exact aH
theorem ag5 (t:Tb) (l:List Mt) (ht:t.av.length<=1048576) (hl:l.length<=1048576):au Pz qv [.agg (ao t),ab bR l] [] ⟨.int .i64 (firstC (iO t) l),[],[]⟩:=by
 have h:=ai1 t l ht hl;refine a6 (msT t l) ?_;simp only [sz,cp.af,cH];rintro y rfl;refine ⟨a8,fun e=>⟨.aV (h.1 e),?_⟩,fun e=>⟨.aV (h.2 e),?_⟩⟩
 ·rw [e];exact aH
 ·exact aH
def yW (t:Tb) (l:List Sx) (i:Int):St:=⟨ah 78 [(1,ab aR l),(2,.ptr 0 0),(5,.int .i64 i)],[some (ao t,gp)],[]⟩
def yX (t:Tb) (l:List Sx) (i k j:Int):St:=⟨ah 78 [(1,ab aR l),(2,.ptr 0 0),(5,.int .i64 i),(6,.int .i64 k),(7,.int .i64 j)],[some (ao t,gp)],[]⟩
def Ie (t:Tb) (l:List Sx) (i k:Int):St:=⟨ah 78 [(1,ab aR l),(2,.ptr 0 0),(5,.int .i64 i),(6,.int .i64 k)],[some (ao t,gp)],[]⟩
def NL:Ex->Kp:=fun ex=>match ex with
 | .normal=>{keep:=[1,2,5,6,7]}
 | .ret=>{keep:=[4]}
 | _=>{keep:=[1,2,5,6]}
theorem aJ9 (t:Tb) (l:List Sx) (i k j:Int):bp mC 0 NL (lp Pz kJ 2) (yX t l i k j)=(
 let q2:=ae aR l;
 let q:=List.getD (af aR q2) j.toNat (Sx.mk [] [] []);
 let q1:=List.getD (af aR q2) i.toNat (Sx.mk [] [] []);bif decide (j<i) then .ai [0<=j/\j<(l.length:Int),td 3 j q2=[.str (Sx.aC q),ab aj (Sx.val q),ab encStr (Sx.names q)]] (.ai [0<=i/\i<(l.length:
  Int),td 3 i q2=[.str (Sx.aC q1),ab aj (Sx.val q1),ab encStr (Sx.names q1)]] (bif Sx.aC q==Sx.aC q1 then .done (Ex.ret,St.mk (ah 78 [(4,aa 8)]) [] []) else nz (ah 78 [(1,ab aR l),(2,pp 0),(5,aa i),(6,
  aa k),(7,aa (wz (j+1)))]) [some ((ao t),44)])) else .done (Ex.exit 2,St.mk (ah 78 [(1,ab aR l),(2,pp 0),(5,aa i),(6,aa k)]) [some ((ao t),44)] []):T _):=kz
def ae1:Nat->St->Option b8:=fun id s=>match id,s.tm.get 1,s.tm.get 5,s.tm.get 6,s.hp with
 | 2,.dsl _ _ qs,.int _ i,.int _ k,some ([.str tn,.dsl _ _ cc,.dsl _ _ uu,.bool q],_)::_=>some ⟨((af aR qs).take i.toNat).any (fun z=>z.aC==((af aR qs).getD i.toNat .zero).aC),fun y=> .two {keep:=[1,2,5,6,7]} (yX (bw tn cc uu q) (af aR qs) i k 0) y .ret ⟨ah 78 [(4,.int .i64 8)],[],[]⟩ (.exit 2) (Ie (bw tn cc uu q) (af aR qs) i k)⟩
 | 0,.dsl _ _ qs,_,_,some ([.str tn,.dsl _ _ cc,.dsl _ _ uu,.bool q],_)::_=>some ⟨firstC (lb (bw tn cc uu q) (af aR qs)) (List.range (af aR qs).length),fun y=> .two {keep:=[1,2,5]} (yW (bw tn cc uu q) (af aR qs) 0) (decide (y=0)) (.exit 0) ⟨ah 78 [],[],[]⟩ .ret ⟨ah 78 [(4,.int .i64 y)],[],[]⟩⟩
 | _,_,_,_,_=>none
def p7:Env:={P:=Pz,vw:=np,res:=BI,ls:=ae1}
theorem scL (t:Tb) (l:List Sx) (i:Int):bp p7 0 vG (lp Pz kJ 0) (yW t l i)=(
 let q2:=af aR (ae aR l);
 let q:=List.getD (af aR (ae aR q2)) i.toNat (Sx.mk [] [] []);
 let q1:=bw t.name (ae aY t.av) (ae aJ t.uniq) t.root;
 let q3:List Prop:=[0<=i/\i<(↑(List.length q2):Int),td 3 i (ae aR q2)=[.str (Sx.aC q),ab aj (Sx.val q),ab encStr (Sx.names q)]];
 let q4:=aL.mk [] (0:Int) (0:Int) (0:Int) (0:Int) (0:Int) [] false;
 let q5:=ah 78 [(1,ab aR q2),(2,pp 0),(5,aa (wz (i+1)))];
 let q6:=List.getD q2 i.toNat (Sx.mk [] [] []);
 let q7:Hp:=[some ((ao q1),44)];
 let q8:=af aY (ae aY (Tb.av q1));
 let q9:=List.getD (af aj (ae aj (Sx.val q))) 0 (At.mk (0:Int) (0:Int) []);
 let bK:=ah 78 [(4,aa 9)];
 let bS:=(↑(List.length (Sx.names q)):Int);
 let cF:=(↑(List.length (Sx.val q)):Int);bif decide (i<(l.length:Int)) then .ai [0<=i/\i<(l.length:Int),td 3 i (ae aR l)=[.str (Sx.aC q6),ab aj (Sx.val q6),ab encStr (Sx.names q6)]] (.bind (bf q1
  (Sx.aC q6)) fun y0=>
 let dq:=ah 78 [(1,ab aR q2),(2,pp 0),(5,aa i),(6,aa y0),(7,aa 0)];
 let dS:=List.getD q8 y0.toNat q4;.ai [au (Env.P p7) 178 [.agg (ao t),.str (Sx.aC q6)] [] (aF.mk (aa y0) [] [])] (bif decide (y0<0) then .done (Ex.ret,St.mk (ah 78 [(4,aa 11)]) [] []) else .bind (List.any (List.take
  i.toNat q2) fun z=>z.aC==Sx.aC (List.getD q2 i.toNat Sx.zero)) fun y1=> .ai [St.mk (ah 78 [(1,ab aR l),(2,pp 0),(5,aa i),(6,aa y0),(7,aa 0)]) [some ((ao t),44)] []=St.mk dq q7 []] (bif y1 then .ai
  [aN (Env.P p7) 0 (blk Pz kJ 2) (St.mk dq q7 []) Ex.ret (St.mk (ah 78 [(4,aa 8)]) [] [])] (.done (Ex.ret,St.mk (ah 78 [(4,aa 8)]) [] [])) else .ai [aN (Env.P p7) 0 (blk Pz kJ 2) (St.mk dq q7 []) (Ex.exit 2)
  (St.mk (ah 78 [(1,ab aR q2),(2,pp 0),(5,aa i),(6,aa y0)]) q7 [])] (.ai [0<=y0/\y0<(↑(List.length (Tb.av q1)):Int),td 8 y0 (ae aY (Tb.av q1))=aY dS] (.ai q3 (bif decide (cF>0) then .ai q3
  (.ai [(0:Int)<=0/\(0:Int)<cF,List.take 3 (List.drop 0 (ae aj (Sx.val q)))=aj q9] (bif At.kind q9 != aL.kind dS then .done (Ex.ret,St.mk bK [] []) else .ai q3 (bif decide (bS>0) then bif aL.kind dS != 4
  then .done (Ex.ret,St.mk bK [] []) else nz q5 q7 else nz q5 q7))) else .ai q3 (bif decide (bS>0) then bif aL.kind dS != 4 then .done (Ex.ret,St.mk bK [] []) else nz q5 q7 else nz q5 q7))))))) else .done (Ex.exit 0,St.mk
  (ah 78 []) [] []):T _):=kz
theorem scT (t:Tb) (l:List Sx):fnT p7 0 kJ [.agg (ao t),ab aR l] []=(
 let q:=bw t.name (ae aY t.av) (ae aJ t.uniq) t.root;
 let q2:=af aR (ae aR l);
 let q1:=ah 78 [(1,ab aR q2),(2,pp 0),(5,aa 0)];
 let q3:Hp:=[some ((ao q),44)];.bind (firstC (lb q q2) (List.range (List.length q2))) fun y0=> .ai [St.mk (ah 78 [(1,ab aR l),(2,pp 0),(5,aa 0)]) [some ((ao t),44)] []=St.mk q1 q3 []] (bif decide (y0=(0:
  Int)) then .ai [aN (Env.P p7) 0 (blk Pz kJ 0) (St.mk q1 q3 []) (Ex.exit 0) (St.mk (ah 78 []) [] [])] (dz (aa 0) [] []) else .ai [aN (Env.P p7) 0 (blk Pz kJ 0) (St.mk q1 q3 []) Ex.ret (St.mk (ah 78 [(4,aa y0)])
  [] [])] (dz (aa y0) [] [])):T _):=fz
abbrev EB:Nat:=270
abbrev Eu:Nat:=271
abbrev qA:Nat:=236
abbrev EL:Nat:=176
abbrev qx:Nat:=222
theorem ltT (b:Int):fnT E0 0 EB [.int .u8 b] []=(
 let q:V:= .bool (b==95);bif decide (b>=97) then bif decide (b<=122) then dz (.bool true) [] [] else bif decide (b>=65) then bif decide (b<=90) then dz (.bool true) [] [] else dz q [] [] else dz q [] [] else bif decide (b>=65)
  then bif decide (b<=90) then dz (.bool true) [] [] else dz q [] [] else dz q [] []:T _):=kz
theorem U7 (b:Int):fnT E0 0 Eu [.int .u8 b] []=(
 bif decide (b>=48) then dz (.bool (decide (b<=57))) [] [] else dz (.bool false) [] []:T _):=kz
theorem M8 (b:Int):au Pz EB [.int .u8 b] [] ⟨.bool (s6 b),[],[]⟩:=by
 refine a6 (ltT b) ?_;simp only [sz];unfold s6;by_cases h1:(97:Int)<=b <;> by_cases h2:b<=(122:Int) <;> by_cases h3:(65:Int)<=b <;> by_cases h4:b<=(90:Int) <;> simp only [h1,h2,h3,h4,decide_true,decide_false,Bool.and_true,Bool.and_false,Bool.true_or,Bool.false_or,not_true,not_false_eq_true,true_implies,false_implies,and_true,true_and] <;> exact aH
theorem Vb (b:Int):au Pz Eu [.int .u8 b] [] ⟨.bool (uo b),[],[]⟩:=by
 refine a6 (U7 b) ?_;simp only [sz];unfold uo;refine ⟨fun h => ?_,fun h => ?_⟩
 ·rw [decide_eq_true (show (48:Int)<=b from h)];exact aH
 ·rw [decide_eq_false (show ¬(48:Int)<=b from h)];exact aH
def ti:cy:=fun f vs hp=>
 bif Nat.beq f EB then (match vs with | [.int _ b]=>some ⟨s6 b,fun y=>⟨.bool y,[],[]⟩⟩ | _=>none) else
 bif Nat.beq f Eu then (match vs with | [.int _ b]=>some ⟨uo b,fun y=>⟨.bool y,[],[]⟩⟩ | _=>none) else
 bif Nat.beq f qA then (match vs with | [.str t]=>some ⟨jo t,fun y=>⟨.bool y,[],[]⟩⟩ | _=>none) else
 bif Nat.beq f EL then (match vs with | [.str t]=>some ⟨jo t,fun y=>⟨.bool y,[],[]⟩⟩ | _=>none) else BI f vs hp
def tV:Env:={P:=Pz,vw:=np,res:=ti}
def za (t:List UInt8) (i:Int):St:=⟨ah 36 [(0,.str t),(3,.int .i64 i)],[],[]⟩
def NU:Ex->Kp:=fun ex=>match ex with
 | .normal=>{keep:=[0,3]}
 | .ret=>{keep:=[2]}
 | _=>{keep:=[]}
theorem wdL (t:List UInt8) (i:Int):bp tV 0 NU (lp Pz qA 0) (za t i)=(
 let q:=(↑(UInt8.toNat (List.getD t i.toNat (0:UInt8))):Int);
 let q1:=ah 36 [(0,.str t),(3,aa (wz (i+1)))];
 let q2:=(t.length:Int);bif decide (i<q2) then .ai [0<=i/\i<q2] (.bind (s6 q) fun y0=> .ai [au (Env.P tV) 270 [.int .u8 q] [] (aF.mk (.bool y0) [] [])] (bif !y0 then .ai [0<=i/\i<q2] (.bind (uo q) fun y1=>
  .ai [au (Env.P tV) 271 [.int .u8 q] [] (aF.mk (.bool y1) [] [])] (bif !y1 then .done (Ex.ret,St.mk (ah 36 [(2,.bool false)]) [] []) else nz q1 [])) else nz q1 [])) else .done (Ex.exit 0,St.mk (ah 36 []) [] []):T _):=kz
def oI (t:List UInt8) (i:Nat):Bool:=s5 (t.getD i 0)||Kh (t.getD i 0)
def af2:Nat->St->Option b8:=fun id s=>match id,s.tm.get 0 with
 | 0,.str t=>some ⟨allN (oI t) (t.length - 1) 1,fun y=> .two {keep:=[0,3]} (za t 1) y (.exit 0) ⟨ah 36 [],[],[]⟩ .ret ⟨ah 36 [(2,.bool false)],[],[]⟩⟩
 | _,_=>none
def zG:Env:={P:=Pz,vw:=np,res:=ti,ls:=af2}
theorem wdT (t:List UInt8):fnT zG 0 qA [.str t] []=(
 let q:=ah 36 [(0,.str t),(3,aa 1)];
 let q1:=(↑(UInt8.toNat (List.getD t 0 (0:UInt8))):Int);
 let q2:=(t.length:Int);bif decide (q2<1) then dz (.bool false) [] [] else bif decide (q2>40) then dz (.bool false) [] [] else .ai [(0:Int)<=0/\(0:Int)<q2] (.bind (s6 q1) fun y0=> .ai [au (Env.P zG) 270 [.int
  .u8 q1] [] (aF.mk (.bool y0) [] [])] (bif !y0 then dz (.bool false) [] [] else .bind (allN (oI t) (t.length - 1) 1) fun y1=> .ai [St.mk q [] []=St.mk q [] []] (bif y1 then .ai [aN (Env.P zG) 0 (blk Pz qA 0) (St.mk q
  [] []) (Ex.exit 0) (St.mk (ah 36 []) [] [])] (dz (.bool true) [] []) else .ai [aN (Env.P zG) 0 (blk Pz qA 0) (St.mk q [] []) Ex.ret (St.mk (ah 36 [(2,.bool false)]) [] [])] (dz (.bool false) [] [])))):T _):=kz
theorem nmT (t:List UInt8):fnT tV 0 EL [.str t] []=(
 .bind (jo t) fun y0=> .ai [au (Env.P tV) 236 [.str t] [] (aF.mk (.bool y0) [] [])] (dz (.bool y0) [] []):T _):=fz
theorem aU9 (t:List UInt8) (ht:t.length<=1048576) (h1:1<=t.length):
  (allN (oI t) (t.length - 1) 1=true->aT Pz 0 (lp Pz qA 0) (za t 1) (.exit 0) ⟨ah 36 [],[],[]⟩) /\
  (allN (oI t) (t.length - 1) 1=false->aT Pz 0 (lp Pz qA 0) (za t 1) .ret ⟨ah 36 [(2,.bool false)],[],[]⟩):=by
 refine ju (E:=tV) (nf:=NU) (st:=fun i=>za t (i:Nat)) (n:=t.length) (oI t) follows named (by simp) (by simp) (fun i=>wdL t (i:Nat)) (fun i hi => ?_) ?_ (t.length - 1) 1 ag
 ·have w1:=cX i
  have hG:oI t i=(s6 (((t.getD i 0).toNat:Nat):Int)||uo (((t.getD i 0).toNat:Nat):Int)):=rfl
  rw [hG]
  simp only [sz,w1,Int.toNat_natCast]
  refine ⟨fun _=>⟨⟨ag,ag⟩,?_⟩,fun h=>ag⟩
  rintro y rfl
  refine ⟨M8 _,fun h=>⟨⟨ag,ag⟩,?_⟩,fun h => ?_⟩
  ·rw [Bool.not_eq_true'] at h
   rintro y rfl
   refine ⟨Vb _,fun h2 => ?_,fun h2 => ?_⟩
   ·rw [Bool.not_eq_true'] at h2;rw [h,h2];rfl
   ·rw [Bool.not_eq_false'] at h2;rw [h,h2];rfl
  ·rw [Bool.not_eq_false'] at h;rw [h];rfl
 ·simp only [sz]
  exact ⟨fun h=>ag,fun _=>trivial⟩
theorem ar4 (t:List UInt8) (h1:1<=t.length):jo t=(s5 (t.getD 0 0)&&allN (oI t) (t.length - 1) 1&&bC t.length 1 40):=by
 unfold jo;obtain ⟨n,hn⟩:∃n,t.length=n+1:=⟨t.length - 1,ag⟩;have e:allN (qS t) t.length 0=(s5 (t.getD 0 0)&&allN (oI t) (t.length - 1) 1):=by
  rw [hn];show (qS t 0&&allN (qS t) n 1)=_;have e1:qS t 0=s5 (t.getD 0 0):=by unfold qS;simp
  rw [e1,Nat.add_sub_cancel];congr 1;rw [Bool.eq_iff_iff,nF,nF];have e2:∀j,1<=j->qS t j=oI t j:=fun j hj=>by
   unfold qS oI;rw [show (j==0)=false by simp;omega];rfl
  exact ⟨fun h j h1 h2=>(e2 j h1)▸h j h1 h2,fun h j h1 h2=>(e2 j h1).symm▸h j h1 h2⟩
 rw [e]
theorem aV2 (t:List UInt8) (ht:t.length<=1048576):au Pz qA [.str t] [] ⟨.bool (jo t),[],[]⟩:=by
 refine a6 (wdT t) ?_;simp only [sz];refine ⟨fun h => ?_,fun h=>⟨fun h2 => ?_,fun h2=>⟨⟨ag,ag⟩,?_⟩⟩⟩
 ·have e:jo t=false:=by
   unfold jo bC;rw [decide_eq_false (by omega:¬(1:Int)<=t.length)];simp
  rw [e];exact aH
 ·have e:jo t=false:=by
   unfold jo bC;rw [decide_eq_false (by omega:¬(t.length:Int)<=40)];simp
  rw [e];exact aH
 ·have h1:1<=t.length:=ag;rw [ar4 t h1,show bC t.length 1 40=true by unfold bC;rw [decide_eq_true ag,decide_eq_true ag];rfl,Bool.and_true];have hl:=aU9 t ht h1;rintro y rfl;refine ⟨M8 _,fun h3 => ?_,fun h3 => ?_⟩
  ·have xl:s5 (t.getD 0 0)=false:=(Bool.not_eq_true' _).mp h3;rw [xl];exact aH
  ·have xl:s5 (t.getD 0 0)=true:=(Bool.not_eq_false' _).mp h3;rw [xl,Bool.true_and];rintro y rfl;refine ⟨a8,fun e=>⟨.aV (hl.1 e),?_⟩,fun e=>⟨.aV (hl.2 e),?_⟩⟩
   ·rw [e];exact aH
   ·rw [e];exact aH
theorem aj7 (t:List UInt8) (ht:t.length<=1048576):au Pz EL [.str t] [] ⟨.bool (jo t),[],[]⟩:=by
 refine a6 (nmT t) ?_;simp only [sz];rintro y rfl;exact ⟨aV2 t ht,aH⟩
theorem aJ8 (t:Tb) (l:List Sx) (k:Int) (i:Nat) (hi:i<l.length) (hl:l.length<=1048576):
  ((l.take i).any (fun z=>z.aC==(l.getD i .zero).aC)=true->aT Tryz.prog 0 (lp Tryz.prog kJ 2) (yX t l i k 0) .ret ⟨ah 78 [(4,.int .i64 8)],[],[]⟩) /\
  ((l.take i).any (fun z=>z.aC==(l.getD i .zero).aC)=false->aT Tryz.prog 0 (lp Tryz.prog kJ 2) (yX t l i k 0) (.exit 2) (Ie t l i k)):=by
 have hle:(l.take i).length=i:=by rw [List.length_take];omega
 have e:(l.take i).any (fun z=>z.aC==(l.getD i .zero).aC)= !allN (fun j=> !((l.getD j .zero).aC==(l.getD i .zero).aC)) i 0:=by
  rw [<- Bool.not_not ((l.take i).any _)]
  congr 1
  have h1:=qf (fun z:Sx=> !(z.aC==(l.getD i .zero).aC)) .zero (l.take i)
  rw [hle] at h1
  rw [List.not_any_eq_all_not,<- h1,Bool.eq_iff_iff,nF,nF]
  have ht:∀j,j<i->(l.take i).getD j .zero=l.getD j .zero:=fun j hj=>by
   rw [List.getD_eq_getElem?_getD,List.getD_eq_getElem?_getD,List.getElem?_take_of_lt hj]
  exact ⟨fun h j h1 h2=>by rw [<- ht j ag];exact h j h1 h2,fun h j h1 h2=>by rw [ht j ag];exact h j h1 h2⟩
 rw [e]
 have hs:=ju (E:=mC) (m:=0) (nf:=NL) (c:=lp Tryz.prog kJ 2) (st:=fun j=>yX t l i k (j:Nat)) (n:=i) (fun j=> !((l.getD j .zero).aC==(l.getD i .zero).aC)) (ex:= .exit 2) (ex':= .ret) (sx:=Ie t l i k) (sr:=⟨ah 78 [(4,.int .i64 8)],[],[]⟩) follows named (by simp) (by simp) (fun j=>aJ9 t l i k (j:Nat)) (fun j hj => ?_) ?_ i 0 (by simp)
 ·exact ⟨fun h=>hs.2 (by rw [Bool.not_eq_true'] at h;exact h),fun h=>hs.1 (by rw [Bool.not_eq_false'] at h;exact h)⟩
 ·have aD:=eE.at l .zero j 3 ag rfl
  have cB:=eE.at l .zero i 3 hi rfl
  have w1:IntKind.i64.wrap ((j:Int)+1)=((j+1:Nat):Int):=bW ag
  simp only [Sx.zero] at *
  simp only [ba,T.WP,All,bh,bl,bg,bm,bn,bo,w1,eE.af,Int.toNat_natCast]
  refine ⟨fun _=>⟨⟨aB,aD⟩,⟨aB,cB⟩,fun h => ?_,fun h => ?_⟩,fun h=>ag⟩
  ·rw [show ((l.getD j ⟨[],[],[]⟩).aC==(l.getD i ⟨[],[],[]⟩).aC)=true by simpa using h];rfl
  ·rw [show ((l.getD j ⟨[],[],[]⟩).aC==(l.getD i ⟨[],[],[]⟩).aC)=false by simpa using h];rfl
 ·simp only [ba,T.WP,All,bh,bl,bg,bm,bn,bo]
  exact ⟨fun h=>ag,fun _=>rfl⟩
theorem aD8 (n i:Nat) (hi:i<n):(List.range n).getD i 0=i:=by
 rw [List.getD_eq_getElem?_getD,List.getElem?_range hi];rfl
theorem aK0 (t:Tb) (l:List Sx) (ht:t.av.length<=1048576) (hl:l.length<=1048576):
  (firstC (lb t l) (List.range l.length)=0->aT Tryz.prog 0 (lp Tryz.prog kJ 0) (yW t l 0) (.exit 0) ⟨ah 78 [],[],[]⟩) /\
  (¬firstC (lb t l) (List.range l.length)=0->aT Tryz.prog 0 (lp Tryz.prog kJ 0) (yW t l 0) .ret ⟨ah 78 [(4,.int .i64 (firstC (lb t l) (List.range l.length)))],[],[]⟩):=by
 refine xf (E:=p7) (nf:=vG) (st:=fun i=>yW t l (i:Nat)) (sr:=fun j=>⟨ah 78 [(4,.int .i64 j)],[],[]⟩) (lb t l) (List.range l.length) 0 follows named (by simp) (by simp) (fun i=>scL t l (i:Nat)) (fun i hi => ?_) ?_ (List.range l.length).length 0 (by simp)
 ·rw [List.length_range] at hi
  rw [aD8 _ _ hi]
  have aD:=eE.at l ⟨[],[],[]⟩ i 3 hi rfl
  have ic:=qj t (l.getD i ⟨[],[],[]⟩).aC ht
  have w1:IntKind.i64.wrap ((i:Int)+1)=((i+1:Nat):Int):=bW (by omega)
  have eh:=fun k=>aJ8 t l k i hi hl
  have hS:lb t l i=bif decide (bf t (l.getD i ⟨[],[],[]⟩).aC<0) then 11
    else bif (l.take i).any (fun q=>q.aC==(l.getD i ⟨[],[],[]⟩).aC) then 8
    else bif (decide (0<(l.getD i ⟨[],[],[]⟩).val.length)&&((l.getD i ⟨[],[],[]⟩).val.getD 0 ⟨0,0,[]⟩).kind != (t.av.getD (bf t (l.getD i ⟨[],[],[]⟩).aC).toNat ⟨[],0,0,0,0,0,[],false⟩).kind)||(decide (0<(l.getD i ⟨[],[],[]⟩).names.length)&&(t.av.getD (bf t (l.getD i ⟨[],[],[]⟩).aC).toNat ⟨[],0,0,0,0,0,[],false⟩).kind != 4) then 9 else 0:=rfl
  rw [hS]
  simp only [Sx.zero] at eh
  simp only [ba,T.WP,All,bh,bl,bg,w1,eE.af,bu.af,db.af,cH,Int.toNat_natCast]
  generalize hq:l.getD i ⟨[],[],[]⟩=q at *
  refine ⟨fun _=>⟨⟨aB,aD⟩,?_⟩,fun h=>by omega⟩
  rintro y rfl
  refine ⟨ic,fun h0 => ?_,fun h0 => ?_⟩
  ·rw [decide_eq_true h0];rfl
  ·rw [decide_eq_false h0,cond_false]
   have hk:=nI (show 0<=bf t q.aC by omega)
   have eC:=db.at' t.av ⟨[],0,0,0,0,0,[],false⟩ (bf t q.aC) 8 ⟨by omega,by omega⟩ rfl
   have AJ:(q.val.length:Int)>0->List.take 3 (List.drop 0 (ae aj q.val))=aj (q.val.getD 0 ⟨0,0,[]⟩):=fun h=>by
    have:=bu.at q.val ⟨0,0,[]⟩ 0 3 (by omega) rfl
    rwa [Nat.zero_mul] at this
   generalize t.av.getD (bf t q.aC).toNat ⟨[],0,0,0,0,0,[],false⟩=cc at *
   rintro y e
   have e:y=(l.take i).any (fun z=>z.aC==q.aC):=by rw [e,<- hq];rfl
   have FH:=eh (bf t q.aC)
   rw [<- e] at FH
   rw [<- e]
   clear eh ic
   refine ⟨a8,fun h=>⟨.aV (FH.1 h),?_⟩,fun h=>⟨.aV (FH.2 h),⟨aB,eC⟩,⟨aB,aD⟩,fun hv=>⟨⟨aB,aD⟩,⟨aB,AJ hv⟩,fun hk => ?_,fun hk=>⟨⟨aB,aD⟩,fun hn=>⟨fun h4 => ?_,fun h4 => ?_⟩,fun hn => ?_⟩⟩,fun hv=>⟨⟨aB,aD⟩,fun hn=>⟨fun h4 => ?_,fun h4 => ?_⟩,fun hn => ?_⟩⟩⟩
   ·rw [h];rfl
   ·rw [h,cond_false,decide_eq_true (by omega:0<q.val.length),hk];rfl
   ·rw [h,cond_false,decide_eq_true (by omega:0<q.val.length),hk,decide_eq_true (by omega:0<q.names.length),h4];rfl
   ·rw [h,cond_false,decide_eq_true (by omega:0<q.val.length),hk,decide_eq_true (by omega:0<q.names.length),h4];rfl
   ·rw [h,cond_false,decide_eq_true (by omega:0<q.val.length),hk,decide_eq_false (by omega:¬0<q.names.length)];rfl
   ·rw [h,cond_false,decide_eq_false (by omega:¬0<q.val.length),decide_eq_true (by omega:0<q.names.length),h4];rfl
   ·rw [h,cond_false,decide_eq_false (by omega:¬0<q.val.length),decide_eq_true (by omega:0<q.names.length),h4];rfl
   ·rw [h,cond_false,decide_eq_false (by omega:¬0<q.val.length),decide_eq_false (by omega:¬0<q.names.length)];rfl
 ·rw [List.length_range]
  simp only [ba,T.WP,All,bh,bl,bg]
  exact ⟨fun h=>by omega,fun _=>trivial⟩
theorem aK3 (t:Tb) (l:List Sx) (ht:t.av.length<=1048576) (hl:l.length<=1048576):au Pz kJ [.agg (ao t),ab aR l] [] ⟨.int .i64 (firstC (lb t l) (List.range l.length)),[],[]⟩:=by
 have h:=aK0 t l ht hl;refine a6 (scT t l) ?_;simp only [sz,eE.af,cH];rintro y rfl;refine ⟨a8,fun e=>⟨.aV (h.1 e),?_⟩,fun e=>⟨.aV (h.2 e),?_⟩⟩
 ·rw [e];exact aH
 ·exact aH
def yO (o:Op') (t:Tb) (i:Int):St:=⟨ah 88 [(3,.ptr 0 0),(6,.ptr 1 0),(7,.int .i64 i)],[some (aK o,iQ),some (ao t,gp)],[]⟩
def Ny:Ex->Kp:=fun ex=>match ex with
 | .normal=>{keep:=[3,6,7]}
 | .ret=>{keep:=[4]}
 | _=>{keep:=[3,6]}
def tS:Vw:=fun t cs i=>bif Nat.beq t 9 then some (encStr ((af encStr cs).getD i [])) else np t cs i
def p5:Env:={P:=Pz,vw:=tS,res:=ti}
theorem ocL (o:Op') (t:Tb) (i:Int):bp p5 0 Ny (lp Pz qx 0) (yO o t i)=(
 let q:Hp:=[some ([aa o.kind,.str o.table,.str o.name,ab aE o.aS,ab aR o.row,ab bR o.cC,ab encStr o.av,.bool o.gV],178),some ((ao t),44)];
 let q4:=ae encStr o.av;
 let q1:=List.getD (af encStr q4) i.toNat [];
 let q2:List Prop:=[0<=i/\i<(o.av.length:Int),td 1 i q4=[.str q1]];
 let q3:=ah 88 [(3,pp 0),(6,pp 1),(7,aa (wz (i+1)))];bif decide (i<(o.av.length:Int)) then .ai q2 (bif !List.getD (af encStr q4) i.toNat []==[(95:UInt8),117,117,105,100] then .ai q2 (.bind (bf (bw
  t.name (ae aY t.av) (ae aJ t.uniq) t.root) q1) fun y0=> .ai [au (Env.P p5) 178 [.agg (ao t),.str q1] [] (aF.mk (aa y0) [] [])] (bif decide (y0<0) then .done (Ex.ret,St.mk (ah 88 [(4,aa 11)]) [] []) else
  nz q3 q)) else nz q3 q) else .done (Ex.exit 0,St.mk (ah 88 [(3,pp 0),(6,pp 1)]) q []):T _):=kz
def ac3 (o:Op') (t:Tb):Nat->St->Option b8:=fun id _=>match id with
 | 0=>some ⟨firstC (kW t) o.av,fun y=> .two {keep:=[3,6,7]} (yO o t 0) (decide (y=0)) (.exit 0) ⟨ah 88 [(3,.ptr 0 0),(6,.ptr 1 0)],[some (aK o,iQ),some (ao t,gp)],[]⟩ .ret ⟨ah 88 [(4,.int .i64 11)],[],[]⟩⟩
 | _=>none
def I3 (o:Op') (t:Tb):Env:={P:=Pz,vw:=tS,res:=ti,ls:=ac3 o t}
theorem ocT (S:aO) (o:Op') (t:Tb):fnT (I3 o t) 0 qx [.agg [ab ao S],.agg (aK o)] []=(
 let q:Hp:=[some ([aa o.kind,.str o.table,.str o.name,ab aE o.aS,ab aR o.row,ab bR o.cC,ab encStr o.av,.bool o.gV],178),some ((ao t),44)];
 let q1:=bw t.name (ae aY t.av) (ae aJ t.uniq) t.root;
 let q2:=ah 88 [(3,pp 0),(6,pp 1),(7,aa 0)];
 let na:=af aR (ae aR o.row);
 let q3:=firstC (lb q1 na) (List.range (List.length na));
 let jN:=ae ao S;
 let q4:=af ao jN;
 let q5:=firstC (fW q1) (af aE (ae aE o.aS));
 let q6:=Tb.mk [] [] [] false;
 let q7:=firstC (iO q1) (af aE (ae bR o.cC));
 let q8:=St.mk (ah 88 [(3,pp 0),(6,pp 1)]) q [];
 let q9:=St.mk (ah 88 [(4,aa 11)]) [] [];
 let bK:=blk Pz qx 0;
 let bS:=St.mk q2 q [];
 let cF:List V:=[.agg (ao t),ab aE o.aS];
 let dq:List V:=[.agg (ao t),ab bR o.cC];
 let dS:List V:=[.agg (ao t),ab aR o.row];
 let gT:=firstC (kW t) o.av;
 let jr:=dz (aa 11) [] [];
 let mq:=(S.length:Int);bif decide (o.kind>6) then bif o.kind==10 then .bind (jo o.name) fun y0=>cz 176 [.str o.name] [] (.bool y0) [] [] (bif !y0 then dz (aa 3) [] [] else dz (aa 0) [] []) else dz (aa 0) [] [] else .bind
  (dk q4 o.table) fun y1=>
 let pU:=ao (List.getD q4 y1.toNat q6);
 let fS:List Prop:=[St.mk q2 [some ([aa o.kind,.str o.table,.str o.name,ab aE o.aS,ab aR o.row,ab bR o.cC,ab encStr o.av,.bool o.gV],178),some (pU,44)] []=St.mk q2 q []];
 let kv:List Prop:=[0<=y1/\y1<mq,td 4 y1 jN=pU];cz 113 [.agg [ab ao S],.str o.table] [] (aa y1) [] [] (bif decide (y1<0) then dz (aa 10) [] [] else bif o.kind==1 then bif !o.name==[] then .bind (jo o.name)
  fun y2=>cz 176 [.str o.name] [] (.bool y2) [] [] (bif !y2 then dz (aa 3) [] [] else .ai kv (.bind gT fun y3=> .ai fS (bif decide (y3=(0:Int)) then .ai [aN Pz 0 bK bS (Ex.exit 0) q8] (.bind q5 fun y4=>cz 52 cF
  [] (aa y4) [] [] (bif y4 != 0 then dz (aa y4) [] [] else .bind q3 fun y5=>cz 253 dS [] (aa y5) [] [] (bif y5 != 0 then dz (aa y5) [] [] else .bind q7 fun y6=>cz 254 dq [] (aa y6) [] [] (dz (aa y6) [] [])))) else .ai
  [aN Pz 0 bK bS Ex.ret q9] jr))) else .ai kv (.bind gT fun y7=> .ai fS (bif decide (y7=(0:Int)) then .ai [aN Pz 0 bK bS (Ex.exit 0) q8] (.bind q5 fun y8=>cz 52 cF [] (aa y8) [] [] (bif y8 != 0 then dz (aa
  y8) [] [] else .bind q3 fun y9=>cz 253 dS [] (aa y9) [] [] (bif y9 != 0 then dz (aa y9) [] [] else .bind q7 fun cY=>cz 254 dq [] (aa cY) [] [] (dz (aa cY) [] [])))) else .ai [aN Pz 0 bK bS Ex.ret q9] jr)) else
  .ai kv (.bind gT fun cG=> .ai fS (bif decide (cG=(0:Int)) then .ai [aN Pz 0 bK bS (Ex.exit 0) q8] (.bind q5 fun dD=>cz 52 cF [] (aa dD) [] [] (bif dD != 0 then dz (aa dD) [] [] else .bind q3 fun ff=>cz
  253 dS [] (aa ff) [] [] (bif ff != 0 then dz (aa ff) [] [] else .bind q7 fun dK=>cz 254 dq [] (aa dK) [] [] (dz (aa dK) [] [])))) else .ai [aN Pz 0 bK bS Ex.ret q9] jr))):T _):=kz
theorem GK (t:Tb):∀l:List (List UInt8),firstC (kW t) l=0\/firstC (kW t) l=11
 | []=> .inl rfl
 | x::l=>by
  rw [firstC];cases h:kW t x != 0
  ·exact GK t l
  ·right;unfold kW at h ⊢;cases h2:x != jw&&decide (bf t x<0)
   ·rw [h2] at h;cases h
   ·rfl
theorem at0 (o:Op') (t:Tb) (ht:t.av.length<=1048576) (hl:o.av.length<=1048576):
  (firstC (kW t) o.av=0->aT Pz 0 (lp Pz qx 0) (yO o t 0) (.exit 0) ⟨ah 88 [(3,.ptr 0 0),(6,.ptr 1 0)],[some (aK o,iQ),some (ao t,gp)],[]⟩) /\
  (¬firstC (kW t) o.av=0->aT Pz 0 (lp Pz qx 0) (yO o t 0) .ret ⟨ah 88 [(4,.int .i64 11)],[],[]⟩):=by
 have key:=xf (E:=p5) (m:=0) (nf:=Ny) (c:=lp Pz qx 0) (st:=fun i=>yO o t (i:Nat)) (sr:=fun j=>⟨ah 88 [(4,.int .i64 j)],[],[]⟩) (sx:=⟨ah 88 [(3,.ptr 0 0),(6,.ptr 1 0)],[some (aK o,iQ),some (ao t,gp)],[]⟩) (ex:= .exit 0) (ex':= .ret) (kW t) o.av [] follows named (by simp) (by simp) (fun i=>ocL o t (i:Nat)) (fun i hi => ?_) ?_ o.av.length 0 (by simp)
 ·rw [List.drop_zero] at key
  refine ⟨key.1,fun h => ?_⟩
  have:=key.2 h
  rcases GK t o.av with h2 | h2
  ·exact absurd h2 h
  ·rw [h2] at this;exact this
 ·have aD:=cx.at o.av [] i 1 hi rfl
  have ic:=qj t (o.av.getD i []) ht
  have w1:=cX i
  have hN:kW t (o.av.getD i [])=bif o.av.getD i [] != jw&&decide (bf t (o.av.getD i [])<0) then 11 else 0:=rfl
  rw [hN]
  simp only [sz,w1,cx.af,cH,Int.toNat_natCast]
  generalize o.av.getD i []=q at *
  refine ⟨fun _=>⟨⟨aB,aD⟩,fun hu=>⟨⟨aB,aD⟩,?_⟩,fun hu => ?_⟩,fun h=>ag⟩
  ·have hu':(q != jw)=true:=hu
   rintro y rfl
   refine ⟨ic,fun h => ?_,fun h => ?_⟩
   ·rw [hu',decide_eq_true h];rfl
   ·rw [hu',decide_eq_false h];rfl
  ·have hu':(q != jw)=false:=hu
   rw [hu'];rfl
 ·simp only [sz]
  exact ⟨fun h=>ag,fun _=>rfl⟩
structure Jk (o:Op'):Prop where
 nm:o.name.length<=1048576
 wh:o.aS.length<=1048576
 rw:o.row.length<=1048576
 mu:o.cC.length<=1048576
 cl:o.av.length<=1048576
theorem at1 {S:aO} {o:Op'} (hS:S.length<=1048576) (hT:∀t∈S,t.av.length<=1048576) (ho:Jk o):au Tryz.prog qx [.agg [ab ao S],.agg (aK o)] [] ⟨.int .i64 (im S o),[],[]⟩:=by
 have eI:=aj7 o.name ho.nm;have gm:=Ay S o.table hS;generalize jH:S.getD (dk S o.table).toNat ⟨[],[],[],false⟩=t;refine iG (E:=I3 o t) follows named (ocT S o t) (by simp) ?_;simp only [ba,T.WP,All,bh,bl,bg,bm,bn,bo,bN.af,cp.af,eE.af,cH];refine ⟨fun hk=>⟨fun iH => ?_,fun iH => ?_⟩,fun hk => ?_⟩
 ·rintro y rfl;have e:im S o=bif !jo o.name then 3 else 0:=by
   unfold im;rw [decide_eq_true (by omega:7<=o.kind),iH];rfl
  rw [e];refine ⟨eI,fun h => ?_,fun h => ?_⟩
  ·rw [h];exact ⟨rfl,rfl,by simp⟩
  ·rw [h];exact ⟨rfl,rfl,by simp⟩
 ·have e:im S o=0:=by
   unfold im;rw [decide_eq_true (by omega:7<=o.kind),show (o.kind==10)=false by simpa using iH];rfl
  rw [e];exact ⟨rfl,rfl,by simp⟩
 ·have e0:im S o=bif decide (dk S o.table<0) then 10
    else bif o.kind==1&&o.name != [] && !jo o.name then 3
    else bif firstC (kW t) o.av != 0 then firstC (kW t) o.av
    else bif firstC (fW t) o.aS != 0 then firstC (fW t) o.aS
    else bif firstC (lb t o.row) (List.range o.row.length) != 0 then firstC (lb t o.row) (List.range o.row.length)
    else firstC (iO t) o.cC:=by
   unfold im;rw [decide_eq_false (by omega:¬7<=o.kind)];subst jH;rfl
  rw [e0];rintro y rfl;refine ⟨gm,fun h => ?_,fun h => ?_⟩
  ·rw [decide_eq_true h];exact ⟨rfl,rfl,by simp⟩
  ·rw [decide_eq_false h];have bQ:=Q4 (show 0<=dk S o.table by omega);have jm:t∈S:=by rw [<- jH];exact bH _ (by omega)
   have A5:=hT _ jm;have aD:=bN.at' S ⟨[],[],[],false⟩ (dk S o.table) 4 ⟨by omega,by omega⟩ rfl;rw [jH] at aD
   have hl:=at0 o t A5 ho.cl;have A7:=Tt t o.aS A5 ho.wh;have lB:=aK3 t o.row A5 ho.rw;have Mb:=ag5 t o.cC A5 ho.mu;have jY:=GK t o.av;rw [cond_false];simp only [jH];refine ⟨fun h1=>⟨fun h2 => ?_,fun h2 => ?_⟩,fun h1 => ?_⟩
   ·have jX:(o.name != [])=true:=h2;rintro y rfl;refine ⟨eI,fun h => ?_,fun h => ?_⟩
    ·rw [show (o.kind==1)=true by simpa using h1,jX,h];exact ⟨rfl,rfl,by simp⟩
    ·rw [show (o.kind==1)=true by simpa using h1,jX,h];simp only [Bool.and_false,cond_false];refine ⟨⟨aB,aD⟩,?_⟩;rintro y rfl;refine ⟨a8,fun h3=>⟨.aV (hl.1 h3),?_⟩,fun h3=>⟨.aV (hl.2 h3),?_⟩⟩
     ·rw [h3];rintro y rfl;refine ⟨A7,fun h4 => ?_,fun h4 => ?_⟩
      ·rw [h4];exact ⟨rfl,rfl,by simp⟩
      ·rw [h4];rintro y rfl;refine ⟨lB,fun h5 => ?_,fun h5 => ?_⟩
       ·rw [h5];exact ⟨rfl,rfl,by simp⟩
       ·rw [h5];rintro y rfl;exact ⟨Mb,⟨rfl,rfl,by simp⟩⟩
     ·rcases jY with h | h
      ·exact absurd h h3
      ·rw [h];exact ⟨rfl,rfl,by simp⟩
   all_goals
    have hB:(o.kind==1&&o.name != [] && !jo o.name)=false:=by
     first
     | (rw [show (o.kind==1)=false by simpa using h1];rfl)
     | (have jX:(o.name != [])=false:=h2
        rw [jX];simp)
    rw [hB,cond_false];refine ⟨⟨aB,aD⟩,?_⟩;rintro y rfl;refine ⟨a8,fun h3=>⟨.aV (hl.1 h3),?_⟩,fun h3=>⟨.aV (hl.2 h3),?_⟩⟩
    ·rw [h3];rintro y rfl;refine ⟨A7,fun h4 => ?_,fun h4 => ?_⟩
     ·rw [h4];exact ⟨rfl,rfl,by simp⟩
     ·rw [h4];rintro y rfl;refine ⟨lB,fun h5 => ?_,fun h5 => ?_⟩
      ·rw [h5];exact ⟨rfl,rfl,by simp⟩
      ·rw [h5];rintro y rfl;exact ⟨Mb,⟨rfl,rfl,by simp⟩⟩
    ·rcases jY with h | h
     ·exact absurd h h3
     ·rw [h];exact ⟨rfl,rfl,by simp⟩
abbrev um:aL:=⟨[],0,0,0,0,0,[],false⟩
def kt:List (List UInt8):=[[112],[113]]
def rz (aC:aL) (x:Src):Sx×Src:=
 bif aC.kind==4 then
  bif (bq (di x aC.kind).2 2).1 then (⟨aC.name,[],[(dQ (bq (di x aC.kind).2 2).2 kt).1]⟩,(dQ (bq (di x aC.kind).2 2).2 kt).2)
  else bif (bq (bq (di x aC.kind).2 2).2 2).1 then (⟨aC.name,(jc (bq (bq (di x aC.kind).2 2).2 2).2 4).1,[]⟩,(jc (bq (bq (di x aC.kind).2 2).2 2).2 4).2)
  else (⟨aC.name,[],[]⟩,(bq (bq (di x aC.kind).2 2).2 2).2)
 else (⟨aC.name,[(di x aC.kind).1],[]⟩,(di x aC.kind).2)
theorem QX (aC:aL) (x:Src):rz aC x =
 bif aC.kind==4 then
  bif (bq (di x aC.kind).2 2).1 then (⟨aC.name,[],[(dQ (bq (di x aC.kind).2 2).2 kt).1]⟩,(dQ (bq (di x aC.kind).2 2).2 kt).2)
  else bif (bq (bq (di x aC.kind).2 2).2 2).1 then (⟨aC.name,(jc (bq (bq (di x aC.kind).2 2).2 2).2 4).1,[]⟩,(jc (bq (bq (di x aC.kind).2 2).2 2).2 4).2)
  else (⟨aC.name,[],[]⟩,(bq (bq (di x aC.kind).2 2).2 2).2)
 else (⟨aC.name,[(di x aC.kind).1],[]⟩,(di x aC.kind).2):=rfl
def Cn (tb:Tb) (i:Nat) (x:Src):Option Sx×Src:=
 bif !(bq x 2).1&&decide (0<i) then (none,(bq x 2).2) else (some (rz (tb.av.getD i um) (bq x 2).2).1,(rz (tb.av.getD i um) (bq x 2).2).2)
def sxL (tb:Tb):Nat->Nat->Src->List Sx->List Sx×Src
 | 0,_,x,l=>(l,x)
 | k+1,i,x,l=>sxL tb k (i+1) (Cn tb i x).2 (l++(Cn tb i x).1.toList)
def aF7:cy:=fun f vs hp=>match vs,hp with
 | [.ptr 0 0,.sl 1 0 _ _],[some ([.dsl _ _ cs,.int _ k,.int _ s],_),some (c,t)]=>bif Nat.beq f sj then some ⟨dQ (aX cs k s) (kB c),fun y=>⟨.str y.1,[ar y.2,some (c,t)],[0]⟩⟩ else none
 | _,_=>rf aI f vs hp
def pW (x:Src) (tb:Tb) (l:List Sx) (i:Int):St:=⟨ah 66 [(0,.ptr 0 0),(5,.ptr 1 0),(6,.sl 2 0 l.length false),(7,.int .i64 i)],[ar x,some (ao tb,gp),some ([.aw (ae aR l)],lL)],[0]⟩
def aq1:Ex->Kp:=fun _=>{keep:=[0,5,6,7],wr:=[0],rk:=true}
def lR:Env:={P:=Pz,vw:=mA,res:=aF7}
theorem QY (x:Src) (tb:Tb) (l:List Sx) (i:Int):bp lR 1 aq1 (lp Pz mM 0) (pW x tb l i)=(
 let q:=List.getD (af aY (ae aY tb.av)) i.toNat (aL.mk [] (0:Int) (0:Int) (0:Int) (0:Int) (0:Int) [] false);
 let q6:=ae aR l;
 let q1:List Prop:=[0=0,List.length q6=l.length*3,l.length+1<=9223372036854775807,(l.length+1)*64<=140737488355328];
 let q2:=ah 66 [(0,pp 0),(5,pp 1),(6,.sl 2 0 (l.length+1) false),(7,aa (wz (i+1)))];
 let q3:List V:=[.str [112],.str [113]];
 let q4:List V:=[.aw (ae aR l++[.str (aL.name q),.dsl 0 false [],.dsl 0 false []])];
 let q5:List Prop:=[0<=i/\i<(tb.av.length:Int),td 8 i (ae aY tb.av)=(aY q)];bif decide (i<(tb.av.length:Int)) then .bind (bq (aX (ae aP x.l) (x.k:Int) x.s) (2:Int)) fun y0=>
 let q7:=di (aX (ae aP y0.2.l) (y0.2.k:Int) y0.2.s) (aL.kind q);.ai [au (Env.P lR) 105 [pp 0,aa 2] [ar x] (aF.mk (.bool y0.1) [ar y0.2] [0])] (bif !y0.1 then bif decide (i>0) then .done (Ex.normal,St.mk
  (ah 66 [(0,pp 0),(5,pp 1),(6,.sl 2 0 l.length false),(7,aa (wz (i+1)))]) [ar y0.2,some ((ao tb),44),some ([.aw q6],189)] [0]) else .ai q5 (.bind q7 fun y1=> .ai [au (Env.P lR) 106 [pp 0,aa (aL.kind q)]
  [ar y0.2] (aF.mk (.agg (aj y1.1)) [ar y1.2] [0])] (bif aL.kind q==4 then .bind (bq (aX (ae aP y1.2.l) (y1.2.k:Int) y1.2.s) (2:Int)) fun y2=>
 let q8:=aX (ae aP y2.2.l) (y2.2.k:Int) y2.2.s;.ai [au (Env.P lR) 105 [pp 0,aa 2] [ar y1.2] (aF.mk (.bool y2.1) [ar y2.2] [0])] (bif y2.1 then .bind (dQ q8 (kB q3)) fun y3=> .ai [au (Env.P lR) 150
  [pp 0,.sl 1 0 2 true] [ar y2.2,some (q3,9)] (aF.mk (.str y3.1) [ar y3.2,some (q3,9)] [0])] (.ai q1 (.done (Ex.normal,St.mk q2 [ar y3.2,some ((ao tb),44),some ([.aw (ae aR l++[.str (aL.name q),.dsl 0 false
  [],.dsl 1 false [.str y3.1]])],189)] [0]))) else .bind (bq q8 (2:Int)) fun y4=> .ai [au (Env.P lR) 105 [pp 0,aa 2] [ar y2.2] (aF.mk (.bool y4.1) [ar y4.2] [0])] (bif y4.1 then .bind (jc (aX (ae aP
  y4.2.l) (y4.2.k:Int) y4.2.s) (4:Int)) fun y5=> .ai [au (Env.P lR) 107 [pp 0,aa 4] [ar y4.2] (aF.mk (ab aj y5.1) [ar y5.2] [0])] (.ai q1 (.done (Ex.normal,St.mk q2 [ar y5.2,some ((ao tb),44),some ([.aw
  (ae aR l++[.str (aL.name q),ab aj y5.1,.dsl 0 false []])],189)] [0]))) else .ai q1 (.done (Ex.normal,St.mk q2 [ar y4.2,some ((ao tb),44),some (q4,189)] [0])))) else .ai q1 (.done (Ex.normal,St.mk q2 [ar
  y1.2,some ((ao tb),44),some ([.aw (ae aR l++[.str (aL.name q),.dsl 1 false (aj y1.1),.dsl 0 false []])],189)] [0])))) else .ai q5 (.bind q7 fun y6=> .ai [au (Env.P lR) 106 [pp 0,aa (aL.kind q)] [ar
  y0.2] (aF.mk (.agg (aj y6.1)) [ar y6.2] [0])] (bif aL.kind q==4 then .bind (bq (aX (ae aP y6.2.l) (y6.2.k:Int) y6.2.s) (2:Int)) fun y7=>
 let q9:=aX (ae aP y7.2.l) (y7.2.k:Int) y7.2.s;.ai [au (Env.P lR) 105 [pp 0,aa 2] [ar y6.2] (aF.mk (.bool y7.1) [ar y7.2] [0])] (bif y7.1 then .bind (dQ q9 (kB q3)) fun y8=> .ai [au (Env.P lR) 150
  [pp 0,.sl 1 0 2 true] [ar y7.2,some (q3,9)] (aF.mk (.str y8.1) [ar y8.2,some (q3,9)] [0])] (.ai q1 (.done (Ex.normal,St.mk q2 [ar y8.2,some ((ao tb),44),some ([.aw (ae aR l++[.str (aL.name q),.dsl 0 false
  [],.dsl 1 false [.str y8.1]])],189)] [0]))) else .bind (bq q9 (2:Int)) fun y9=> .ai [au (Env.P lR) 105 [pp 0,aa 2] [ar y7.2] (aF.mk (.bool y9.1) [ar y9.2] [0])] (bif y9.1 then .bind (jc (aX (ae aP
  y9.2.l) (y9.2.k:Int) y9.2.s) (4:Int)) fun cY=> .ai [au (Env.P lR) 107 [pp 0,aa 4] [ar y9.2] (aF.mk (ab aj cY.1) [ar cY.2] [0])] (.ai q1 (.done (Ex.normal,St.mk q2 [ar cY.2,some ((ao tb),44),some
  ([.aw (ae aR l++[.str (aL.name q),ab aj cY.1,.dsl 0 false []])],189)] [0]))) else .ai q1 (.done (Ex.normal,St.mk q2 [ar y9.2,some ((ao tb),44),some (q4,189)] [0])))) else .ai q1 (.done (Ex.normal,St.mk
  q2 [ar y6.2,some ((ao tb),44),some ([.aw (ae aR l++[.str (aL.name q),.dsl 1 false (aj y6.1),.dsl 0 false []])],189)] [0]))))) else .done (Ex.exit 0,St.mk (ah 66 [(0,pp 0),(5,pp 1),(6,.sl 2 0 l.length
  false),(7,aa i)]) [ar x,some ((ao tb),44),some ([.aw q6],189)] [0]):T _):=kz
theorem wq {tb:Tb} (hT:qd tb):∀(k i:Nat) (x:Src) (l:List Sx) (c:Nat),i+k=tb.av.length->x.OK (c+k*27)->l.length<=i ->
  aT Pz 1 (lp Pz mM 0) (pW x tb l i) (.exit 0) (pW (sxL tb k i x l).2 tb (sxL tb k i x l).1 tb.av.length)
 | 0,i,x,l,c,hi,h,hl=>by
  obtain rfl:i=tb.av.length:=hi;refine bt (QY x tb l (tb.av.length:Nat)) ?_;simp only [sz];exact ⟨fun h=>ag,fun _=>⟨rfl,rfl⟩⟩
 | k+1,i,x,l,c,hi,h,hl=>by
  have hle:=hT.le;have o0:=fx (x:=x) (n:=2) (c:=c+k*27+24) (h.less ag) ag;have n0:=gy (c:=c+k*27+24) x 2 (h.less ag) ag;obtain ⟨b6,cN⟩:=oQ tb.av i ag;have w1:=cX i;have hF:Cn tb i x=bif !(bq x 2).1&&decide (0<i) then (none,(bq x 2).2) else (some (rz (tb.av.getD i um) (bq x 2).2).1,(rz (tb.av.getD i um) (bq x 2).2).2):=rfl;refine bt (QY x tb l (i:Nat)) ?_;simp only [sz,w1,dZ,db.af];rw [Int.toNat_natCast] at b6 cN ⊢;rw [sxL,hF];refine ⟨fun _ => ?_,fun h=>ag⟩;rintro y0 e0;rw [<- e0] at o0 n0 ⊢;clear e0 hF;generalize ic:tb.av.getD i ⟨[],0,0,0,0,0,[],false⟩=aC at *;have kN:=hT.kd _ cN;refine ⟨n0,fun hy=>⟨fun hp => ?_,fun hp=>⟨⟨aB,b6⟩,?_⟩⟩,fun hy=>⟨⟨aB,b6⟩,?_⟩⟩
  ·have hb:(!y0.1&&decide (0<i))=true:=by rw [hy,decide_eq_true (by omega:0<i)];rfl
   rw [hb,cond_true];have ih:=wq hT k (i+1) y0.2 l c ag (o0.less ag) ag;dsimp only [Option.toList];rw [List.append_nil];exact ih
  all_goals
   have hb:(!y0.1&&decide (0<i))=false:=by
    first
    | (rw [hy];rfl)
    | (rw [decide_eq_false (by omega:¬0<i)];simp)
   rw [hb,cond_false];clear hb b6;dsimp only [Option.toList];have a1:=lX y0.2 aC.kind (c:=c+k*27+21) o0;have n1:=rQ (c:=c+k*27+21) y0.2 aC.kind o0;have hG:=QX aC y0.2;rintro y1 e1;rw [<- e1] at a1 n1 hG;clear e1;refine ⟨n1,fun hk => ?_,fun hk => ?_⟩
   ·rw [hk] at hG;have o2:=fx (x:=y1.2) (n:=2) (c:=c+k*27+18) (a1.less ag) ag;have n2:=gy (c:=c+k*27+18) y1.2 2 (a1.less ag) ag;rintro y2 e2;rw [<- e2] at o2 n2 hG;clear e2;refine ⟨n2,fun h2 => ?_,fun h2 => ?_⟩
    ·rw [h2] at hG;have p3:=qW (x:=y2.2) (L:=kt) (c:=c+k*27+15) (o2.less ag) (by simp [kt]);have n3:=x6 (c:=c+k*27+15) y2.2 kt true rfl rfl rfl (o2.less ag);rintro y3 e3;have e3:y3=dQ y2.2 kt:=e3;rw [<- e3] at p3 n3 hG;clear e3;rw [hG];have ih:=wq hT k (i+1) y3.2 (l++[⟨aC.name,[],[y3.1]⟩]) c ag (p3.1.less ag) (by simp only [List.length_append,List.length_singleton];omega);refine ⟨n3,by rw [eE.length];exact aB,?_⟩;simp only [pW,dF,aR,List.length_append,List.length_singleton] at ih ⊢;exact ih
    ·rw [h2] at hG;have o4:=fx (x:=y2.2) (n:=2) (c:=c+k*27+15) (o2.less ag) ag;have n4:=gy (c:=c+k*27+15) y2.2 2 (o2.less ag) ag;rintro y4 e4;rw [<- e4] at o4 n4 hG;clear e4;refine ⟨n4,fun h4 => ?_,fun h4 => ?_⟩
     ·rw [h4] at hG;have o5:=wY y4.2 4 (c:=c+k*27) (o4.less ag);have n5:=Ae (c:=c+k*27) y4.2 4 (o4.less ag);rintro y5 e5;rw [<- e5] at o5 n5 hG;clear e5;rw [hG];have ih:=wq hT k (i+1) y5.2 (l++[⟨aC.name,y5.1,[]⟩]) c ag (o5.less ag) (by simp only [List.length_append,List.length_singleton];omega);refine ⟨n5,by rw [eE.length];exact aB,?_⟩;simp only [pW,dF,aR,List.length_append,List.length_singleton] at ih ⊢;exact ih
     ·rw [h4] at hG;rw [hG];have ih:=wq hT k (i+1) y4.2 (l++[⟨aC.name,[],[]⟩]) c ag (o4.less ag) (by simp only [List.length_append,List.length_singleton];omega);refine ⟨by rw [eE.length];exact aB,?_⟩;simp only [pW,dF,aR,List.length_append,List.length_singleton] at ih ⊢;exact ih
   ·have dO:(aC.kind==4)=false:=by simpa using hk
    rw [dO] at hG;rw [hG];have ih:=wq hT k (i+1) y1.2 (l++[⟨aC.name,[y1.1],[]⟩]) c ag (a1.less ag) (by simp only [List.length_append,List.length_singleton];omega);refine ⟨by rw [eE.length];exact aB,?_⟩;simp only [pW,dF,aR,List.length_append,List.length_singleton] at ih ⊢;exact ih
def cT (x:Src) (t:Int):List Sx×Src:=sxL (df t) (df t).av.length 0 x []
def ae7:Nat->St->Option b8:=fun id s=>match id,s.hp with
 | 0,some ([.dsl _ _ cs,.int _ a,.int _ b],_)::some ([.str nm,.dsl _ _ cc,.dsl _ _ uu,.bool r],_)::_=>some ⟨sxL (bw nm cc uu r) (bw nm cc uu r).av.length 0 (aX cs a b) [],fun y=> .one {keep:=[0,5,6,7],wr:=[0],eu:=[6]} (pW (aX cs a b) (bw nm cc uu r) [] 0) (.exit 0) (pW y.2 (bw nm cc uu r) y.1 (bw nm cc uu r).av.length)⟩
 | _,_=>none
def Jc (S:aO):Env:={P:=Pz,vw:=mA,res:=rf S,ls:=ae7}
theorem aQ1 (S:aO) (x:Src) (t:Int):fnT (Jc S) 0 mM [.ptr 0 0,.int .i64 t] [ar x]=(
 let q1:=List.getD (af ao (ae ao S)) t.toNat (Tb.mk [] [] [] false);
 let q:=bw (Tb.name q1) (ae aY (Tb.av q1)) (ae aJ (Tb.uniq q1)) (Tb.root q1);
 let q4:=aX (ae aP x.l) (x.k:Int) x.s;
 let q5:List V:=[.str (Tb.name q),ab aY (Tb.av q),ab aJ (Tb.uniq q),.bool (Tb.root q)];
 let q2:Hp:=[some ([ab aP (Src.l q4),aa (↑(Src.k q4):Int),aa (Src.s q4)],138),some (q5,44),some ([.aw []],189)];
 let q3:=ah 66 [(0,pp 0),(5,pp 1),(6,.sl 2 0 0 false),(7,aa 0)];.bind PUnit.unit fun _=>cz 7 [] [] (.agg [ab ao S]) [] [] (.ai [0<=t/\t<(S.length:Int),td 4 t (ae ao S)=(ao q1)] (.bind (sxL q
  (List.length (Tb.av q)) 0 q4 []) fun y1=> .ai [St.mk q3 [some ([ab aP x.l,aa (x.k:Int),aa x.s],138),some ((ao q1),44),some ([.aw []],189)] [0]=St.mk q3 q2 [0],aN Pz 1 (blk Pz mM 0) (St.mk q3 q2 [0])
  (Ex.exit 0) (St.mk (ah 66 [(0,pp 0),(5,pp 1),(6,.sl 2 0 y1.1.length false),(7,aa (↑(List.length (Tb.av q)):Int))]) [some ([ab aP y1.2.l,aa (y1.2.k:Int),aa y1.2.s],138),some (q5,44),some ([.aw (ae aR
  y1.1)],189)] [0])] (dz (ab aR y1.1) [some ([ab aP y1.2.l,aa (y1.2.k:Int),aa y1.2.s],138)] [0]))):T _):=fz
theorem aQ2 (S:aO) (x:Src) (t:Int):fnT (Jc S) 1 mM [.ptr 0 0,.int .i64 t] [ar x]=(
 let q1:=List.getD (af ao (ae ao S)) t.toNat (Tb.mk [] [] [] false);
 let q:=bw (Tb.name q1) (ae aY (Tb.av q1)) (ae aJ (Tb.uniq q1)) (Tb.root q1);
 let q4:=aX (ae aP x.l) (x.k:Int) x.s;
 let q5:List V:=[.str (Tb.name q),ab aY (Tb.av q),ab aJ (Tb.uniq q),.bool (Tb.root q)];
 let q2:Hp:=[some ([ab aP (Src.l q4),aa (↑(Src.k q4):Int),aa (Src.s q4)],138),some (q5,44),some ([.aw []],189)];
 let q3:=ah 66 [(0,pp 0),(5,pp 1),(6,.sl 2 0 0 false),(7,aa 0)];.bind PUnit.unit fun _=>cz 7 [] [] (.agg [ab ao S]) [] [] (.ai [0<=t/\t<(S.length:Int),td 4 t (ae ao S)=(ao q1)] (.bind (sxL q
  (List.length (Tb.av q)) 0 q4 []) fun y1=> .ai [St.mk q3 [some ([ab aP x.l,aa (x.k:Int),aa x.s],138),some ((ao q1),44),some ([.aw []],189)] [0]=St.mk q3 q2 [0],aN Pz 1 (blk Pz mM 0) (St.mk q3 q2 [0])
  (Ex.exit 0) (St.mk (ah 66 [(0,pp 0),(5,pp 1),(6,.sl 2 0 y1.1.length false),(7,aa (↑(List.length (Tb.av q)):Int))]) [some ([ab aP y1.2.l,aa (y1.2.k:Int),aa y1.2.s],138),some (q5,44),some ([.aw (ae aR
  y1.1)],189)] [0])] (dz (.sl 1 0 y1.1.length false) [some ([ab aP y1.2.l,aa (y1.2.k:Int),aa y1.2.s],138),some ([.aw (ae aR y1.1)],189)] [0]))):T _):=fz
def lr (tb:Tb) (s:Sx):Prop:=∃aC∈tb.av,s.aC=aC.name/\cq aC.kind s.val/\s.val.length<=8/\(∀n∈s.names,n=[112]\/n=[113])/\(s.names≠[]->aC.kind=4/\s.val=[])/\s.names.length<=1
theorem aA1 (x:Src) {c:Nat} (h:x.OK (c+3)):(dQ x kt).1=[112]\/(dQ x kt).1=[113]:=by
 have:=(qW (L:=kt) h (by simp [kt])).2;simpa [kt] using this
theorem aQ0 {tb:Tb} {aC:aL} (cN:aC∈tb.av) (kN:1<=aC.kind/\aC.kind<=4) {x:Src} {c:Nat} (h:x.OK (c+24)):lr tb (rz aC x).1/\(rz aC x).2.OK c:=by
 rw [QX];have a1:=lX x aC.kind (c:=c+21) h;have a2:=rP (x:=x) (k:=aC.kind) (c:=c+21) h kN;generalize di x aC.kind=y1 at *;cases hk:aC.kind==4
 ·simp only [cond_false];exact ⟨⟨aC,cN,rfl,.one a2,by simp,by simp,by simp,by simp⟩,a1.less ag⟩
 ·have dO:aC.kind=4:=by simpa using hk
  have o2:=fx (x:=y1.2) (n:=2) (c:=c+18) (a1.less ag) ag;generalize bq y1.2 2=y2 at *;simp only [cond_true];cases y2.1
  ·have o4:=fx (x:=y2.2) (n:=2) (c:=c+15) (o2.less ag) ag;generalize bq y2.2 2=y4 at *;simp only [cond_false];cases y4.1
   ·simp only [cond_false];exact ⟨⟨aC,cN,rfl,.nil _,by simp,by simp,by simp,by simp⟩,o4.less ag⟩
   ·simp only [cond_true];have o5:=wY y4.2 4 (c:=c) (o4.less ag);have d5:=Ad (x:=y4.2) (k:=4) (c:=c) (o4.less ag) ag;exact ⟨⟨aC,cN,rfl,dO▸d5.1,by have:=d5.2;show List.length (jc y4.2 4).1<=8;omega,by simp,by simp,by simp⟩,o5⟩
  ·simp only [cond_true];have p3:=qW (x:=y2.2) (L:=kt) (c:=c+15) (o2.less ag) (by simp [kt]);have p4:=aA1 y2.2 (c:=c+15) (o2.less ag);exact ⟨⟨aC,cN,rfl,.nil _,by simp,by simpa using p4,fun _=>⟨dO,rfl⟩,by simp⟩,p3.1.less ag⟩
theorem It {tb:Tb} (hT:qd tb):∀(k i:Nat) (x:Src) (l:List Sx) (c:Nat),i+k=tb.av.length->x.OK (c+k*27)->(∀s∈l,lr tb s) ->
  (∀s∈(sxL tb k i x l).1,lr tb s)/\(sxL tb k i x l).1.length<=l.length+k/\(sxL tb k i x l).2.OK c/\(i=0/\0<k->0<(sxL tb k i x l).1.length)/\l.length<=(sxL tb k i x l).1.length
 | 0,i,x,l,c,hi,h,hl=>⟨hl,Nat.le_refl _,h.less ag,fun h=>ag,Nat.le_refl _⟩
 | k+1,i,x,l,c,hi,h,hl=>by
  have o0:=fx (x:=x) (n:=2) (c:=c+k*27+24) (h.less ag) ag;obtain ⟨-,cN⟩:=oQ tb.av i ag;rw [Int.toNat_natCast] at cN;change tb.av.getD i um∈tb.av at cN;have kN:=hT.kd _ cN;have hg:=aQ0 cN kN (x:=(bq x 2).2) (c:=c+k*27) o0;rw [sxL];unfold Cn;generalize tb.av.getD i um=aC at *;generalize hq:rz aC (bq x 2).2=q at *;cases hb: !(bq x 2).1&&decide (0<i)
  ·simp only [cond_false,Option.toList];have ih:=It hT k (i+1) _ (l++[q.1]) c ag hg.2 (by
    intro s hs;rcases List.mem_append.1 hs with hs | hs
    ·exact hl s hs
    ·rw [List.mem_singleton.1 hs];exact hg.1)
   have h2:=ih.2.1;have h5:=ih.2.2.2.2;rw [List.length_append,List.length_singleton] at h2 h5;exact ⟨ih.1,ag,ih.2.2.1,fun _=>ag,ag⟩
  ·simp only [cond_true,Option.toList,List.append_nil];have ih:=It hT k (i+1) _ l c ag (o0.less ag) hl;have vc:0<i:=by
    rw [Bool.and_eq_true,decide_eq_true_eq] at hb;exact hb.2
   exact ⟨ih.1,by have:=ih.2.1;omega,ih.2.2.1,fun h=>ag,ih.2.2.2.2⟩
theorem zd {x:Src} {t:Int} (ht:0<=t/\t<3) {c:Nat} (h:x.OK (c+81)):
  au Pz mM [.ptr 0 0,.int .i64 t] [ar x] ⟨ab aR (cT x t).1,[ar (cT x t).2],[0]⟩ /\
  au Pz mM [.ptr 0 0,.int .i64 t] [ar x] ⟨.sl 1 0 (cT x t).1.length false,[ar (cT x t).2,some ([.aw (ae aR (cT x t).1)],lL)],[0]⟩:=by
 have aD:=zf aI t ht
 have hlen:=xU ht
 have hT:=Cu ht
 unfold cT
 change List.take 4 (List.drop (t.toNat*4) (ae ao aI))=ao (df t) at aD
 generalize hS:aI=S at *
 have hp:au Pz nR [] [] ⟨.agg [ab ao S],[],[]⟩:=hS▸qY
 have pH:t<S.length:=by rw [<- hS];exact ht.2
 have hs:S.getD t.toNat ⟨[],[],[],false⟩=df t:=by rw [<- hS]
 generalize df t=tb at *
 have hl:=wq hT tb.av.length 0 x [] c ag (h.less ag) (Nat.le_refl _)
 generalize hy:sxL tb tb.av.length 0 x []=y at *
 refine ⟨?_,?_⟩
 ·refine a6 (aQ1 S x t) ?_
  simp only [sz,dZ,bN.af,cH,hs,hy]
  rintro _ -
  refine ⟨hp,⟨⟨ht.1,pH⟩,aD⟩,?_⟩
  rintro _ rfl
  exact ⟨⟨a8,.aV hl⟩,aH⟩
 ·refine a6 (aQ2 S x t) ?_
  simp only [sz,dZ,bN.af,cH,hs,hy]
  rintro _ -
  refine ⟨hp,⟨⟨ht.1,pH⟩,aD⟩,?_⟩
  rintro _ rfl
  exact ⟨⟨a8,.aV hl⟩,aH⟩
theorem tL {x:Src} {t:Int} (ht:0<=t/\t<3) {c:Nat} (h:x.OK (c+81)):
  (∀s∈(cT x t).1,lr (df t) s)/\(cT x t).1.length<=3/\1<=(cT x t).1.length/\(cT x t).2.OK c:=by
 have hlen:=xU ht;have:=It (Cu ht) (df t).av.length 0 x [] c ag (h.less ag) (by simp);have h2:=this.2.1;rw [List.length_nil] at h2;exact ⟨this.1,by unfold cT;omega,by have:=this.2.2.2.1 ⟨rfl,ag⟩;unfold cT;omega,this.2.2.1⟩
abbrev gK:Nat:=158
def PT:cy:=fun f vs hp=>match vs,hp with
 | [.int _ n,.int _ lo,.int _ hi],[]=>bif Nat.beq f mK then some ⟨decide (lo<=n)&&decide (n<=hi),fun y=>⟨.bool y,[],[]⟩⟩ else none
 | [.ptr 0 0,.int _ n],[some ([.dsl _ _ cs,.int _ k,.int _ s],_)]=>bif Nat.beq f lx then some ⟨aU (aX cs k s) n,fun y=>⟨.int .i64 y.1,[ar y.2],[0]⟩⟩
  else bif Nat.beq f uw then some ⟨gj (aX cs k s) n,fun y=>⟨ab aE y.1,[ar y.2],[0]⟩⟩
  else bif Nat.beq f mM then some ⟨cT (aX cs k s) n,fun y=>⟨ab aR y.1,[ar y.2],[0]⟩⟩
  else bif Nat.beq f si then some ⟨j1 (aX cs k s) n,fun y=>⟨.agg (bR y.1),[ar y.2],[0]⟩⟩
  else bif Nat.beq f uO then some ⟨m7 (aX cs k s) n,fun y=>⟨ab encStr y.1,[ar y.2],[0]⟩⟩
  else bif Nat.beq f w9 then some ⟨bq (aX cs k s) n,fun y=>⟨.bool y.1,[ar y.2],[0]⟩⟩ else none
 | [.ptr 0 0,.sl 1 0 _ _],[some ([.dsl _ _ cs,.int _ k,.int _ s],_),some (c,t)]=>bif Nat.beq f sj then some ⟨dQ (aX cs k s) (kB c),fun y=>⟨.str y.1,[ar y.2,some (c,t)],[0]⟩⟩ else none
 | _,_=>none
def I4 (v:Int) (nm:List UInt8):Env:={P:=Pz,vw:=zl,res:=PT,vs:=[(3,7,.int .i64 v),(5,3,.str nm)]}
def RM:List V:=[.int .i64 0,.str [],.str [],.dsl 0 true [],.dsl 0 true [],.dsl 0 true [],.dsl 0 true [],.bool false]
def tu (x:Src) (t:Int) (nm:List UInt8) (W:List aZ) (l:List Mt) (i:Int):St:=⟨ah 94 [(0,.ptr 0 0),(2,.ptr 1 0),(3,.int .i64 t),(5,.ptr 2 0),(6,.int .i64 i)],
 [ar x,some (RM,iQ),some ([.int .i64 4,.str nm,.str [],ab aE W,.dsl 0 true [],.sl 3 0 l.length false,.dsl 0 true [],.bool false],iQ),some ([.aw (ae bR l)],Cq)],[0]⟩
def H3 (x:Src) (t:Int) (nm:List UInt8) (W:List aZ) (i:Int):St:=⟨ah 94 [(0,.ptr 0 0),(2,.ptr 1 0),(3,.int .i64 t),(5,.ptr 2 0),(6,.int .i64 i)],
 [ar x,some (RM,iQ),some ([.int .i64 4,.str nm,.str [],ab aE W,.dsl 0 true [],.dsl 0 true [],.dsl 0 true [],.bool false],iQ)],[0]⟩
def Nz:Ex->Kp:=fun _=>{keep:=[0,2,3,5,6],wr:=[0],lI:=[(2,5)]}
theorem Ov (x:Src) (t:Int) (nm:List UInt8) (W:List aZ) (l:List Mt) (i:Int):bp (I4 0 []) 1 Nz (lp Pz gK 1) (tu x t nm W l i)=(
 bif decide (i>0) then .bind (j1 (aX (ae aP x.l) (x.k:Int) x.s) t) fun y0=>cz 229 [pp 0,aa t] [ar x] (.agg (aE y0.1)) [ar y0.2] [0] (.ai [0=0,List.length (ae bR l)=l.length*3,l.length+1 <=
  9223372036854775807,(l.length+1)*48<=140737488355328] (.done (Ex.normal,St.mk (ah 94 [(0,pp 0),(2,pp 1),(3,aa t),(5,pp 2),(6,aa (wz (i - 1)))]) [ar y0.2,some ([aa 0,.str [],.str [],.dsl 0 true [],.dsl 0 true
  [],.dsl 0 true [],.dsl 0 true [],.bool false],178),some ([aa 4,.str nm,.str [],ab aE W,.dsl 0 true [],.sl 3 0 (l.length+1) false,.dsl 0 true [],.bool false],178),some ([.aw (ae bR l++(aE y0.1))],241)]
  [0]))) else .done (Ex.exit 1,St.mk (ah 94 [(0,pp 0),(2,pp 1),(3,aa t),(5,pp 2),(6,aa i)]) [ar x,some ([aa 0,.str [],.str [],.dsl 0 true [],.dsl 0 true [],.dsl 0 true [],.dsl 0 true [],.bool false],178),some
  ([aa 4,.str nm,.str [],ab aE W,.dsl 0 true [],.sl 3 0 l.length false,.dsl 0 true [],.bool false],178),some ([.aw (ae bR l)],241)] [0]):T _):=kz
theorem av1 (x:Src) (t:Int) (nm:List UInt8) (W:List aZ) (i:Int):bp (I4 0 []) 1 Nz (lp Pz gK 1) (H3 x t nm W i)=(
 bif decide (i>0) then .bind (j1 (aX (ae aP x.l) (x.k:Int) x.s) t) fun y0=>cz 229 [pp 0,aa t] [ar x] (.agg (aE y0.1)) [ar y0.2] [0] (.ai [true=true,0=0,1<=9223372036854775807,48<=140737488355328]
  (.done (Ex.normal,St.mk (ah 94 [(0,pp 0),(2,pp 1),(3,aa t),(5,pp 2),(6,aa (wz (i - 1)))]) [ar y0.2,some ([aa 0,.str [],.str [],.dsl 0 true [],.dsl 0 true [],.dsl 0 true [],.dsl 0 true [],.bool false],178),
  some ([aa 4,.str nm,.str [],ab aE W,.dsl 0 true [],.sl 3 0 1 false,.dsl 0 true [],.bool false],178),some ([.aw (aE y0.1)],241)] [0]))) else .done (Ex.exit 1,St.mk (ah 94 [(0,pp 0),(2,pp 1),(3,aa t),(5,pp
  2),(6,aa i)]) [ar x,some ([aa 0,.str [],.str [],.dsl 0 true [],.dsl 0 true [],.dsl 0 true [],.dsl 0 true [],.bool false],178),some ([aa 4,.str nm,.str [],ab aE W,.dsl 0 true [],.dsl 0 true [],.dsl 0 true [],
  .bool false],178)] [0]):T _):=kz
def mtsL (t:Int):Nat->Src->List Mt->List Mt×Src
 | 0,x,l=>(l,x)
 | n+1,x,l=>mtsL t n (j1 x t).2 (l++[(j1 x t).1])
theorem Nj {t:Int} (ht:0<=t/\t<3):∀(n:Nat) (x:Src) (l:List Mt) (c:Nat),x.OK (c+n*36)->(∀q∈l,j7 (df t) q) ->
  (∀q∈(mtsL t n x l).1,j7 (df t) q)/\(mtsL t n x l).1.length=l.length+n/\(mtsL t n x l).2.OK c
 | 0,x,l,c,h,hl=>⟨hl,rfl,h.less ag⟩
 | n+1,x,l,c,h,hl=>by
  have h1:=GD ht (x:=x) (c:=c+n*36) (h.less ag);have ih:=Nj ht n (j1 x t).2 (l++[(j1 x t).1]) c h1.2.2 (by
   intro q hq;rcases List.mem_append.1 hq with hq | hq
   ·exact hl q hq
   ·rw [List.mem_singleton.1 hq];exact h1.2.1)
  rw [mtsL];exact ⟨ih.1,by rw [ih.2.1,List.length_append,List.length_singleton];omega,ih.2.2⟩
theorem Nk {t:Int} (ht:0<=t/\t<3) (nm:List UInt8) (W:List aZ):∀(n:Nat) (x:Src) (l:List Mt) (c:Nat),x.OK (c+n*36)->l.length+n<=1000000 ->
  aT Tryz.prog 1 (lp Tryz.prog gK 1) (tu x t nm W l n) (.exit 1) (tu (mtsL t n x l).2 t nm W (mtsL t n x l).1 0)
 | 0,x,l,c,h,hl=>by
  refine bt (Ov x t nm W l ((0:Nat):Int)) ?_
  simp only [ba,T.WP,All,bh,bl,bg]
  exact ⟨fun h=>ag,fun _=>⟨rfl,rfl⟩⟩
 | n+1,x,l,c,h,hl=>by
  have h1:=GD ht (x:=x) (c:=c+n*36) (h.less ag)
  have ih:=Nk ht nm W n (j1 x t).2 (l++[(j1 x t).1]) c h1.2.2 (by simp only [List.length_append,List.length_singleton];omega)
  have w1:IntKind.i64.wrap (((n+1:Nat):Int) - 1)=(n:Nat):=by rw [du ag];omega
  refine bt (Ov x t nm W l ((n+1:Nat):Int)) ?_
  simp only [ba,T.WP,All,bh,bl,bg,w1,dZ]
  refine ⟨fun _ => ?_,fun h=>ag⟩
  rintro y rfl
  refine ⟨h1.1,by rw [cp.length];exact aB,?_⟩
  simp only [tu,dF,bR,aE,ab,List.length_append,List.length_singleton] at ih ⊢
  exact ih
theorem ai6 {t:Int} (ht:0<=t/\t<3) (nm:List UInt8) (W:List aZ) (n:Nat) (hn:n<=100000) (x:Src) (c:Nat) (h:x.OK (c+(n+1)*36)):
  aT Tryz.prog 1 (lp Tryz.prog gK 1) (H3 x t nm W ((n+1:Nat):Int)) (.exit 1) (tu (mtsL t (n+1) x []).2 t nm W (mtsL t (n+1) x []).1 0):=by
 have h1:=GD ht (x:=x) (c:=c+n*36) (h.less ag)
 have ih:=Nk ht nm W n (j1 x t).2 [(j1 x t).1] c h1.2.2 (by simp only [List.length_singleton];omega)
 have w1:IntKind.i64.wrap (((n+1:Nat):Int) - 1)=(n:Nat):=by rw [du ag];omega
 refine bt (av1 x t nm W ((n+1:Nat):Int)) ?_
 simp only [ba,T.WP,All,bh,bl,bg,w1,dZ]
 refine ⟨fun _ => ?_,fun h=>ag⟩
 rintro y rfl
 refine ⟨h1.1,aB,?_⟩
 simp only [tu,KK,bR,aE,ab,List.length_singleton] at ih ⊢
 exact ih
def ac6:Nat->St->Option b8:=fun id s=>match id,s.tm.get 3,s.tm.get 6,s.hp with
 | 1,.int _ t,.int _ i,some ([.dsl _ _ cs,.int _ a,.int _ b],_)::_::_::_::some ([_,.str nm,_,.dsl _ _ ws,_,_,_,_],_)::_=>
  some ⟨mtsL t i.toNat (aX cs a b) [],fun y=> .one {keep:=[0,2,3,5,6],wr:=[0]} (H3 (aX cs a b) t nm (af aE ws) i) (.exit 1) (tu y.2 t nm (af aE ws) y.1 0)⟩
 | _,_,_,_=>none
def gX (v:Int) (nm:List UInt8):Env:={P:=Pz,vw:=zl,res:=PT,vs:=[(3,7,.int .i64 v),(5,3,.str nm)],ls:=ac6}
theorem av3 (x:Src) (nm:List UInt8):fnT (gX 1 nm) 0 gK [.ptr 0 0] [ar x]=(
 let q:List V:=[.str [],.str [112],.str [113]];.bind (aU (aX (ae aP x.l) (x.k:Int) x.s) (3:Int)) fun y0=>cz 103 [pp 0,aa 3] [ar x] (aa y0.1) [ar y0.2] [0] (.bind (aU (aX (ae aP y0.2.l) (y0.2.k
  : Int) y0.2.s) (10:Int)) fun y1=>cz 103 [pp 0,aa 10] [ar y0.2] (aa y1.1) [ar y1.2] [0] (.bind (aU (aX (ae aP y1.2.l) (y1.2.k:Int) y1.2.s) (7:Int)) fun y2=>
 let q1:=aX (ae aP y2.2.l) (y2.2.k:Int) y2.2.s;cz 103 [pp 0,aa 7] [ar y1.2] (aa y2.1) [ar y2.2] [0] (.ai [0<=y2.1/\y2.1<7] (.ai [([aa 1,aa 1,aa 3,aa 4,aa 2,aa 5,aa (wz ((1:Int)+y1.1))]:List
  V)[0+y2.1.toNat*1]?=some (aa 1)] (.bind true fun y3=>cz 51 [aa 1,aa 1,aa 6] [] (.bool y3) [] [] (bif y3 then .ai [0<=y0.1/\y0.1<3] (.ai [([.str [110,111,116,101],.str [112,111,114,116],.str [115,119,105,
  116,99,104]]:List V)[0+y0.1.toNat*1]?=some (.str nm)] (.bind false fun y4=>cz 51 [aa 1,aa 2,aa 6] [] (.bool y4) [] [] (bif y4 then .bind (gj q1 y0.1) fun y5=>cz 228 [pp 0,aa y0.1] [ar y2.2] (ab aE y5.1)
  [ar y5.2] [0] (.bind (cT (aX (ae aP y5.2.l) (y5.2.k:Int) y5.2.s) y0.1) fun y6=>cz 157 [pp 0,aa y0.1] [ar y5.2] (ab aR y6.1) [ar y6.2] [0] (.bind (dQ (aX (ae aP y6.2.l) (y6.2.k:Int) y6.2.s)
  (kB q)) fun y7=>cz 150 [pp 0,.sl 1 0 3 true] [ar y6.2,some (q,9)] (.str y7.1) [ar y7.2,some (q,9)] [0] (dz (.agg [aa 1,.str nm,.str y7.1,ab aE y5.1,ab aR y6.1,.dsl 0 false [],.dsl 0 false [],.bool
  false]) [ar y7.2] [0]))) else .bind (cT q1 y0.1) fun y8=>cz 157 [pp 0,aa y0.1] [ar y2.2] (ab aR y8.1) [ar y8.2] [0] (.bind (dQ (aX (ae aP y8.2.l) (y8.2.k:Int) y8.2.s) (kB q)) fun y9=>cz 150 [pp 0,
  .sl 1 0 3 true] [ar y8.2,some (q,9)] (.str y9.1) [ar y9.2,some (q,9)] [0] (dz (.agg [aa 1,.str nm,.str y9.1,.dsl 0 false [],ab aR y8.1,.dsl 0 false [],.dsl 0 false [],.bool false]) [ar y9.2] [0]))))) else .bind
  false fun cY=>cz 51 [aa 1,aa 2,aa 6] [] (.bool cY) [] [] (bif cY then .bind (gj q1 y0.1) fun cG=>cz 228 [pp 0,aa y0.1] [ar y2.2] (ab aE cG.1) [ar cG.2] [0] (.bind (cT (aX (ae aP cG.2.l)
  (cG.2.k:Int) cG.2.s) y0.1) fun dD=>cz 157 [pp 0,aa y0.1] [ar cG.2] (ab aR dD.1) [ar dD.2] [0] (.bind (dQ (aX (ae aP dD.2.l) (dD.2.k:Int) dD.2.s) (kB q)) fun ff=>cz 150 [pp 0,.sl 1 0 3 true]
  [ar dD.2,some (q,9)] (.str ff.1) [ar ff.2,some (q,9)] [0] (dz (.agg [aa 1,.str [],.str ff.1,ab aE cG.1,ab aR dD.1,.dsl 0 false [],.dsl 0 false [],.bool false]) [ar ff.2] [0]))) else .bind (cT q1
  y0.1) fun dK=>cz 157 [pp 0,aa y0.1] [ar y2.2] (ab aR dK.1) [ar dK.2] [0] (.bind (dQ (aX (ae aP dK.2.l) (dK.2.k:Int) dK.2.s) (kB q)) fun gW=>cz 150 [pp 0,.sl 1 0 3 true] [ar dK.2,some (q,9)]
  (.str gW.1) [ar gW.2,some (q,9)] [0] (dz (.agg [aa 1,.str [],.str gW.1,.dsl 0 false [],ab aR dK.1,.dsl 0 false [],.dsl 0 false [],.bool false]) [ar gW.2] [0]))))))))):T _):=fz
theorem av5 (x:Src) (nm:List UInt8):fnT (gX 2 nm) 0 gK [.ptr 0 0] [ar x]=(
 .bind (aU (aX (ae aP x.l) (x.k:Int) x.s) (3:Int)) fun y0=>cz 103 [pp 0,aa 3] [ar x] (aa y0.1) [ar y0.2] [0] (.bind (aU (aX (ae aP y0.2.l) (y0.2.k:Int) y0.2.s) (10:Int)) fun y1=>cz 103 [pp 0,
  aa 10] [ar y0.2] (aa y1.1) [ar y1.2] [0] (.bind (aU (aX (ae aP y1.2.l) (y1.2.k:Int) y1.2.s) (7:Int)) fun y2=>
 let q:=aX (ae aP y2.2.l) (y2.2.k:Int) y2.2.s;cz 103 [pp 0,aa 7] [ar y1.2] (aa y2.1) [ar y2.2] [0] (.ai [0<=y2.1/\y2.1<7] (.ai [([aa 1,aa 1,aa 3,aa 4,aa 2,aa 5,aa (wz ((1:Int)+y1.1))]:List
  V)[0+y2.1.toNat*1]?=some (aa 2)] (.bind true fun y3=>cz 51 [aa 2,aa 1,aa 6] [] (.bool y3) [] [] (bif y3 then .ai [0<=y0.1/\y0.1<3] (.ai [([.str [110,111,116,101],.str [112,111,114,116],.str [115,119,105,
  116,99,104]]:List V)[0+y0.1.toNat*1]?=some (.str nm)] (.bind true fun y4=>cz 51 [aa 2,aa 2,aa 6] [] (.bool y4) [] [] (bif y4 then .bind (gj q y0.1) fun y5=>cz 228 [pp 0,aa y0.1] [ar y2.2] (ab aE y5.1)
  [ar y5.2] [0] (.bind (m7 (aX (ae aP y5.2.l) (y5.2.k:Int) y5.2.s) y0.1) fun y6=>cz 230 [pp 0,aa y0.1] [ar y5.2] (ab encStr y6.1) [ar y6.2] [0] (dz (.agg [aa 2,.str nm,.str [],ab aE y5.1,.dsl 0 false [],
  .dsl 0 false [],ab encStr y6.1,.bool false]) [ar y6.2] [0])) else .bind (m7 q y0.1) fun y7=>cz 230 [pp 0,aa y0.1] [ar y2.2] (ab encStr y7.1) [ar y7.2] [0] (dz (.agg [aa 2,.str nm,.str [],.dsl 0 false [],.dsl 0 false
  [],.dsl 0 false [],ab encStr y7.1,.bool false]) [ar y7.2] [0])))) else .bind true fun y8=>cz 51 [aa 2,aa 2,aa 6] [] (.bool y8) [] [] (bif y8 then .bind (gj q y0.1) fun y9=>cz 228 [pp 0,aa y0.1] [ar y2.2] (ab
  aE y9.1) [ar y9.2] [0] (.bind (m7 (aX (ae aP y9.2.l) (y9.2.k:Int) y9.2.s) y0.1) fun cY=>cz 230 [pp 0,aa y0.1] [ar y9.2] (ab encStr cY.1) [ar cY.2] [0] (dz (.agg [aa 2,.str [],.str [],ab aE y9.1,
  .dsl 0 false [],.dsl 0 false [],ab encStr cY.1,.bool false]) [ar cY.2] [0])) else .bind (m7 q y0.1) fun cG=>cz 230 [pp 0,aa y0.1] [ar y2.2] (ab encStr cG.1) [ar cG.2] [0] (dz (.agg [aa 2,.str [],.str [],.dsl 0
  false [],.dsl 0 false [],.dsl 0 false [],ab encStr cG.1,.bool false]) [ar cG.2] [0])))))))):T _):=fz
theorem av6 (x:Src) (nm:List UInt8):fnT (gX 3 nm) 0 gK [.ptr 0 0] [ar x]=(
 .bind (aU (aX (ae aP x.l) (x.k:Int) x.s) (3:Int)) fun y0=>cz 103 [pp 0,aa 3] [ar x] (aa y0.1) [ar y0.2] [0] (.bind (aU (aX (ae aP y0.2.l) (y0.2.k:Int) y0.2.s) (10:Int)) fun y1=>cz 103 [pp 0,
  aa 10] [ar y0.2] (aa y1.1) [ar y1.2] [0] (.bind (aU (aX (ae aP y1.2.l) (y1.2.k:Int) y1.2.s) (7:Int)) fun y2=>
 let q:=aX (ae aP y2.2.l) (y2.2.k:Int) y2.2.s;cz 103 [pp 0,aa 7] [ar y1.2] (aa y2.1) [ar y2.2] [0] (.ai [0<=y2.1/\y2.1<7] (.ai [([aa 1,aa 1,aa 3,aa 4,aa 2,aa 5,aa (wz ((1:Int)+y1.1))]:List
  V)[0+y2.1.toNat*1]?=some (aa 3)] (.bind true fun y3=>cz 51 [aa 3,aa 1,aa 6] [] (.bool y3) [] [] (bif y3 then .ai [0<=y0.1/\y0.1<3] (.ai [([.str [110,111,116,101],.str [112,111,114,116],.str [115,119,105,
  116,99,104]]:List V)[0+y0.1.toNat*1]?=some (.str nm)] (.bind true fun y4=>cz 51 [aa 3,aa 2,aa 6] [] (.bool y4) [] [] (bif y4 then .bind (gj q y0.1) fun y5=>cz 228 [pp 0,aa y0.1] [ar y2.2] (ab aE y5.1)
  [ar y5.2] [0] (.bind (cT (aX (ae aP y5.2.l) (y5.2.k:Int) y5.2.s) y0.1) fun y6=>cz 157 [pp 0,aa y0.1] [ar y5.2] (ab aR y6.1) [ar y6.2] [0] (dz (.agg [aa 3,.str nm,.str [],ab aE y5.1,ab aR y6.1,
  .dsl 0 false [],.dsl 0 false [],.bool false]) [ar y6.2] [0])) else .bind (cT q y0.1) fun y7=>cz 157 [pp 0,aa y0.1] [ar y2.2] (ab aR y7.1) [ar y7.2] [0] (dz (.agg [aa 3,.str nm,.str [],.dsl 0 false [],ab aR
  y7.1,.dsl 0 false [],.dsl 0 false [],.bool false]) [ar y7.2] [0])))) else .bind true fun y8=>cz 51 [aa 3,aa 2,aa 6] [] (.bool y8) [] [] (bif y8 then .bind (gj q y0.1) fun y9=>cz 228 [pp 0,aa y0.1] [ar y2.2] (ab
  aE y9.1) [ar y9.2] [0] (.bind (cT (aX (ae aP y9.2.l) (y9.2.k:Int) y9.2.s) y0.1) fun cY=>cz 157 [pp 0,aa y0.1] [ar y9.2] (ab aR cY.1) [ar cY.2] [0] (dz (.agg [aa 3,.str [],.str [],ab aE y9.1,
  ab aR cY.1,.dsl 0 false [],.dsl 0 false [],.bool false]) [ar cY.2] [0])) else .bind (cT q y0.1) fun cG=>cz 157 [pp 0,aa y0.1] [ar y2.2] (ab aR cG.1) [ar cG.2] [0] (dz (.agg [aa 3,.str [],.str [],.dsl 0
  false [],ab aR cG.1,.dsl 0 false [],.dsl 0 false [],.bool false]) [ar cG.2] [0])))))))):T _):=fz
theorem av7 (x:Src) (nm:List UInt8):fnT (gX 4 nm) 0 gK [.ptr 0 0] [ar x]=(
 let q:List V:=[aa 0,.str [],.str [],.dsl 0 true [],.dsl 0 true [],.dsl 0 true [],.dsl 0 true [],.bool false];
 let q3:=af aE [];
 let q1:List V:=[aa 4,.str nm,.str [],ab aE q3,.dsl 0 true [],.dsl 0 true [],.dsl 0 true [],.bool false];
 let q2:List V:=[aa 4,.str [],.str [],ab aE q3,.dsl 0 true [],.dsl 0 true [],.dsl 0 true [],.bool false];
 let q4:=blk Tryz.prog gK 1;
 let q5:List V:=[.ptr 0 0,aa 2];
 let q6:List V:=[aa 4,aa 2,aa 6];.bind (aU (aX (ae aP x.l) (↑x.k:Int) x.s) (3:Int)) fun y0=>
 let q7:=ah 94 [(0,.ptr 0 0),(2,.ptr 1 0),(3,aa y0.1),(5,.ptr 2 0),(6,aa 0)];.ai [au Tryz.prog 103 [.ptr 0 0,aa 3] [ar x] (aF.mk (aa y0.1) [ar y0.2] [0])] (.bind (aU (aX (ae aP y0.2.l) (↑y0.2.k:
  Int) y0.2.s) (10:Int)) fun y1=> .ai [au Tryz.prog 103 [.ptr 0 0,aa 10] [ar y0.2] (aF.mk (aa y1.1) [ar y1.2] [0])] (.bind (aU (aX (ae aP y1.2.l) (↑y1.2.k:Int) y1.2.s) (7:Int)) fun y2=>
 let q8:=aX (ae aP y2.2.l) (↑y2.2.k:Int) y2.2.s;.ai [au Tryz.prog 103 [.ptr 0 0,aa 7] [ar y1.2] (aF.mk (aa y2.1) [ar y2.2] [0])] (.ai [0<=y2.1/\y2.1<7] (.ai [([aa 1,aa 1,aa 3,aa 4,aa 2,aa 5,
  aa (IntKind.i64.wrap ((1:Int)+y1.1))]:List V)[0+y2.1.toNat*1]?=some (aa 4)] (.bind true fun y3=> .ai [au Tryz.prog 51 [aa 4,aa 1,aa 6] [] (aF.mk (.bool y3) [] [])] (bif y3 then .ai [0<=y0.1/\y0.1<3]
  (.ai [([.str [110,111,116,101],.str [112,111,114,116],.str [115,119,105,116,99,104]]:List V)[0+y0.1.toNat*1]?=some (.str nm)] (.bind true fun y4=> .ai [au Tryz.prog 51 q6 [] (aF.mk (.bool y4) [] [])] (bif
  y4 then .bind (gj q8 y0.1) fun y5=>
 let bK:=af aE (ae aE y5.1);
 let q9:List V:=[aa 4,.str nm,.str [],ab aE bK,.dsl 0 true [],.dsl 0 true [],.dsl 0 true [],.bool false];.ai [au Tryz.prog 228 [.ptr 0 0,aa y0.1] [ar y2.2] (aF.mk (ab aE y5.1) [ar y5.2] [0])] (.bind
  (aU (aX (ae aP y5.2.l) (↑y5.2.k:Int) y5.2.s) (2:Int)) fun y6=>
 let dq:=IntKind.i64.wrap ((1:Int)+y6.1);
 let bS:=ah 94 [(0,.ptr 0 0),(2,.ptr 1 0),(3,aa y0.1),(5,.ptr 2 0),(6,aa dq)];
 let cF:=aX (ae aP y6.2.l) (↑y6.2.k:Int) y6.2.s;.ai [au Tryz.prog 103 q5 [ar y5.2] (aF.mk (aa y6.1) [ar y6.2] [0])] (.bind (mtsL y0.1 dq.toNat cF []) fun y7=> .ai [St.mk bS [ar y6.2,some (q,178),some
  ([aa 4,.str nm,.str [],ab aE y5.1,.dsl 0 true [],.dsl 0 true [],.dsl 0 true [],.bool false],178)] [0]=St.mk bS [ar cF,some (q,178),some (q9,178)] [0],aN Tryz.prog 1 q4 (St.mk bS [ar cF,some (q,178),
  some (q9,178)] [0]) (Ex.exit 1) (St.mk q7 [ar y7.2,some (q,178),some ([aa 4,.str nm,.str [],ab aE bK,.dsl 0 true [],.sl 3 0 y7.1.length false,.dsl 0 true [],.bool false],178),some ([.aw (ae bR y7.1)],241)]
  [0])] (.done (aF.mk (.agg [aa 4,.str nm,.str [],ab aE bK,.dsl 0 false [],ab bR y7.1,.dsl 0 false [],.bool false]) [ar y7.2] [0])))) else .bind (aU q8 (2:Int)) fun y8=>
 let jN:=IntKind.i64.wrap ((1:Int)+y8.1);
 let dS:=ah 94 [(0,.ptr 0 0),(2,.ptr 1 0),(3,aa y0.1),(5,.ptr 2 0),(6,aa jN)];
 let gT:=aX (ae aP y8.2.l) (↑y8.2.k:Int) y8.2.s;.ai [au Tryz.prog 103 q5 [ar y2.2] (aF.mk (aa y8.1) [ar y8.2] [0])] (.bind (mtsL y0.1 jN.toNat gT []) fun y9=> .ai [St.mk dS [ar y8.2,some (q,178),some
  ([aa 4,.str nm,.str [],.dsl 0 true [],.dsl 0 true [],.dsl 0 true [],.dsl 0 true [],.bool false],178)] [0]=St.mk dS [ar gT,some (q,178),some (q1,178)] [0],aN Tryz.prog 1 q4 (St.mk dS [ar gT,some (q,178),
  some (q1,178)] [0]) (Ex.exit 1) (St.mk q7 [ar y9.2,some (q,178),some ([aa 4,.str nm,.str [],ab aE q3,.dsl 0 true [],.sl 3 0 y9.1.length false,.dsl 0 true [],.bool false],178),some ([.aw (ae bR y9.1)],241)]
  [0])] (.done (aF.mk (.agg [aa 4,.str nm,.str [],ab aE q3,.dsl 0 false [],ab bR y9.1,.dsl 0 false [],.bool false]) [ar y9.2] [0])))))) else .bind true fun cY=> .ai [au Tryz.prog 51 q6 [] (aF.mk (.bool cY) []
  [])] (bif cY then .bind (gj q8 y0.1) fun cG=>
 let na:=af aE (ae aE cG.1);
 let jr:List V:=[aa 4,.str [],.str [],ab aE na,.dsl 0 true [],.dsl 0 true [],.dsl 0 true [],.bool false];.ai [au Tryz.prog 228 [.ptr 0 0,aa y0.1] [ar y2.2] (aF.mk (ab aE cG.1) [ar cG.2] [0])] (.bind
  (aU (aX (ae aP cG.2.l) (↑cG.2.k:Int) cG.2.s) (2:Int)) fun dD=>
 let kv:=IntKind.i64.wrap ((1:Int)+dD.1);
 let mq:=ah 94 [(0,.ptr 0 0),(2,.ptr 1 0),(3,aa y0.1),(5,.ptr 2 0),(6,aa kv)];
 let fS:=aX (ae aP dD.2.l) (↑dD.2.k:Int) dD.2.s;.ai [au Tryz.prog 103 q5 [ar cG.2] (aF.mk (aa dD.1) [ar dD.2] [0])] (.bind (mtsL y0.1 kv.toNat fS []) fun ff=> .ai [St.mk mq [ar dD.2,some (q,
  178),some ([aa 4,.str [],.str [],ab aE cG.1,.dsl 0 true [],.dsl 0 true [],.dsl 0 true [],.bool false],178)] [0]=St.mk mq [ar fS,some (q,178),some (jr,178)] [0],aN Tryz.prog 1 q4 (St.mk mq [ar fS,
  some (q,178),some (jr,178)] [0]) (Ex.exit 1) (St.mk q7 [ar ff.2,some (q,178),some ([aa 4,.str [],.str [],ab aE na,.dsl 0 true [],.sl 3 0 ff.1.length false,.dsl 0 true [],.bool false],178),some ([.aw (ae
  bR ff.1)],241)] [0])] (.done (aF.mk (.agg [aa 4,.str [],.str [],ab aE na,.dsl 0 false [],ab bR ff.1,.dsl 0 false [],.bool false]) [ar ff.2] [0])))) else .bind (aU q8 (2:Int)) fun dK=>
 let yb:=IntKind.i64.wrap ((1:Int)+dK.1);
 let pU:=ah 94 [(0,.ptr 0 0),(2,.ptr 1 0),(3,aa y0.1),(5,.ptr 2 0),(6,aa yb)];
 let tg:=aX (ae aP dK.2.l) (↑dK.2.k:Int) dK.2.s;.ai [au Tryz.prog 103 q5 [ar y2.2] (aF.mk (aa dK.1) [ar dK.2] [0])] (.bind (mtsL y0.1 yb.toNat tg []) fun gW=> .ai [St.mk pU [ar dK.2,some (q,178),
  some ([aa 4,.str [],.str [],.dsl 0 true [],.dsl 0 true [],.dsl 0 true [],.dsl 0 true [],.bool false],178)] [0]=St.mk pU [ar tg,some (q,178),some (q2,178)] [0],aN Tryz.prog 1 q4 (St.mk pU [ar tg,some (q,
  178),some (q2,178)] [0]) (Ex.exit 1) (St.mk q7 [ar gW.2,some (q,178),some ([aa 4,.str [],.str [],ab aE q3,.dsl 0 true [],.sl 3 0 gW.1.length false,.dsl 0 true [],.bool false],178),some ([.aw (ae bR
  gW.1)],241)] [0])] (.done (aF.mk (.agg [aa 4,.str [],.str [],ab aE q3,.dsl 0 false [],ab bR gW.1,.dsl 0 false [],.bool false]) [ar gW.2] [0])))))))))):T _):=(T.force_eq _).symm.trans (by kernel_rfl)
theorem av8 (x:Src) (nm:List UInt8):fnT (gX 5 nm) 0 gK [.ptr 0 0] [ar x]=(
 .bind (aU (aX (ae aP x.l) (x.k:Int) x.s) (3:Int)) fun y0=>cz 103 [pp 0,aa 3] [ar x] (aa y0.1) [ar y0.2] [0] (.bind (aU (aX (ae aP y0.2.l) (y0.2.k:Int) y0.2.s) (10:Int)) fun y1=>cz 103 [pp 0,
  aa 10] [ar y0.2] (aa y1.1) [ar y1.2] [0] (.bind (aU (aX (ae aP y1.2.l) (y1.2.k:Int) y1.2.s) (7:Int)) fun y2=>
 let q:=gj (aX (ae aP y2.2.l) (y2.2.k:Int) y2.2.s) y0.1;cz 103 [pp 0,aa 7] [ar y1.2] (aa y2.1) [ar y2.2] [0] (.ai [0<=y2.1/\y2.1<7] (.ai [([aa 1,aa 1,aa 3,aa 4,aa 2,aa 5,aa (wz ((1:Int) +
  y1.1))]:List V)[0+y2.1.toNat*1]?=some (aa 5)] (.bind true fun y3=>cz 51 [aa 5,aa 1,aa 6] [] (.bool y3) [] [] (bif y3 then .ai [0<=y0.1/\y0.1<3] (.ai [([.str [110,111,116,101],.str [112,111,114,116],.str
  [115,119,105,116,99,104]]:List V)[0+y0.1.toNat*1]?=some (.str nm)] (.bind true fun y4=>cz 51 [aa 5,aa 2,aa 6] [] (.bool y4) [] [] (bif y4 then .bind q fun y5=>cz 228 [pp 0,aa y0.1] [ar y2.2] (ab aE y5.1)
  [ar y5.2] [0] (dz (.agg [aa 5,.str nm,.str [],ab aE y5.1,.dsl 0 false [],.dsl 0 false [],.dsl 0 false [],.bool false]) [ar y5.2] [0]) else dz (.agg [aa 5,.str nm,.str [],.dsl 0 false [],.dsl 0 false [],.dsl 0
  false [],.dsl 0 false [],.bool false]) [ar y2.2] [0]))) else .bind true fun y6=>cz 51 [aa 5,aa 2,aa 6] [] (.bool y6) [] [] (bif y6 then .bind q fun y7=>cz 228 [pp 0,aa y0.1] [ar y2.2] (ab aE y7.1) [ar y7.2] [0]
  (dz (.agg [aa 5,.str [],.str [],ab aE y7.1,.dsl 0 false [],.dsl 0 false [],.dsl 0 false [],.bool false]) [ar y7.2] [0]) else dz (.agg [aa 5,.str [],.str [],.dsl 0 false [],.dsl 0 false [],.dsl 0 false [],.dsl 0
  false [],.bool false]) [ar y2.2] [0]))))))):T _):=fz
theorem av9 (x:Src) (nm:List UInt8):fnT (gX 6 nm) 0 gK [.ptr 0 0] [ar x]=(
 .bind (aU (aX (ae aP x.l) (x.k:Int) x.s) (3:Int)) fun y0=>cz 103 [pp 0,aa 3] [ar x] (aa y0.1) [ar y0.2] [0] (.bind (aU (aX (ae aP y0.2.l) (y0.2.k:Int) y0.2.s) (10:Int)) fun y1=>cz 103 [pp 0,
  aa 10] [ar y0.2] (aa y1.1) [ar y1.2] [0] (.bind (aU (aX (ae aP y1.2.l) (y1.2.k:Int) y1.2.s) (7:Int)) fun y2=>
 let q:=aX (ae aP y2.2.l) (y2.2.k:Int) y2.2.s;cz 103 [pp 0,aa 7] [ar y1.2] (aa y2.1) [ar y2.2] [0] (.ai [0<=y2.1/\y2.1<7] (.ai [([aa 1,aa 1,aa 3,aa 4,aa 2,aa 5,aa (wz ((1:Int)+y1.1))]:List
  V)[0+y2.1.toNat*1]?=some (aa 6)] (.bind true fun y3=>cz 51 [aa 6,aa 1,aa 6] [] (.bool y3) [] [] (bif y3 then .ai [0<=y0.1/\y0.1<3] (.ai [([.str [110,111,116,101],.str [112,111,114,116],.str [115,119,105,
  116,99,104]]:List V)[0+y0.1.toNat*1]?=some (.str nm)] (.bind true fun y4=>cz 51 [aa 6,aa 2,aa 6] [] (.bool y4) [] [] (bif y4 then .bind (gj q y0.1) fun y5=>cz 228 [pp 0,aa y0.1] [ar y2.2] (ab aE y5.1)
  [ar y5.2] [0] (.bind (cT (aX (ae aP y5.2.l) (y5.2.k:Int) y5.2.s) y0.1) fun y6=>cz 157 [pp 0,aa y0.1] [ar y5.2] (ab aR y6.1) [ar y6.2] [0] (.bind (bq (aX (ae aP y6.2.l) (y6.2.k:Int) y6.2.s)
  (2:Int)) fun y7=>cz 105 [pp 0,aa 2] [ar y6.2] (.bool y7.1) [ar y7.2] [0] (dz (.agg [aa 6,.str nm,.str [],ab aE y5.1,ab aR y6.1,.dsl 0 false [],.dsl 0 false [],.bool y7.1]) [ar y7.2] [0]))) else .bind (cT
  q y0.1) fun y8=>cz 157 [pp 0,aa y0.1] [ar y2.2] (ab aR y8.1) [ar y8.2] [0] (.bind (bq (aX (ae aP y8.2.l) (y8.2.k:Int) y8.2.s) (2:Int)) fun y9=>cz 105 [pp 0,aa 2] [ar y8.2] (.bool y9.1) [ar y9.2]
  [0] (dz (.agg [aa 6,.str nm,.str [],.dsl 0 false [],ab aR y8.1,.dsl 0 false [],.dsl 0 false [],.bool y9.1]) [ar y9.2] [0]))))) else .bind true fun cY=>cz 51 [aa 6,aa 2,aa 6] [] (.bool cY) [] [] (bif cY then
  .bind (gj q y0.1) fun cG=>cz 228 [pp 0,aa y0.1] [ar y2.2] (ab aE cG.1) [ar cG.2] [0] (.bind (cT (aX (ae aP cG.2.l) (cG.2.k:Int) cG.2.s) y0.1) fun dD=>cz 157 [pp 0,aa y0.1] [ar cG.2] (ab
  aR dD.1) [ar dD.2] [0] (.bind (bq (aX (ae aP dD.2.l) (dD.2.k:Int) dD.2.s) (2:Int)) fun ff=>cz 105 [pp 0,aa 2] [ar dD.2] (.bool ff.1) [ar ff.2] [0] (dz (.agg [aa 6,.str [],.str [],ab aE
  cG.1,ab aR dD.1,.dsl 0 false [],.dsl 0 false [],.bool ff.1]) [ar ff.2] [0]))) else .bind (cT q y0.1) fun dK=>cz 157 [pp 0,aa y0.1] [ar y2.2] (ab aR dK.1) [ar dK.2] [0] (.bind (bq (aX (ae aP
  dK.2.l) (dK.2.k:Int) dK.2.s) (2:Int)) fun gW=>cz 105 [pp 0,aa 2] [ar dK.2] (.bool gW.1) [ar gW.2] [0] (dz (.agg [aa 6,.str [],.str [],.dsl 0 false [],ab aR dK.1,.dsl 0 false [],.dsl 0 false [],.bool
  gW.1]) [ar gW.2] [0]))))))))):T _):=fz
theorem aw0 (x:Src) (nm:List UInt8):fnT (gX 7 nm) 0 gK [.ptr 0 0] [ar x]=(
 .bind (aU (aX (ae aP x.l) (x.k:Int) x.s) (3:Int)) fun y0=>cz 103 [pp 0,aa 3] [ar x] (aa y0.1) [ar y0.2] [0] (.bind (aU (aX (ae aP y0.2.l) (y0.2.k:Int) y0.2.s) (10:Int)) fun y1=>cz 103 [pp 0,
  aa 10] [ar y0.2] (aa y1.1) [ar y1.2] [0] (.bind (aU (aX (ae aP y1.2.l) (y1.2.k:Int) y1.2.s) (7:Int)) fun y2=>
 let q:=gj (aX (ae aP y2.2.l) (y2.2.k:Int) y2.2.s) y0.1;cz 103 [pp 0,aa 7] [ar y1.2] (aa y2.1) [ar y2.2] [0] (.ai [0<=y2.1/\y2.1<7] (.ai [([aa 1,aa 1,aa 3,aa 4,aa 2,aa 5,aa (wz ((1:Int) +
  y1.1))]:List V)[0+y2.1.toNat*1]?=some (aa 7)] (.bind false fun y3=>cz 51 [aa 7,aa 1,aa 6] [] (.bool y3) [] [] (bif y3 then .ai [0<=y0.1/\y0.1<3] (.ai [([.str [110,111,116,101],.str [112,111,114,116],.str
  [115,119,105,116,99,104]]:List V)[0+y0.1.toNat*1]?=some (.str nm)] (.bind false fun y4=>cz 51 [aa 7,aa 2,aa 6] [] (.bool y4) [] [] (bif y4 then .bind q fun y5=>cz 228 [pp 0,aa y0.1] [ar y2.2] (ab aE y5.1)
  [ar y5.2] [0] (dz (.agg [aa 7,.str nm,.str [],ab aE y5.1,.dsl 0 false [],.dsl 0 false [],.dsl 0 false [],.bool false]) [ar y5.2] [0]) else dz (.agg [aa 7,.str nm,.str [],.dsl 0 false [],.dsl 0 false [],.dsl 0
  false [],.dsl 0 false [],.bool false]) [ar y2.2] [0]))) else .bind false fun y6=>cz 51 [aa 7,aa 2,aa 6] [] (.bool y6) [] [] (bif y6 then .bind q fun y7=>cz 228 [pp 0,aa y0.1] [ar y2.2] (ab aE y7.1) [ar y7.2] [0]
  (dz (.agg [aa 7,.str [],.str [],ab aE y7.1,.dsl 0 false [],.dsl 0 false [],.dsl 0 false [],.bool false]) [ar y7.2] [0]) else dz (.agg [aa 7,.str [],.str [],.dsl 0 false [],.dsl 0 false [],.dsl 0 false [],.dsl 0
  false [],.bool false]) [ar y2.2] [0]))))))):T _):=fz
theorem aw1 (x:Src) (nm:List UInt8):fnT (gX 8 nm) 0 gK [.ptr 0 0] [ar x]=(
 .bind (aU (aX (ae aP x.l) (x.k:Int) x.s) (3:Int)) fun y0=>cz 103 [pp 0,aa 3] [ar x] (aa y0.1) [ar y0.2] [0] (.bind (aU (aX (ae aP y0.2.l) (y0.2.k:Int) y0.2.s) (10:Int)) fun y1=>cz 103 [pp 0,
  aa 10] [ar y0.2] (aa y1.1) [ar y1.2] [0] (.bind (aU (aX (ae aP y1.2.l) (y1.2.k:Int) y1.2.s) (7:Int)) fun y2=>
 let q:=gj (aX (ae aP y2.2.l) (y2.2.k:Int) y2.2.s) y0.1;cz 103 [pp 0,aa 7] [ar y1.2] (aa y2.1) [ar y2.2] [0] (.ai [0<=y2.1/\y2.1<7] (.ai [([aa 1,aa 1,aa 3,aa 4,aa 2,aa 5,aa (wz ((1:Int) +
  y1.1))]:List V)[0+y2.1.toNat*1]?=some (aa 8)] (.bind false fun y3=>cz 51 [aa 8,aa 1,aa 6] [] (.bool y3) [] [] (bif y3 then .ai [0<=y0.1/\y0.1<3] (.ai [([.str [110,111,116,101],.str [112,111,114,116],.str
  [115,119,105,116,99,104]]:List V)[0+y0.1.toNat*1]?=some (.str nm)] (.bind false fun y4=>cz 51 [aa 8,aa 2,aa 6] [] (.bool y4) [] [] (bif y4 then .bind q fun y5=>cz 228 [pp 0,aa y0.1] [ar y2.2] (ab aE y5.1)
  [ar y5.2] [0] (dz (.agg [aa 8,.str nm,.str [],ab aE y5.1,.dsl 0 false [],.dsl 0 false [],.dsl 0 false [],.bool false]) [ar y5.2] [0]) else dz (.agg [aa 8,.str nm,.str [],.dsl 0 false [],.dsl 0 false [],.dsl 0
  false [],.dsl 0 false [],.bool false]) [ar y2.2] [0]))) else .bind false fun y6=>cz 51 [aa 8,aa 2,aa 6] [] (.bool y6) [] [] (bif y6 then .bind q fun y7=>cz 228 [pp 0,aa y0.1] [ar y2.2] (ab aE y7.1) [ar y7.2] [0]
  (dz (.agg [aa 8,.str [],.str [],ab aE y7.1,.dsl 0 false [],.dsl 0 false [],.dsl 0 false [],.bool false]) [ar y7.2] [0]) else dz (.agg [aa 8,.str [],.str [],.dsl 0 false [],.dsl 0 false [],.dsl 0 false [],.dsl 0
  false [],.bool false]) [ar y2.2] [0]))))))):T _):=fz
theorem aw2 (x:Src) (nm:List UInt8):fnT (gX 9 nm) 0 gK [.ptr 0 0] [ar x]=(
 .bind (aU (aX (ae aP x.l) (x.k:Int) x.s) (3:Int)) fun y0=>cz 103 [pp 0,aa 3] [ar x] (aa y0.1) [ar y0.2] [0] (.bind (aU (aX (ae aP y0.2.l) (y0.2.k:Int) y0.2.s) (10:Int)) fun y1=>cz 103 [pp 0,
  aa 10] [ar y0.2] (aa y1.1) [ar y1.2] [0] (.bind (aU (aX (ae aP y1.2.l) (y1.2.k:Int) y1.2.s) (7:Int)) fun y2=>
 let q:=gj (aX (ae aP y2.2.l) (y2.2.k:Int) y2.2.s) y0.1;cz 103 [pp 0,aa 7] [ar y1.2] (aa y2.1) [ar y2.2] [0] (.ai [0<=y2.1/\y2.1<7] (.ai [([aa 1,aa 1,aa 3,aa 4,aa 2,aa 5,aa (wz ((1:Int) +
  y1.1))]:List V)[0+y2.1.toNat*1]?=some (aa 9)] (.bind false fun y3=>cz 51 [aa 9,aa 1,aa 6] [] (.bool y3) [] [] (bif y3 then .ai [0<=y0.1/\y0.1<3] (.ai [([.str [110,111,116,101],.str [112,111,114,116],.str
  [115,119,105,116,99,104]]:List V)[0+y0.1.toNat*1]?=some (.str nm)] (.bind false fun y4=>cz 51 [aa 9,aa 2,aa 6] [] (.bool y4) [] [] (bif y4 then .bind q fun y5=>cz 228 [pp 0,aa y0.1] [ar y2.2] (ab aE y5.1)
  [ar y5.2] [0] (dz (.agg [aa 9,.str nm,.str [115,97,105,100],ab aE y5.1,.dsl 0 false [],.dsl 0 false [],.dsl 0 false [],.bool false]) [ar y5.2] [0]) else dz (.agg [aa 9,.str nm,.str [115,97,105,100],.dsl 0
  false [],.dsl 0 false [],.dsl 0 false [],.dsl 0 false [],.bool false]) [ar y2.2] [0]))) else .bind false fun y6=>cz 51 [aa 9,aa 2,aa 6] [] (.bool y6) [] [] (bif y6 then .bind q fun y7=>cz 228 [pp 0,aa y0.1] [ar y2.2]
  (ab aE y7.1) [ar y7.2] [0] (dz (.agg [aa 9,.str [],.str [115,97,105,100],ab aE y7.1,.dsl 0 false [],.dsl 0 false [],.dsl 0 false [],.bool false]) [ar y7.2] [0]) else dz (.agg [aa 9,.str [],.str [115,97,
  105,100],.dsl 0 false [],.dsl 0 false [],.dsl 0 false [],.dsl 0 false [],.bool false]) [ar y2.2] [0]))))))):T _):=fz
theorem av4 (x:Src) (nm:List UInt8):fnT (gX 10 nm) 0 gK [.ptr 0 0] [ar x]=(
 let q:List V:=[.str [108,111,99,107],.str [111,116,104,101,114]];.bind (aU (aX (ae aP x.l) (x.k:Int) x.s) (3:Int)) fun y0=>cz 103 [pp 0,aa 3] [ar x] (aa y0.1) [ar y0.2] [0] (.bind (aU (aX
  (ae aP y0.2.l) (y0.2.k:Int) y0.2.s) (10:Int)) fun y1=>cz 103 [pp 0,aa 10] [ar y0.2] (aa y1.1) [ar y1.2] [0] (.bind (aU (aX (ae aP y1.2.l) (y1.2.k:Int) y1.2.s) (7:Int)) fun y2=>
 let q1:=aX (ae aP y2.2.l) (y2.2.k:Int) y2.2.s;cz 103 [pp 0,aa 7] [ar y1.2] (aa y2.1) [ar y2.2] [0] (.ai [0<=y2.1/\y2.1<7] (.ai [([aa 1,aa 1,aa 3,aa 4,aa 2,aa 5,aa (wz ((1:Int)+y1.1))]:List
  V)[0+y2.1.toNat*1]?=some (aa 10)] (.bind false fun y3=>cz 51 [aa 10,aa 1,aa 6] [] (.bool y3) [] [] (bif y3 then .ai [0<=y0.1/\y0.1<3] (.ai [([.str [110,111,116,101],.str [112,111,114,116],.str [115,119,
  105,116,99,104]]:List V)[0+y0.1.toNat*1]?=some (.str nm)] (.bind false fun y4=>cz 51 [aa 10,aa 2,aa 6] [] (.bool y4) [] [] (bif y4 then .bind (gj q1 y0.1) fun y5=>cz 228 [pp 0,aa y0.1] [ar y2.2] (ab aE
  y5.1) [ar y5.2] [0] (.bind (dQ (aX (ae aP y5.2.l) (y5.2.k:Int) y5.2.s) (kB q)) fun y6=>cz 150 [pp 0,.sl 1 0 2 true] [ar y5.2,some (q,9)] (.str y6.1) [ar y6.2,some (q,9)] [0] (dz (.agg [aa 10,.str nm,
  .str y6.1,ab aE y5.1,.dsl 0 false [],.dsl 0 false [],.dsl 0 false [],.bool false]) [ar y6.2] [0])) else .bind (dQ q1 (kB q)) fun y7=>cz 150 [pp 0,.sl 1 0 2 true] [ar y2.2,some (q,9)] (.str y7.1) [ar y7.2,
  some (q,9)] [0] (dz (.agg [aa 10,.str nm,.str y7.1,.dsl 0 false [],.dsl 0 false [],.dsl 0 false [],.dsl 0 false [],.bool false]) [ar y7.2] [0])))) else .bind false fun y8=>cz 51 [aa 10,aa 2,aa 6] [] (.bool y8) [] []
  (bif y8 then .bind (gj q1 y0.1) fun y9=>cz 228 [pp 0,aa y0.1] [ar y2.2] (ab aE y9.1) [ar y9.2] [0] (.bind (dQ (aX (ae aP y9.2.l) (y9.2.k:Int) y9.2.s) (kB q)) fun cY=>cz 150 [pp 0,.sl 1 0 2 true]
  [ar y9.2,some (q,9)] (.str cY.1) [ar cY.2,some (q,9)] [0] (dz (.agg [aa 10,.str [],.str cY.1,ab aE y9.1,.dsl 0 false [],.dsl 0 false [],.dsl 0 false [],.bool false]) [ar cY.2] [0])) else .bind (dQ q1
  (kB q)) fun cG=>cz 150 [pp 0,.sl 1 0 2 true] [ar y2.2,some (q,9)] (.str cG.1) [ar cG.2,some (q,9)] [0] (dz (.agg [aa 10,.str [],.str cG.1,.dsl 0 false [],.dsl 0 false [],.dsl 0 false [],.dsl 0 false [],.bool
  false]) [ar cG.2] [0])))))))):T _):=fz
def dr (t:Int):List UInt8:=([[110,111,116,101],[112,111,114,116],[115,119,105,116,99,104]]:List (List UInt8)).getD t.toNat []
def pO:List (List UInt8):=[[],[112],[113]]
def s4:List (List UInt8):=[[108,111,99,107],[111,116,104,101,114]]
inductive fq:Op'->Prop
 | ins (t:Int) (row:List Sx) (nm:List UInt8) (ht:0<=t/\t<3) (hr:∀s∈row,lr (df t) s) (hl:row.length<=3) (hn:nm∈pO):fq ⟨1,dr t,nm,[],row,[],[],false⟩
 | HE (t:Int) (aS:List aZ) (av:List (List UInt8)) (ht:0<=t/\t<3) (hw:∀q∈aS,gE (df t) q) (gQ:aS.length<=2) (hc:∀n∈av,n=mz\/∃q∈(df t).av,n=q.name) (hl:av.length<=4):fq ⟨2,dr t,[],aS,[],[],av,false⟩
 | IF (t:Int) (aS:List aZ) (row:List Sx) (ht:0<=t/\t<3) (hw:∀q∈aS,gE (df t) q) (gQ:aS.length<=2) (hr:∀s∈row,lr (df t) s) (hl:row.length<=3):fq ⟨3,dr t,[],aS,row,[],[],false⟩
 | mut (t:Int) (aS:List aZ) (cC:List Mt) (ht:0<=t/\t<3) (hw:∀q∈aS,gE (df t) q) (gQ:aS.length<=2) (hm:∀m∈cC,j7 (df t) m) (hl:cC.length<=2):fq ⟨4,dr t,[],aS,[],cC,[],false⟩
 | del (t:Int) (aS:List aZ) (ht:0<=t/\t<3) (hw:∀q∈aS,gE (df t) q) (gQ:aS.length<=2):fq ⟨5,dr t,[],aS,[],[],[],false⟩
 | wait (t:Int) (aS:List aZ) (row:List Sx) (b:Bool) (ht:0<=t/\t<3) (hw:∀q∈aS,gE (df t) q) (gQ:aS.length<=2) (hr:∀s∈row,lr (df t) s) (hl:row.length<=3):fq ⟨6,dr t,[],aS,row,[],[],b⟩
 | DW:fq ⟨7,[],[],[],[],[],[],false⟩
 | Dt:fq ⟨8,[],[],[],[],[],[],false⟩
 | HD:fq ⟨9,[],[115,97,105,100],[],[],[],[],false⟩
 | Dz (nm:List UInt8) (hn:nm∈s4):fq ⟨10,[],nm,[],[],[],[],false⟩
def lU (c:Nat) (x:Src):Prop:=∃o x',au Pz gK [.ptr 0 0] [ar x] ⟨.agg (aK o),[ar x'],[0]⟩/\fq o/\x'.OK c
def SF (c:Nat) (r:aF):Prop:=∃o x',r=⟨.agg (aK o),[ar x'],[0]⟩/\fq o/\x'.OK c
theorem oA {c:Nat} {x:Src} (h:∃r,au Pz gK [.ptr 0 0] [ar x] r/\SF c r):lU c x:=by
 obtain ⟨r,h1,o,x',rfl,h2,h3⟩:=h;exact ⟨o,x',h1,h2,h3⟩
def fR (y1 y2:Int):Int:=([1,1,3,4,2,5,1+y1]:List Int).getD y2.toNat 0
theorem m2 (y1 y2:Int) (h1:0<=y1/\y1<10) (h2:0<=y2/\y2<7):([V.int .i64 1,.int .i64 1,.int .i64 3,.int .i64 4,.int .i64 2,.int .i64 5,.int .i64 (wz (1+y1))]:List V)[0+y2.toNat*1]?=some (.int .i64 (fR y1 y2))/\1<=fR y1 y2/\fR y1 y2<=10:=by
 have w:wz (1+y1)=1+y1:=du ag;rw [w];have:y2=0\/y2=1\/y2=2\/y2=3\/y2=4\/y2=5\/y2=6:=ag;rcases this with rfl | rfl | rfl | rfl | rfl | rfl | rfl;all_goals refine ⟨rfl,?_,?_⟩ <;> first | (simp [fR];done) | (simp [fR];omega)
theorem ot (y0:Int) (h:0<=y0/\y0<3):([V.str [110,111,116,101],.str [112,111,114,116],.str [115,119,105,116,99,104]]:List V)[0+y0.toNat*1]?=some (.str (dr y0)):=by
 have:y0=0\/y0=1\/y0=2:=ag;rcases this with rfl | rfl | rfl <;> rfl
theorem gS (n lo hi:Int) (h:lo<=n/\n<=hi):au Pz mK [.int .i64 n,.int .i64 lo,.int .i64 hi] [] ⟨.bool true,[],[]⟩:=by
 have:=fB n lo hi;rwa [decide_eq_true h.1,decide_eq_true h.2] at this
theorem pK (n lo hi:Int) (h:¬(lo<=n/\n<=hi)):au Pz mK [.int .i64 n,.int .i64 lo,.int .i64 hi] [] ⟨.bool false,[],[]⟩:=by
 have:=fB n lo hi;rwa [show (decide (lo<=n)&&decide (n<=hi))=false by rw [<- Bool.not_eq_true,Bool.and_eq_true,decide_eq_true_eq,decide_eq_true_eq];exact h] at this
section
variable {x:Src} {c:Nat} {y0 y1 y2:Int×Src} (e0:aU x 3=y0) (e1:aU y0.2 10=y1) (e2:aU y1.2 7=y2)
 (n0:au Tryz.prog lx [.ptr 0 0,.int .i64 3] [ar x] ⟨.int .i64 y0.1,[ar y0.2],[0]⟩)
 (n1:au Tryz.prog lx [.ptr 0 0,.int .i64 10] [ar y0.2] ⟨.int .i64 y1.1,[ar y1.2],[0]⟩)
 (n2:au Tryz.prog lx [.ptr 0 0,.int .i64 7] [ar y1.2] ⟨.int .i64 y2.1,[ar y2.2],[0]⟩)
 (b0:0<=y0.1/\y0.1<3) (b1:0<=y1.1/\y1.1<10) (b2:0<=y2.1/\y2.1<7) (o2:y2.2.OK (c+210))
 include e0 e1 e2 n0 n1 n2 b0 b1 b2 o2
theorem ax5 (hv:fR y1.1 y2.1=1):lU c x:=by
 have hl:=(m2 y1.1 y2.1 b1 b2).1;rw [hv] at hl;have eI:=ot y0.1 b0;refine oA ?_;refine kL (E:=gX 1 (dr y0.1)) follows named (av3 x (dr y0.1)) ?_;simp only [sz,dZ];rw [e0];intro z e;rw [e,e1];clear e z;refine ⟨n0,?_⟩;intro z e;rw [e,e2];clear e z;refine ⟨n1,?_⟩;intro z e;rw [e];clear e z;refine ⟨n2,⟨b2.1,b2.2⟩,hl,?_⟩;clear hl n0 n1 n2 e0 e1 e2;rintro _ rfl;refine ⟨gS 1 1 6 ag,fun _ => ?_,(fun h=>by cases h)⟩;refine ⟨⟨b0.1,b0.2⟩,eI,?_⟩;rintro _ rfl;refine ⟨pK 1 2 6 ag,(fun h=>by cases h),fun _ => ?_⟩;have ia:=(zd b0 (x:=y2.2) (c:=c+129) (o2.less ag)).1;have dG:=tL b0 (x:=y2.2) (c:=c+129) (o2.less ag);rintro y3 e;rw [<- e] at ia dG;clear e;refine ⟨ia,?_⟩;have mO:=x6 (c:=c+126) y3.2 pO true rfl rfl rfl (dG.2.2.2.less ag);have fZ:=qW (x:=y3.2) (L:=pO) (c:=c+126) (dG.2.2.2.less ag) (by simp [pO]);rintro y4 e;have e:y4=dQ y3.2 pO:=e;rw [<- e] at mO fZ;clear e;refine ⟨mO,?_⟩;exact ⟨⟨1,dr y0.1,y4.1,[],y3.1,[],[],false⟩,y4.2,rfl,.ins y0.1 _ _ b0 dG.1 dG.2.1 fZ.2,fZ.1.less ag⟩
theorem ax7 (hv:fR y1.1 y2.1=2):lU c x:=by
 have hl:=(m2 y1.1 y2.1 b1 b2).1;rw [hv] at hl;have eI:=ot y0.1 b0;refine oA ?_;refine kL (E:=gX 2 (dr y0.1)) follows named (av5 x (dr y0.1)) ?_;simp only [sz,dZ];rw [e0];intro z e;rw [e,e1];clear e z;refine ⟨n0,?_⟩;intro z e;rw [e,e2];clear e z;refine ⟨n1,?_⟩;intro z e;rw [e];clear e z;refine ⟨n2,⟨b2.1,b2.2⟩,hl,?_⟩;clear hl n0 n1 n2 e0 e1 e2;rintro _ rfl;refine ⟨gS 2 1 6 ag,fun _ => ?_,(fun h=>by cases h)⟩;refine ⟨⟨b0.1,b0.2⟩,eI,?_⟩;rintro _ rfl;refine ⟨gS 2 2 6 ag,fun _ => ?_,(fun h=>by cases h)⟩;have ia:=wX b0 (x:=y2.2) (c:=c+87) (o2.less ag);have dG:=wV b0 (x:=y2.2) (c:=c+87) (o2.less ag);rintro y3 e;rw [<- e] at ia dG;clear e;refine ⟨ia,?_⟩;have fZ:=aA6 b0 (x:=y3.2) (c:=c+75) (dG.2.2.less ag);rintro y4 e;rw [<- e] at fZ;clear e;refine ⟨fZ.1,?_⟩;exact ⟨⟨2,dr y0.1,[],y3.1,[],[],y4.1,false⟩,y4.2,rfl,.HE y0.1 _ _ b0 dG.1 dG.2.1 fZ.2.1 fZ.2.2.1,fZ.2.2.2.less ag⟩
theorem ax8 (hv:fR y1.1 y2.1=3):lU c x:=by
 have hl:=(m2 y1.1 y2.1 b1 b2).1;rw [hv] at hl;have eI:=ot y0.1 b0;refine oA ?_;refine kL (E:=gX 3 (dr y0.1)) follows named (av6 x (dr y0.1)) ?_;simp only [sz,dZ];rw [e0];intro z e;rw [e,e1];clear e z;refine ⟨n0,?_⟩;intro z e;rw [e,e2];clear e z;refine ⟨n1,?_⟩;intro z e;rw [e];clear e z;refine ⟨n2,⟨b2.1,b2.2⟩,hl,?_⟩;clear hl n0 n1 n2 e0 e1 e2;rintro _ rfl;refine ⟨gS 3 1 6 ag,fun _ => ?_,(fun h=>by cases h)⟩;refine ⟨⟨b0.1,b0.2⟩,eI,?_⟩;rintro _ rfl;refine ⟨gS 3 2 6 ag,fun _ => ?_,(fun h=>by cases h)⟩;have ia:=wX b0 (x:=y2.2) (c:=c+87) (o2.less ag);have dG:=wV b0 (x:=y2.2) (c:=c+87) (o2.less ag);rintro y3 e;rw [<- e] at ia dG;clear e;refine ⟨ia,?_⟩;have mO:=(zd b0 (x:=y3.2) (c:=c+6) (dG.2.2.less ag)).1;have fZ:=tL b0 (x:=y3.2) (c:=c+6) (dG.2.2.less ag);rintro y4 e;rw [<- e] at mO fZ;clear e;refine ⟨mO,?_⟩;exact ⟨⟨3,dr y0.1,[],y3.1,y4.1,[],[],false⟩,y4.2,rfl,.IF y0.1 _ _ b0 dG.1 dG.2.1 fZ.1 fZ.2.1,fZ.2.2.2.less ag⟩
theorem ax9 (hv:fR y1.1 y2.1=4):lU c x:=by
 have hl:=(m2 y1.1 y2.1 b1 b2).1
 rw [hv] at hl
 have eI:=ot y0.1 b0
 refine oA ?_
 refine kL (E:=gX 4 (dr y0.1)) follows named (av7 x (dr y0.1)) ?_
 simp only [ba,T.WP,All,bg,dZ,cp.af]
 rw [e0]
 intro z e
 rw [e,e1]
 clear e z
 refine ⟨n0,?_⟩
 intro z e
 rw [e,e2]
 clear e z
 refine ⟨n1,?_⟩
 intro z e
 rw [e]
 clear e z
 refine ⟨n2,⟨b2.1,b2.2⟩,hl,?_⟩
 clear hl n0 n1 n2 e0 e1 e2
 rintro _ rfl
 refine ⟨gS 4 1 6 ag,fun _ => ?_,(fun h=>by cases h)⟩
 refine ⟨⟨b0.1,b0.2⟩,eI,?_⟩
 rintro _ rfl
 refine ⟨gS 4 2 6 ag,fun _ => ?_,(fun h=>by cases h)⟩
 have ia:=wX b0 (x:=y2.2) (c:=c+87) (o2.less ag)
 have dG:=wV b0 (x:=y2.2) (c:=c+87) (o2.less ag)
 rintro y3 e
 rw [<- e] at ia dG
 clear e
 refine ⟨ia,?_⟩
 have mO:=fD (c:=c+84) y3.2 2 (dG.2.2.less ag)
 have fZ:=dJ (x:=y3.2) (n:=2) (c:=c+84) (dG.2.2.less ag) ag
 rintro y4 e
 rw [<- e] at mO fZ
 clear e
 refine ⟨mO,?_⟩
 have w:IntKind.i64.wrap (1+y4.1)=((y4.1.toNat+1:Nat):Int):=by rw [du ag];omega
 rw [w,Int.toNat_natCast]
 have hl:=ai6 b0 (dr y0.1) y3.1 y4.1.toNat ag y4.2 (c+12) (fZ.1.less ag)
 have sD:=Nj b0 (y4.1.toNat+1) y4.2 [] (c+12) (fZ.1.less ag) (by simp)
 rintro y5 e
 rw [<- e] at hl sD
 clear e
 have hlen:=sD.2.1
 rw [List.length_nil] at hlen
 refine ⟨⟨a8,.aV hl⟩,?_⟩
 exact ⟨⟨4,dr y0.1,[],y3.1,[],y5.1,[],false⟩,y5.2,rfl,.mut y0.1 _ _ b0 dG.1 dG.2.1 sD.1 ag,sD.2.2.less ag⟩
theorem ay0 (hv:fR y1.1 y2.1=5):lU c x:=by
 have hl:=(m2 y1.1 y2.1 b1 b2).1;rw [hv] at hl;have eI:=ot y0.1 b0;refine oA ?_;refine kL (E:=gX 5 (dr y0.1)) follows named (av8 x (dr y0.1)) ?_;simp only [sz,dZ];rw [e0];intro z e;rw [e,e1];clear e z;refine ⟨n0,?_⟩;intro z e;rw [e,e2];clear e z;refine ⟨n1,?_⟩;intro z e;rw [e];clear e z;refine ⟨n2,⟨b2.1,b2.2⟩,hl,?_⟩;clear hl n0 n1 n2 e0 e1 e2;rintro _ rfl;refine ⟨gS 5 1 6 ag,fun _ => ?_,(fun h=>by cases h)⟩;refine ⟨⟨b0.1,b0.2⟩,eI,?_⟩;rintro _ rfl;refine ⟨gS 5 2 6 ag,fun _ => ?_,(fun h=>by cases h)⟩;have ia:=wX b0 (x:=y2.2) (c:=c+87) (o2.less ag);have dG:=wV b0 (x:=y2.2) (c:=c+87) (o2.less ag);rintro y3 e;rw [<- e] at ia dG;clear e;refine ⟨ia,?_⟩;exact ⟨⟨5,dr y0.1,[],y3.1,[],[],[],false⟩,y3.2,rfl,.del y0.1 _ b0 dG.1 dG.2.1,dG.2.2.less ag⟩
theorem ay1 (hv:fR y1.1 y2.1=6):lU c x:=by
 have hl:=(m2 y1.1 y2.1 b1 b2).1;rw [hv] at hl;have eI:=ot y0.1 b0;refine oA ?_;refine kL (E:=gX 6 (dr y0.1)) follows named (av9 x (dr y0.1)) ?_;simp only [sz,dZ];rw [e0];intro z e;rw [e,e1];clear e z;refine ⟨n0,?_⟩;intro z e;rw [e,e2];clear e z;refine ⟨n1,?_⟩;intro z e;rw [e];clear e z;refine ⟨n2,⟨b2.1,b2.2⟩,hl,?_⟩;clear hl n0 n1 n2 e0 e1 e2;rintro _ rfl;refine ⟨gS 6 1 6 ag,fun _ => ?_,(fun h=>by cases h)⟩;refine ⟨⟨b0.1,b0.2⟩,eI,?_⟩;rintro _ rfl;refine ⟨gS 6 2 6 ag,fun _ => ?_,(fun h=>by cases h)⟩;have ia:=wX b0 (x:=y2.2) (c:=c+87) (o2.less ag);have dG:=wV b0 (x:=y2.2) (c:=c+87) (o2.less ag);rintro y3 e;rw [<- e] at ia dG;clear e;refine ⟨ia,?_⟩;have mO:=(zd b0 (x:=y3.2) (c:=c+6) (dG.2.2.less ag)).1;have fZ:=tL b0 (x:=y3.2) (c:=c+6) (dG.2.2.less ag);rintro y4 e;rw [<- e] at mO fZ;clear e;refine ⟨mO,?_⟩;have Ln:=gy (c:=c+3) y4.2 2 (fZ.2.2.2.less ag) ag;have sD:=fx (x:=y4.2) (n:=2) (c:=c+3) (fZ.2.2.2.less ag) ag;rintro y5 e;rw [<- e] at Ln sD;clear e;refine ⟨Ln,?_⟩;have hB:∀b:Bool,(bif b then b else b)=b:=fun b=>by cases b <;> rfl
 exact ⟨⟨6,dr y0.1,[],y3.1,y4.1,[],[],y5.1⟩,y5.2,rfl,.wait y0.1 _ _ _ b0 dG.1 dG.2.1 fZ.1 fZ.2.1,sD.less ag⟩
theorem ay2 (hv:fR y1.1 y2.1=7):lU c x:=by
 have hl:=(m2 y1.1 y2.1 b1 b2).1;rw [hv] at hl;have eI:=ot y0.1 b0;refine oA ?_;refine kL (E:=gX 7 (dr y0.1)) follows named (aw0 x (dr y0.1)) ?_;simp only [sz,dZ];rw [e0];intro z e;rw [e,e1];clear e z;refine ⟨n0,?_⟩;intro z e;rw [e,e2];clear e z;refine ⟨n1,?_⟩;intro z e;rw [e];clear e z;refine ⟨n2,⟨b2.1,b2.2⟩,hl,?_⟩;clear hl n0 n1 n2 e0 e1 e2;rintro _ rfl;refine ⟨pK 7 1 6 ag,(fun h=>by cases h),fun _ => ?_⟩;rintro _ rfl;refine ⟨pK 7 2 6 ag,(fun h=>by cases h),fun _ => ?_⟩;exact ⟨⟨7,[],[],[],[],[],[],false⟩,y2.2,rfl,.DW,o2.less ag⟩
theorem ay3 (hv:fR y1.1 y2.1=8):lU c x:=by
 have hl:=(m2 y1.1 y2.1 b1 b2).1;rw [hv] at hl;have eI:=ot y0.1 b0;refine oA ?_;refine kL (E:=gX 8 (dr y0.1)) follows named (aw1 x (dr y0.1)) ?_;simp only [sz,dZ];rw [e0];intro z e;rw [e,e1];clear e z;refine ⟨n0,?_⟩;intro z e;rw [e,e2];clear e z;refine ⟨n1,?_⟩;intro z e;rw [e];clear e z;refine ⟨n2,⟨b2.1,b2.2⟩,hl,?_⟩;clear hl n0 n1 n2 e0 e1 e2;rintro _ rfl;refine ⟨pK 8 1 6 ag,(fun h=>by cases h),fun _ => ?_⟩;rintro _ rfl;refine ⟨pK 8 2 6 ag,(fun h=>by cases h),fun _ => ?_⟩;exact ⟨⟨8,[],[],[],[],[],[],false⟩,y2.2,rfl,.Dt,o2.less ag⟩
theorem ay4 (hv:fR y1.1 y2.1=9):lU c x:=by
 have hl:=(m2 y1.1 y2.1 b1 b2).1;rw [hv] at hl;have eI:=ot y0.1 b0;refine oA ?_;refine kL (E:=gX 9 (dr y0.1)) follows named (aw2 x (dr y0.1)) ?_;simp only [sz,dZ];rw [e0];intro z e;rw [e,e1];clear e z;refine ⟨n0,?_⟩;intro z e;rw [e,e2];clear e z;refine ⟨n1,?_⟩;intro z e;rw [e];clear e z;refine ⟨n2,⟨b2.1,b2.2⟩,hl,?_⟩;clear hl n0 n1 n2 e0 e1 e2;rintro _ rfl;refine ⟨pK 9 1 6 ag,(fun h=>by cases h),fun _ => ?_⟩;rintro _ rfl;refine ⟨pK 9 2 6 ag,(fun h=>by cases h),fun _ => ?_⟩;exact ⟨⟨9,[],[115,97,105,100],[],[],[],[],false⟩,y2.2,rfl,.HD,o2.less ag⟩
theorem ax6 (hv:fR y1.1 y2.1=10):lU c x:=by
 have hl:=(m2 y1.1 y2.1 b1 b2).1;rw [hv] at hl;have eI:=ot y0.1 b0;refine oA ?_;refine kL (E:=gX 10 (dr y0.1)) follows named (av4 x (dr y0.1)) ?_;simp only [sz,dZ];rw [e0];intro z e;rw [e,e1];clear e z;refine ⟨n0,?_⟩;intro z e;rw [e,e2];clear e z;refine ⟨n1,?_⟩;intro z e;rw [e];clear e z;refine ⟨n2,⟨b2.1,b2.2⟩,hl,?_⟩;clear hl n0 n1 n2 e0 e1 e2;rintro _ rfl;refine ⟨pK 10 1 6 ag,(fun h=>by cases h),fun _ => ?_⟩;rintro _ rfl;refine ⟨pK 10 2 6 ag,(fun h=>by cases h),fun _ => ?_⟩;have ia:=x6 (c:=c+207) y2.2 s4 true rfl rfl rfl (o2.less ag);have dG:=qW (x:=y2.2) (L:=s4) (c:=c+207) (o2.less ag) (by simp [s4]);rintro y3 e;have e:y3=dQ y2.2 s4:=e;rw [<- e] at ia dG;clear e;refine ⟨ia,?_⟩;exact ⟨⟨10,[],y3.1,[],[],[],[],false⟩,y3.2,rfl,.Dz _ dG.2,dG.1.less ag⟩
 omit e0 e1 e2 n0 n1 n2 b0 b1 b2 o2
end
theorem ax4 {x:Src} {c:Nat} (h:x.OK (c+219)):lU c x:=by
 have o0:=dJ (x:=x) (n:=3) (c:=c+216) (h.less ag) ag;have n0:=fD (c:=c+216) x 3 (h.less ag);have o1:=dJ (x:=(aU x 3).2) (n:=10) (c:=c+213) (o0.1.less ag) ag;have n1:=fD (c:=c+213) (aU x 3).2 10 (o0.1.less ag);have o2:=dJ (x:=(aU (aU x 3).2 10).2) (n:=7) (c:=c+210) (o1.1.less ag) ag;have n2:=fD (c:=c+210) (aU (aU x 3).2 10).2 7 (o1.1.less ag);have hb:=(m2 _ _ o1.2 o2.2).2;have:fR (aU (aU x 3).2 10).1 (aU (aU (aU x 3).2 10).2 7).1=1\/fR (aU (aU x 3).2 10).1 (aU (aU (aU x 3).2 10).2 7).1=2\/fR (aU (aU x 3).2 10).1 (aU (aU (aU x 3).2 10).2 7).1=3\/fR (aU (aU x 3).2 10).1 (aU (aU (aU x 3).2 10).2 7).1=4\/fR (aU (aU x 3).2 10).1 (aU (aU (aU x 3).2 10).2 7).1=5\/fR (aU (aU x 3).2 10).1 (aU (aU (aU x 3).2 10).2 7).1=6\/fR (aU (aU x 3).2 10).1 (aU (aU (aU x 3).2 10).2 7).1=7\/fR (aU (aU x 3).2 10).1 (aU (aU (aU x 3).2 10).2 7).1=8\/fR (aU (aU x 3).2 10).1 (aU (aU (aU x 3).2 10).2 7).1=9\/fR (aU (aU x 3).2 10).1 (aU (aU (aU x 3).2 10).2 7).1=10:=ag;rcases this with hv | hv | hv | hv | hv | hv | hv | hv | hv | hv
 ·exact ax5 rfl rfl rfl n0 n1 n2 o0.2 o1.2 o2.2 o2.1 hv
 ·exact ax7 rfl rfl rfl n0 n1 n2 o0.2 o1.2 o2.2 o2.1 hv
 ·exact ax8 rfl rfl rfl n0 n1 n2 o0.2 o1.2 o2.2 o2.1 hv
 ·exact ax9 rfl rfl rfl n0 n1 n2 o0.2 o1.2 o2.2 o2.1 hv
 ·exact ay0 rfl rfl rfl n0 n1 n2 o0.2 o1.2 o2.2 o2.1 hv
 ·exact ay1 rfl rfl rfl n0 n1 n2 o0.2 o1.2 o2.2 o2.1 hv
 ·exact ay2 rfl rfl rfl n0 n1 n2 o0.2 o1.2 o2.2 o2.1 hv
 ·exact ay3 rfl rfl rfl n0 n1 n2 o0.2 o1.2 o2.2 o2.1 hv
 ·exact ay4 rfl rfl rfl n0 n1 n2 o0.2 o1.2 o2.2 o2.1 hv
 ·exact ax6 rfl rfl rfl n0 n1 n2 o0.2 o1.2 o2.2 o2.1 hv
section
variable {P:Program} {hp:Hp}
theorem aC1 {b:Nat} {c:List V} {T:TypeId} (k:Nat) (hb:hp[b]?=some (some ([.aw c],T))) (hT:eL T=true):fu P hp (hp.set b (some ([.aw (c.take k)],T))) [b]:=by
 have t:=ya hb (some ([.aw (c.take k)],T)) [];rw [List.append_nil] at t;refine .of t fun {I μ w} pre => ?_;have hH:=pre.holds b (by simp) _ hb;rcases hH with ⟨g,cs,fr,h1,h2,h3,h4,⟨h5,h6⟩,h7,h8⟩ | ⟨h1,h2⟩ | ⟨g,es,ck,c',h1,h2,h3,he,h4,h5⟩;rotate_right
 ·cases he
  simp [eL,mm] at hT
 ·have e:flat [V.aw c]=c:=by simp [flat]
  have e':flat [V.aw (c.take k)]=c.take k:=by simp [flat]
  simp only [e] at h5 h6;obtain ⟨us,cM,hv,hr,hn⟩:=CR.BS.1 h6;obtain ⟨hF,iL⟩:=CR.fP.1 hn;subst iL;rw [List.append_nil] at hv;have kP:=hr.take k;rw [<- hv,List.take_take] at kP;have hl:(c.take k).length=min k c.length:=List.length_take;have G:=Good.rF (bG:=([.aw (c.take k)],T)) (cs:=cs) (F:=[]) (pre.top (by simp)) (by simp) hb h1 h3 rfl rfl h4 (List.nil_sublist _) (.aw (by rw [hl];omega) (by rw [hl];exact kP));rw [setRow_self w g cs T fr h3] at G;exact ⟨_,G⟩
 ·refine ⟨μ,.refl _,fun _ h=> .inl h,.refl _ _,.refl _,fun _ _ h=> .inl h,fun _ _ _=>rfl,fun q hc blk bz => ?_,fun q hc blk bz g hg => ?_,fun q d b1 b2 g bc hc hd e1 e2 g1 g2 => ?_⟩
  ·rcases vY bz with ⟨rfl,rfl⟩ | ⟨eV,h⟩
   ·exact .inr (.inl ⟨h1,h2⟩)
   ·rcases hc with hc | hc
    ·exact absurd (by simpa using hc) eV
    ·rw [List.getElem?_eq_none hc] at h;cases h
  ·have eV:q=b:=by
    rcases hc with hc | hc
    ·have:=(List.getElem?_eq_some_iff.1 bz).1;simp at this;omega
    ·simpa using hc
   subst eV;rcases hg with hg | hg
   ·rw [h1] at hg;cases hg
   ·rw [h2] at hg;cases hg
  ·have key:∀(q:Nat) (b1:bM),(q∈[b]\/hp.length<=q)->(hp.set b (some ([.aw (c.take k)],T)))[q]?=some (some b1)->q=b:=by
    intro q b1 hc e1;rcases hc with hc | hc
    ·simpa using hc
    ·have:=(List.getElem?_eq_some_iff.1 e1).1;simp at this;omega
   exact bc ((key q b1 hc e1).trans (key d b2 hd e2).symm)
end
abbrev qy:Nat:=77
instance:Inhabited Op':=⟨.zero⟩
theorem Ox:∃g:Src->Op'×Src,∀(c:Nat) (x:Src),x.OK (c+219) ->
  (au Pz gK [.ptr 0 0] [ar x] ⟨.agg (aK (g x).1),[ar (g x).2],[0]⟩/\fq (g x).1)/\(g x).2.OK c:=
 D9 (R:=fun x q x'=>au Pz gK [.ptr 0 0] [ar x] ⟨.agg (aK q),[ar x'],[0]⟩/\fq q) fun c x hx=>by
  obtain ⟨q,x',h1,h2,h3⟩:=ax4 hx;exact ⟨q,x',⟨h1,h2⟩,h3⟩
def mn (x:Src):Op'×Src:=Classical.choose Ox x
theorem Ou {x:Src} {c:Nat} (h:x.OK (c+219)):
  au Pz gK [.ptr 0 0] [ar x] ⟨.agg (aK (mn x).1),[ar (mn x).2],[0]⟩/\fq (mn x).1/\(mn x).2.OK c:=by
 have:=Classical.choose_spec Ox c x h;exact ⟨this.1.1,this.1.2,this.2⟩
def opsL:Nat->Src->List Op'->List Op'×Src
 | 0,x,l=>(l,x)
 | n+1,x,l=>opsL n (mn x).2 (l++[(mn x).1])
def PU:cy:=fun f vs hp=>match vs,hp with
 | [.ptr 0 0,.int _ n],[some ([.dsl _ _ cs,.int _ k,.int _ s],_)]=>bif Nat.beq f lx then some ⟨aU (aX cs k s) n,fun y=>⟨.int .i64 y.1,[ar y.2],[0]⟩⟩
  else bif Nat.beq f mM then some ⟨cT (aX cs k s) n,fun y=>⟨.sl 1 0 y.1.length false,[ar y.2,some ([.aw (ae aR (bif n==2 then y.1.take 1 else y.1))],lL)],[0]⟩⟩
  else bif Nat.beq f w9 then some ⟨bq (aX cs k s) n,fun y=>⟨.bool y.1,[ar y.2],[0]⟩⟩ else none
 | [.ptr 0 0],[some ([.dsl _ _ cs,.int _ k,.int _ s],_)]=>bif Nat.beq f gK then some ⟨mn (aX cs k s),fun y=>⟨.agg (aK y.1),[ar y.2],[0]⟩⟩ else none
 | _,_=>none
def I5:Env:={P:=Pz,vw:=zl,res:=PU}
def rp (x:Src) (l:List Op') (i:Int):St:=⟨ah 43 [(0,.ptr 0 0),(3,.sl 1 0 l.length false),(5,.int .i64 i)],[ar x,some ([.aw (ae aK l)],iQ)],[0]⟩
def ao1:Ex->Kp:=fun _=>{keep:=[0,3,5],wr:=[0],rk:=true}
theorem Oz (x:Src) (l:List Op') (i:Int):bp I5 1 ao1 (lp Pz qy 0) (rp x l i)=(
 bif decide (i>0) then .bind (mn (aX (ae aP x.l) (x.k:Int) x.s)) fun y0=> .ai [au (Env.P I5) 158 [pp 0] [ar x] (aF.mk (.agg [aa y0.1.kind,.str y0.1.table,.str y0.1.name,ab aE y0.1.aS,ab aR y0.1.row,
  ab bR y0.1.cC,ab encStr y0.1.av,.bool y0.1.gV]) [ar y0.2] [0])] (.ai [0=0,List.length (ae aK l)=l.length*8,l.length+1<=9223372036854775807,(l.length+1)*144<=140737488355328] (.done (Ex.normal,
  St.mk (ah 43 [(0,pp 0),(3,.sl 1 0 (l.length+1) false),(5,aa (wz (i - 1)))]) [ar y0.2,some ([.aw (ae aK l++[aa y0.1.kind,.str y0.1.table,.str y0.1.name,ab aE y0.1.aS,ab aR y0.1.row,ab bR
  y0.1.cC,ab encStr y0.1.av,.bool y0.1.gV])],178)] [0]))) else .done (Ex.exit 0,St.mk (ah 43 [(0,pp 0),(3,.sl 1 0 l.length false),(5,aa i)]) [ar x,some ([.aw (ae aK l)],178)] [0]):T _):=kz
theorem OB:∀(n:Nat) (x:Src) (l:List Op') (c:Nat),x.OK (c+n*219)->l.length+n<=100000 ->
  aT Tryz.prog 1 (lp Tryz.prog qy 0) (rp x l n) (.exit 0) (rp (opsL n x l).2 (opsL n x l).1 0)
 | 0,x,l,c,h,hl=>by
  refine bt (Oz x l ((0:Nat):Int)) ?_
  simp only [ba,T.WP,All,bh,bl,bg]
  exact ⟨fun h=>ag,fun _=>⟨rfl,rfl⟩⟩
 | n+1,x,l,c,h,hl=>by
  have h1:=Ou (x:=x) (c:=c+n*219) (h.less ag)
  have ih:=OB n (mn x).2 (l++[(mn x).1]) c h1.2.2 (by simp only [List.length_append,List.length_singleton];omega)
  have w1:IntKind.i64.wrap (((n+1:Nat):Int) - 1)=(n:Nat):=by rw [du ag];omega
  refine bt (Oz x l ((n+1:Nat):Int)) ?_
  simp only [ba,T.WP,All,bh,bl,bg,w1,dZ]
  refine ⟨fun _ => ?_,fun h=>ag⟩
  rintro y rfl
  refine ⟨h1.1,by rw [iM.length];exact aB,?_⟩
  simp only [rp,dF,aK,ab,List.length_append,List.length_singleton] at ih ⊢
  exact ih
def By:Sx:=⟨[112,111,114,116,115],[],[[112]]⟩
def iq (x:Src):List Op'×Src:=
 bif (bq x 2).1 then
  ([⟨1,dr 1,[112],[],(cT (bq x 2).2 1).1,[],[],false⟩,⟨1,dr 2,[],[],(cT (cT (bq x 2).2 1).2 2).1.take 1++[By],[],[],false⟩],(cT (cT (bq x 2).2 1).2 2).2)
 else ([],(bq x 2).2)
def fo (x:Src):List Op'×Src:=opsL (aU (iq x).2 4).1.toNat (aU (iq x).2 4).2 (iq x).1
def ac7 (L:List Op'):Nat->St->Option b8:=fun id s=>match id,s.tm.get 5,s.hp with
 | 0,.int _ i,[some ([.dsl _ _ cs,.int _ a,.int _ b],_),_]=>some ⟨opsL i.toNat (aX cs a b) [],fun y=> .one {keep:=[0,3,5],wr:=[0],eu:=[3],rk:=true} (rp (aX cs a b) [] i) (.exit 0) (rp y.2 y.1 0)⟩
 | 0,.int _ i,some ([.dsl _ _ cs,.int _ a,.int _ b],_)::_=>some ⟨opsL i.toNat (aX cs a b) L,fun y=> .one {keep:=[0,3,5],wr:=[0],eu:=[3],rk:=true} (rp (aX cs a b) L i) (.exit 0) (rp y.2 y.1 0)⟩
 | _,_,_=>none
def Sg (L:List Op'):Env:={P:=Pz,vw:=zl,res:=PU,ls:=ac7 L}
theorem az0 (x:Src) (L:List Op'):fnT (Sg L) 0 qy [.ptr 0 0] [ar x]=(
 .bind (bq (aX (ae aP x.l) (x.k:Int) x.s) (2:Int)) fun y0=>
 let q:=aX (ae aP y0.2.l) (y0.2.k:Int) y0.2.s;cz 105 [pp 0,aa 2] [ar x] (.bool y0.1) [ar y0.2] [0] (bif y0.1 then .bind (cT q (1:Int)) fun y1=>
 let q1:=ae aR (bif false then List.take 1 y1.1 else y1.1);cz 157 [pp 0,aa 1] [ar y0.2] (.sl 1 0 y1.1.length false) [ar y1.2,some ([.aw q1],189)] [0] (.ai [0=0,0=0,1<=9223372036854775807,144<=140737488355328]
  (.bind (cT (aX (ae aP y1.2.l) (y1.2.k:Int) y1.2.s) (2:Int)) fun y2=>
 let q2:=ae aR (bif true then List.take 1 y2.1 else y2.1);cz 157 [pp 0,aa 2] [ar y1.2] (.sl 1 0 y2.1.length false) [ar y2.2,some ([.aw q2],189)] [0] (.ai [(0:Int)<=1/\(1:Int)<=(y2.1.length:Int)] (.ai [0=0,
  List.length q2=3,2<=9223372036854775807,128<=140737488355328] (.ai [0=0,8=8,2<=9223372036854775807,288<=140737488355328] (.bind (aU (aX (ae aP y2.2.l) (y2.2.k:Int) y2.2.s) (4:Int)) fun y3=>
 let q3:=aX (ae aP y3.2.l) (y3.2.k:Int) y3.2.s;
 let q4:=ah 43 [(0,pp 0),(3,.sl 1 0 L.length false),(5,aa y3.1)];cz 103 [pp 0,aa 4] [ar y2.2] (aa y3.1) [ar y3.2] [0] (.bind (opsL y3.1.toNat q3 L) fun y4=> .ai [St.mk (ah 43 [(0,pp 0),(3,.sl 1 0 2 false),(5,
  aa y3.1)]) [ar y3.2,some ([.aw [aa 1,.str [112,111,114,116],.str [112],.dsl 0 false [],.dsl y1.1.length false q1,.dsl 0 false [],.dsl 0 false [],.bool false,aa 1,.str [115,119,105,116,99,104],.str [],.dsl 0
  false [],.dsl 2 false (ae aR (bif true then List.take 1 y2.1 else y2.1)++[.str [112,111,114,116,115],.dsl 0 false [],.dsl 1 false [.str [112]]]),.dsl 0 false [],.dsl 0 false [],.bool false]],178)] [0]=St.mk q4 [ar
  q3,some ([.aw (ae aK L)],178)] [0],aN Pz 1 (blk Pz qy 0) (St.mk q4 [ar q3,some ([.aw (ae aK L)],178)] [0]) (Ex.exit 0) (St.mk (ah 43 [(0,pp 0),(3,.sl 1 0 y4.1.length false),(5,aa 0)]) [ar y4.2,some
  ([.aw (ae aK y4.1)],178)] [0])] (dz (ab aK y4.1) [ar y4.2] [0])))))))) else .bind (aU q (4:Int)) fun y5=>
 let q5:=ah 43 [(0,pp 0),(3,.sl 1 0 0 false),(5,aa y5.1)];
 let q6:=aX (ae aP y5.2.l) (y5.2.k:Int) y5.2.s;cz 103 [pp 0,aa 4] [ar y0.2] (aa y5.1) [ar y5.2] [0] (.bind (opsL y5.1.toNat q6 []) fun y6=> .ai [St.mk q5 [ar y5.2,some ([.aw []],178)] [0]=St.mk q5 [ar q6,
  some ([.aw []],178)] [0],aN Pz 1 (blk Pz qy 0) (St.mk q5 [ar q6,some ([.aw []],178)] [0]) (Ex.exit 0) (St.mk (ah 43 [(0,pp 0),(3,.sl 1 0 y6.1.length false),(5,aa 0)]) [ar y6.2,some ([.aw (ae aK y6.1)],
  178)] [0])] (dz (ab aK y6.1) [ar y6.2] [0]))):T _):=fz
theorem aQ3 {x:Src} {c:Nat} (h:x.OK (c+81)):
  au Pz mM [.ptr 0 0,.int .i64 2] [ar x] ⟨.sl 1 0 (cT x 2).1.length false,[ar (cT x 2).2,some ([.aw (ae aR ((cT x 2).1.take 1))],lL)],[0]⟩:=by
 have h1:=(zd (t:=2) ag h).2;have h2:=h1.aC5 (aC1 (hp:=[ar (cT x 2).2,some ([.aw (ae aR (cT x 2).1)],lL)]) (b:=1) (c:=ae aR (cT x 2).1) (T:=lL) 3 rfl rfl);have e:(ae aR (cT x 2).1).take 3=ae aR ((cT x 2).1.take 1):=eE.take _ 1;rw [e] at h2;exact h2
theorem aB5:lr (df 2) By:=⟨DN,by decide,rfl,.nil _,by decide,by decide,fun _=>⟨rfl,rfl⟩,by decide⟩
theorem Oy {x:Src} {c:Nat} (h:x.OK (c+165)):(∀o∈(iq x).1,fq o)/\(iq x).1.length<=2/\(iq x).2.OK c:=by
 have o0:=fx (x:=x) (n:=2) (c:=c+162) (h.less ag) ag;unfold iq;cases (bq x 2).1
 ·exact ⟨by simp,by simp,o0.less ag⟩
 ·have h1:=tL (t:=1) ag (x:=(bq x 2).2) (c:=c+81) (o0.less ag);have h2:=tL (t:=2) ag (x:=(cT (bq x 2).2 1).2) (c:=c) h1.2.2.2;simp only [cond_true];refine ⟨fun o ho => ?_,by simp,h2.2.2.2⟩;rcases List.mem_cons.1 ho with rfl | ho
  ·exact .ins 1 _ _ ag h1.1 h1.2.1 (by simp [pO])
  ·rw [List.mem_singleton.1 ho];refine .ins 2 _ _ ag (fun s hs => ?_) (by simp only [List.length_append,List.length_take,List.length_singleton];omega) (by simp [pO]);rcases List.mem_append.1 hs with hs | hs
   ·exact h2.1 s (List.mem_of_mem_take hs)
   ·rw [List.mem_singleton.1 hs];exact aB5
theorem OA:∀(n:Nat) (x:Src) (l:List Op') (c:Nat),x.OK (c+n*219)->(∀o∈l,fq o) ->
  (∀o∈(opsL n x l).1,fq o)/\(opsL n x l).1.length=l.length+n/\(opsL n x l).2.OK c
 | 0,x,l,c,h,hl=>⟨hl,rfl,h.less ag⟩
 | n+1,x,l,c,h,hl=>by
  have h1:=Ou (x:=x) (c:=c+n*219) (h.less ag);have ih:=OA n (mn x).2 (l++[(mn x).1]) c h1.2.2 (by
   intro q hq;rcases List.mem_append.1 hq with hq | hq
   ·exact hl q hq
   ·rw [List.mem_singleton.1 hq];exact h1.2.1)
  rw [opsL];exact ⟨ih.1,by rw [ih.2.1,List.length_append,List.length_singleton];omega,ih.2.2⟩
theorem G6 {x:Src} {c:Nat} (h:x.OK (c+825)):(∀o∈(fo x).1,fq o)/\(fo x).1.length<=5/\(fo x).2.OK c:=by
 have h1:=Oy (c:=c+660) (h.less ag);have o2:=dJ (x:=(iq x).2) (n:=4) (c:=c+657) (h1.2.2.less ag) ag;have h3:=OA (aU (iq x).2 4).1.toNat (aU (iq x).2 4).2 (iq x).1 c (o2.1.less ag) h1.1;unfold fo;exact ⟨h3.1,by rw [h3.2.1];omega,h3.2.2⟩
theorem OC {x:Src} {c:Nat} (h:x.OK (c+825)):au Pz qy [.ptr 0 0] [ar x] ⟨ab aK (fo x).1,[ar (fo x).2],[0]⟩:=by
 have h1:=Oy (c:=c+660) (h.less ag);have o2:=dJ (x:=(iq x).2) (n:=4) (c:=c+657) (h1.2.2.less ag) ag;have n2:=fD (c:=c+657) (iq x).2 4 (h1.2.2.less ag);have hl:=OB (aU (iq x).2 4).1.toNat (aU (iq x).2 4).2 (iq x).1 c (o2.1.less ag) ag;have e3:(((aU (iq x).2 4).1.toNat:Nat):Int)=(aU (iq x).2 4).1:=ag;rw [e3] at hl;have o0:=fx (x:=x) (n:=2) (c:=c+822) (h.less ag) ag;have n0:=gy (c:=c+822) x 2 (h.less ag) ag;have s1:=(zd (t:=1) ag (x:=(bq x 2).2) (c:=c+741) (o0.less ag)).2;have f1:=tL (t:=1) ag (x:=(bq x 2).2) (c:=c+741) (o0.less ag);have s2:=aQ3 (x:=(cT (bq x 2).2 1).2) (c:=c+660) (f1.2.2.2.less ag);have f2:=tL (t:=2) ag (x:=(cT (bq x 2).2 1).2) (c:=c+660) (f1.2.2.2.less ag);have hH:iq x=bif (bq x 2).1 then
   ([⟨1,dr 1,[112],[],(cT (bq x 2).2 1).1,[],[],false⟩,⟨1,dr 2,[],[],(cT (cT (bq x 2).2 1).2 2).1.take 1++[By],[],[],false⟩],(cT (cT (bq x 2).2 1).2 2).2)
  else ([],(bq x 2).2):=rfl
 unfold fo;generalize hg:iq x=H at *;refine a6 (az0 x H.1) ?_;simp only [sz,dZ];rintro y0 e0;rw [<- e0] at n0 s1 s2 f1 f2 hH;clear e0;refine ⟨n0,fun h0 => ?_,fun h0 => ?_⟩
 ·rw [h0,cond_true] at hH;rintro y1 e1;rw [<- e1] at s1 s2 f1 f2 hH;clear e1;refine ⟨s1,aB,?_⟩;rintro y2 e2;rw [<- e2] at s2 f2 hH;clear e2;have hlen:(List.take 1 y2.1).length=1:=by rw [List.length_take];omega
  subst hH;dsimp only at n2 hl ⊢;refine ⟨s2,⟨ag,ag⟩,⟨a8,by simp only [cond_true,eE.length,hlen],ag,ag⟩,aB,?_⟩;rintro y3 rfl;refine ⟨n2,?_⟩;rintro y4 rfl;refine ⟨⟨?_,.aV hl⟩,aH⟩;simp only [eS,wZ,aK,ab,cond_true,cond_false,oS,aR,By,List.length_append,hlen];rfl
 ·rw [h0,cond_false] at hH;subst hH;dsimp only at n2 hl ⊢;rintro y3 rfl;refine ⟨n2,?_⟩;rintro y4 rfl;exact ⟨⟨a8,.aV hl⟩,aH⟩
abbrev uE:Nat:=155
abbrev qw:Nat:=255
abbrev jz:Nat:=223
abbrev tWk:Nat:=183
def wB (S:aO) (x:aA) (ops:List Op') (ids:List Int) (ow:List (List UInt8)):Option bM:=some ([ab ao S,ab az x.ak,.int .i64 x.next,ab aK ops,ab aJ ids,ab encStr ow],tWk)
def yF (ops:List Op') (nx:Int) (o:List Int) (i:Int):St:=⟨ah 30 [(0,ab aK ops),(1,.int .i64 nx),(5,.sl 0 0 o.length false),(6,.int .i64 i)],[some ([.aw (ae aJ o)],ld)],[]⟩
def am8:Ex->Kp:=fun ex=>match ex with
 | .normal=>{keep:=[0,1,5,6]}
 | _=>{keep:=[5]}
theorem MF (ops:List Op') (nx:Int) (o:List Int) (i:Int):bp p5 0 am8 (lp Pz uE 0) (yF ops nx o i)=(
 let q2:=o.length+1;
 let q:List Prop:=[0=0,List.length (ae aJ o)=o.length*1,o.length+1<=9223372036854775807,q2*8<=140737488355328];
 let q1:=List.getD (af aK (ae aK ops)) i.toNat (Op'.mk (0:Int) [] [] [] [] [] [] false);bif decide (i<(ops.length:Int)) then .ai [0<=i/\i<(ops.length:Int),td 8 i (ae aK ops)=aK q1] (bif Op'.kind q1 ==
  1 then .ai q (nz (ah 30 [(0,ab aK ops),(1,aa (wz (nx+1))),(5,.sl 0 0 q2 false),(6,aa (wz (i+1)))]) [some ([.aw (ae aJ o++[aa nx])],3)]) else .ai q (nz (ah 30 [(0,ab aK ops),(1,aa nx),(5,.sl
  0 0 q2 false),(6,aa (wz (i+1)))]) [some ([.aw (ae aJ o++[aa 0])],3)])) else .done (Ex.exit 0,St.mk (ah 30 [(5,.sl 0 0 o.length false)]) [some ([.aw (ae aJ o)],3)] []):T _):=kz
def MG (o:List Int):St:=⟨ah 30 [(5,.sl 0 0 o.length false)],[some ([.aw (ae aJ o)],ld)],[]⟩
theorem Gm (ops:List Op') (hn:ops.length<=1048576):∀(k i:Nat) (nx:Int) (o:List Int),i+k=ops.length->o.length=i->0<=nx->nx+k<=4611686018427387904 ->
  aT Tryz.prog 0 (lp Tryz.prog uE 0) (yF ops nx o i) (.exit 0) (MG (o++idsF (ops.drop i) nx))
 | 0,i,nx,o,hi,ho,h0,hx=>by
  have hi:i=ops.length:=hi;subst hi;rw [List.drop_length,idsF,List.append_nil];refine bZ (E:=p5) follows named (MF ops nx o (ops.length:Nat)) ?_;simp only [ba,T.WP,All,bh,bl,bg,bm,bn,bo];exact ⟨fun h=>by omega,fun _=>⟨rfl,rfl⟩⟩
 | k+1,i,nx,o,hi,ho,h0,hx=>by
  have aD:=iM.at ops .zero i 8 (by omega) rfl;have w1:IntKind.i64.wrap ((i:Int)+1)=((i+1:Nat):Int):=bW (by omega);have w2:IntKind.i64.wrap (nx+1)=nx+1:=du (by omega);rw [iE .zero (show i<ops.length by omega),idsF];refine bZ (E:=p5) follows named (MF ops nx o (i:Nat)) ?_;simp only [Op'.zero] at *;simp only [ba,T.WP,All,bh,bl,bg,bm,bn,bo,w1,w2,iM.af,fa.length,Int.toNat_natCast];refine ⟨fun _=>⟨⟨aB,aD⟩,fun h => ?_,fun h => ?_⟩,fun h=>by omega⟩
  ·have ih:=Gm ops hn k (i+1) (nx+1) (o++[nx]) (by omega) (by rw [List.length_append,List.length_singleton];omega) (by omega) (by omega);rw [show ((ops.getD i ⟨0,[],[],[],[],[],[],false⟩).kind==1)=true by simpa using h,cond_true];rw [List.append_assoc,List.singleton_append] at ih;refine ⟨aB,?_⟩;simp only [yF,dF,aJ,List.length_append,List.length_singleton] at ih ⊢;exact ih
  ·have ih:=Gm ops hn k (i+1) nx (o++[0]) (by omega) (by rw [List.length_append,List.length_singleton];omega) (by omega) (by omega);rw [show ((ops.getD i ⟨0,[],[],[],[],[],[],false⟩).kind==1)=false by simpa using h,cond_false];rw [List.append_assoc,List.singleton_append] at ih;refine ⟨aB,?_⟩;simp only [yF,dF,aJ,List.length_append,List.length_singleton] at ih ⊢;exact ih
def ab0:Nat->St->Option b8:=fun id s=>match id,s.tm.get 0,s.tm.get 1 with
 | 0,.dsl _ _ os,.int _ nx=>some ⟨idsF (af aK os) nx,fun y=> .one {keep:=[0,1,5,6],eu:=[5]} (yF (af aK os) nx [] 0) (.exit 0) (MG y)⟩
 | _,_,_=>none
def IS:Env:={P:=Pz,vw:=tS,res:=ti,ls:=ab0}
theorem Za (ops:List Op') (nx:Int):fnT IS 0 uE [ab aK ops,.int .i64 nx] []=(
 let q2:=af aK (ae aK ops);
 let q:=ah 30 [(0,ab aK q2),(1,aa nx),(5,.sl 0 0 0 false),(6,aa 0)];
 let q1:Hp:=[some ([.aw []],3)];.bind (idsF q2 nx) fun y0=> .ai [St.mk (ah 30 [(0,ab aK ops),(1,aa nx),(5,.sl 0 0 0 false),(6,aa 0)]) q1 []=St.mk q q1 [],aN (Env.P IS) 0 (blk Pz uE 0) (St.mk q q1 [])
  (Ex.exit 0) (St.mk (ah 30 [(5,.sl 0 0 y0.length false)]) [some ([.aw (ae aJ y0)],3)] [])] (dz (ab aJ y0) [] []):T _):=fz
theorem Zb (ops:List Op') (nx:Int) (hn:ops.length<=1048576) (h0:0<=nx) (hx:nx<=1000000000):au Pz uE [ab aK ops,.int .i64 nx] [] ⟨ab aJ (idsF ops nx),[],[]⟩:=by
 have h:=Gm ops hn ops.length 0 nx [] ag rfl h0 ag;rw [List.drop_zero,List.nil_append] at h;refine a6 (Za ops nx) ?_;simp only [sz,iM.af];rintro y rfl;exact ⟨⟨a8,.aV h⟩,aH⟩
def yL (S:aO) (x:aA) (ops:List Op') (ids:List Int) (ow:List (List UInt8)) (t:List UInt8) (i:Int):St:=⟨ah 43 [(0,.ptr 0 0),(1,.str t),(5,.int .i64 i)],[wB S x ops ids ow],[]⟩
def Nx:Ex->Kp:=fun ex=>match ex with
 | .normal=>{keep:=[0,1,5]}
 | .ret=>{keep:=[4]}
 | _=>{keep:=[]}
theorem naL (S:aO) (x:aA) (ops:List Op') (ids:List Int) (ow:List (List UInt8)) (t:List UInt8) (i:Int):bp p5 1 Nx (lp Pz qw 0) (yL S x ops ids ow t i)=(
 let q:Hp:=[some ([ab ao S,ab az x.ak,aa x.next,ab aK ops,ab aJ ids,ab encStr ow],183)];
 let q1:=List.getD (af aK (ae aK ops)) i.toNat (Op'.mk (0:Int) [] [] [] [] [] [] false);
 let q2:=List.getD (af aJ (ae aJ ids)) i.toNat (0:Int);
 let q3:List Prop:=[0<=i/\i<(ops.length:Int),td 8 i (ae aK ops)=aK q1];
 let q4:=ah 43 [(0,pp 0),(1,.str t),(5,aa (wz (i+1)))];bif decide (i<(ops.length:Int)) then .ai q3 (bif Op'.kind q1==1 then .ai q3 (bif Op'.name q1==t then .ai [0<=i/\i<(ids.length:Int),td 1 i (ae
  aJ ids)=[aa q2]] (.done (Ex.ret,St.mk (ah 43 [(4,aa q2)]) q [])) else nz q4 q) else nz q4 q) else .done (Ex.exit 0,St.mk (ah 43 []) q []):T _):=kz
def ab9 (S:aO) (x:aA) (ops:List Op') (ids:List Int) (ow:List (List UInt8)):Nat->St->Option b8:=fun id s=>match id,s.tm.get 1 with
 | 0,.str t=>some ⟨m3 ops t,fun y=> .two {keep:=[0,1,5]} (yL S x ops ids ow t 0) (decide (y<0)) (.exit 0) ⟨ah 43 [],[wB S x ops ids ow],[]⟩ .ret ⟨ah 43 [(4,.int .i64 (ids.getD y.toNat 0))],[wB S x ops ids ow],[]⟩⟩
 | _,_=>none
def Sf (S:aO) (x:aA) (ops:List Op') (ids:List Int) (ow:List (List UInt8)):Env:={P:=Pz,vw:=tS,res:=ti,ls:=ab9 S x ops ids ow}
theorem naT (S:aO) (x:aA) (ops:List Op') (ids:List Int) (ow:List (List UInt8)) (t:List UInt8):fnT (Sf S x ops ids ow) 0 qw [.ptr 0 0,.str t] [wB S x ops ids ow]=(
 let q:Hp:=[some ([ab ao S,ab az x.ak,aa x.next,ab aK ops,ab aJ ids,ab encStr ow],183)];
 let q1:=ah 43 [(0,pp 0),(1,.str t),(5,aa 0)];.bind (m3 ops t) fun y0=>
 let q2:=List.getD ids y0.toNat (0:Int);.ai [St.mk q1 q []=St.mk q1 q []] (bif decide (y0<0) then .ai [aN Pz 1 (blk Pz qw 0) (St.mk q1 q []) (Ex.exit 0) (St.mk (ah 43 []) q [])] (dz (aa 0) q []) else .ai [aN
  Pz 1 (blk Pz qw 0) (St.mk q1 q []) Ex.ret (St.mk (ah 43 [(4,aa q2)]) q [])] (dz (aa q2) q [])):T _):=fz
theorem aj5 (S:aO) (x:aA) (ops:List Op') (ids:List Int) (ow:List (List UInt8)) (t:List UInt8) (hn:ops.length<=1048576) (hid:ids.length=ops.length):
  (m3 ops t<0->aT Tryz.prog 1 (lp Tryz.prog qw 0) (yL S x ops ids ow t 0) (.exit 0) ⟨ah 43 [],[wB S x ops ids ow],[]⟩) /\
  (0<=m3 ops t->aT Tryz.prog 1 (lp Tryz.prog qw 0) (yL S x ops ids ow t 0) .ret ⟨ah 43 [(4,.int .i64 (ids.getD (m3 ops t).toNat 0))],[wB S x ops ids ow],[]⟩):=by
 refine mN (E:=p5) (nf:=Nx) (st:=fun i=>yL S x ops ids ow t (i:Nat)) (sr:=fun j=>⟨ah 43 [(4,.int .i64 (ids.getD j.toNat 0))],[wB S x ops ids ow],[]⟩) (fun o:Op'=>o.kind==1&&o.name==t) ops .zero follows named (by simp) (by simp) (fun i=>naL S x ops ids ow t (i:Nat)) (fun i hi => ?_) ?_ ops.length 0 (by simp)
 ·have aD:=iM.at ops .zero i 8 hi rfl
  have cB:=fa.at ids 0 i 1 ag rfl
  have w1:IntKind.i64.wrap ((i:Int)+1)=((i+1:Nat):Int):=bW ag
  simp only [Op'.zero] at *
  simp only [ba,T.WP,All,bh,bl,bg,bm,bn,bo,w1,iM.af,fa.af,Int.toNat_natCast]
  refine ⟨fun _=>⟨⟨aB,aD⟩,fun h=>⟨⟨aB,aD⟩,fun h2=>⟨⟨aB,cB⟩,?_⟩,fun h2 => ?_⟩,fun h => ?_⟩,fun h=>ag⟩
  ·rw [h,h2,show ((1:Int)==1&&t==t)=true by simp];rfl
  ·rw [h,show ((ops.getD i ⟨0,[],[],[],[],[],[],false⟩).name==t)=false by simpa using h2];rfl
  ·rw [show ((ops.getD i ⟨0,[],[],[],[],[],[],false⟩).kind==1)=false by simpa using h];rfl
 ·simp only [ba,T.WP,All,bh,bl,bg,bm,bn,bo]
  exact ⟨fun h=>ag,fun _=>rfl⟩
theorem aj8 (S:aO) (x:aA) (ops:List Op') (ids:List Int) (ow:List (List UInt8)) (t:List UInt8) (hn:ops.length<=1048576) (hid:ids.length=ops.length):au Pz qw [.ptr 0 0,.str t] [wB S x ops ids ow] ⟨.int .i64 (iP ops ids t),[wB S x ops ids ow],[]⟩:=by
 have h:=aj5 S x ops ids ow t hn hid;refine a6 (naT S x ops ids ow t) ?_;simp only [sz];unfold iP;rintro y rfl;refine ⟨a8,fun e=>⟨.aV (h.1 e),?_⟩,fun e=>⟨.aV (h.2 ag),?_⟩⟩
 ·rw [decide_eq_false (by omega:¬0<=m3 ops t)];exact aH
 ·rw [decide_eq_true (by omega:0<=m3 ops t)];exact aH
section
variable (S:aO) (x:aA) (ops:List Op') (ids:List Int) (ow:List (List UInt8))
def Ho:cy:=fun f vs hp=>
 bif Nat.beq f qw then (match vs with | [.ptr 0 0,.str t]=>some ⟨iP ops ids t,fun y=>⟨.int .i64 y,[wB S x ops ids ow],[]⟩⟩ | _=>none) else ti f vs hp
def RY:Env:={P:=Pz,vw:=tS,res:=Ho S x ops ids ow}
def QW (c:List UInt8) (v:aQ):Option bM:=some ([.str c,ab aj v,.dsl 0 true []],lL)
def wk (l out:List Sx) (i:Int) (c:List UInt8) (v:aQ) (k:Int):St:=⟨ah 63 [(0,.ptr 0 0),(1,ab aR l),(6,.sl 1 0 out.length false),(7,.int .i64 i),(8,.ptr 2 0),(9,.int .i64 k)],[wB S x ops ids ow,some ([.aw (ae aR out)],lL),QW c v],[]⟩
def QM (l out:List Sx) (i:Int) (c:List UInt8) (v:aQ):St:=⟨ah 63 [(0,.ptr 0 0),(1,ab aR l),(6,.sl 1 0 out.length false),(7,.int .i64 i),(8,.ptr 2 0)],[wB S x ops ids ow,some ([.aw (ae aR out)],lL),QW c v],[]⟩
def tG (l out:List Sx) (i:Int):St:=⟨ah 63 [(0,.ptr 0 0),(1,ab aR l),(6,.sl 1 0 out.length false),(7,.int .i64 i)],[wB S x ops ids ow,some ([.aw (ae aR out)],lL)],[]⟩
def zR (out:List Sx):St:=⟨ah 63 [(4,ab aR out),(5,.int .i64 13)],[wB S x ops ids ow],[]⟩
def zX (out:List Sx):St:=⟨ah 63 [(6,.sl 1 0 out.length false)],[wB S x ops ids ow,some ([.aw (ae aR out)],lL)],[]⟩
def ar1:Ex->Kp:=fun ex=>match ex with
 | .normal=>{keep:=[0,1,6,7,8,9]}
 | .ret=>{keep:=[4,5],perm:=some ([0],[])}
 | _=>{keep:=[0,1,6,7,8]}
def ar0:Ex->Kp:=fun ex=>match ex with
 | .normal=>{keep:=[0,1,6,7],rk:=true}
 | .ret=>{keep:=[4,5],perm:=some ([0],[])}
 | _=>{keep:=[6]}
theorem RJ (S:aO) (x:aA) (ops:List Op') (ids:List Int) (ow:List (List UInt8)) (l out:List Sx) (i:Int) (c:List UInt8) (v:aQ) (k:Int):bp (RY S x ops ids ow) 1 ar1 (lp Pz jz 2) (wk S x ops ids ow l out i c v k)=(
 let q:=List.getD (af aR (ae aR l)) i.toNat (Sx.mk [] [] []);
 let q1:Hp:=[some ([ab ao S,ab az x.ak,aa x.next,ab aK ops,ab aJ ids,ab encStr ow],183)];
 let q5:=ae encStr (Sx.names q);
 let q2:=List.getD (af encStr q5) k.toNat [];
 let q3:List Prop:=[0<=i/\i<(l.length:Int),td 3 i (ae aR l)=[.str (Sx.aC q),ab aj (Sx.val q),ab encStr (Sx.names q)]];
 let q4:=(↑(List.length (Sx.names q)):Int);.ai q3 (bif decide (k<q4) then .ai q3 (.ai [0<=k/\k<q4,td 1 k q5=[.str q2]] (.bind (iP ops ids q2) fun y0=>cz 255 [pp 0,.str q2] q1 (aa y0) q1 [] (bif y0==0 then .done
  (Ex.ret,St.mk (ah 63 [(4,ab aR out),(5,aa 13)]) q1 []) else .bind (eH (af aj (ae aj v)) (At.mk (4:Int) y0 [])) fun y1=>cz 186 [ab aj v,.agg [aa 4,aa y0,.str []]] [] (ab aj y1) [] [] (nz (ah
  63 [(0,pp 0),(1,ab aR l),(6,.sl 1 0 out.length false),(7,aa i),(8,pp 2),(9,aa (wz (k+1)))]) [some ([ab ao S,ab az x.ak,aa x.next,ab aK ops,ab aJ ids,ab encStr ow],183),some ([.aw (ae
  aR out)],189),some ([.str c,ab aj y1,.dsl 0 true []],189)])))) else .done (Ex.exit 2,St.mk (ah 63 [(0,pp 0),(1,ab aR l),(6,.sl 1 0 out.length false),(7,aa i),(8,pp 2)]) [some ([ab ao S,ab az
  x.ak,aa x.next,ab aK ops,ab aJ ids,ab encStr ow],183),some ([.aw (ae aR out)],189),some ([.str c,ab aj v,.dsl 0 true []],189)] [])):T _):=fz
def lsZ (l:List Sx):Nat->St->Option b8:=fun id s=>match id,s.tm.get 7,s.hp with
 | 2,.int _ i,[_,some ([.aw os],_),some ([.str c,.dsl _ _ vs,_],_)]=>some ⟨setN ops ids (l.getD i.toNat .zero).names (af aj vs),fun y=> .two {keep:=[0,1,6,7,8,9]} (wk S x ops ids ow l (af aR os) i c (af aj vs) 0) y.isSome (.exit 2) (QM S x ops ids ow l (af aR os) i c (y.getD [])) .ret (zR S x ops ids ow (af aR os))⟩
 | 0,_,_=>some ⟨setsL ops ids l [],fun y=> .two {keep:=[0,1,6,7],eu:=[6]} (tG S x ops ids ow l [] 0) (decide (y.2=0)) (.exit 0) (zX S x ops ids ow y.1) .ret (zR S x ops ids ow y.1)⟩
 | _,_,_=>none
def EZ (l:List Sx):Env:={P:=Pz,vw:=tS,res:=Ho S x ops ids ow,ls:=lsZ S x ops ids ow l}
theorem RH (S:aO) (x:aA) (ops:List Op') (ids:List Int) (ow:List (List UInt8)) (l out:List Sx) (i:Int):bp (EZ S x ops ids ow l) 1 ar0 (lp Pz jz 0) (tG S x ops ids ow l out i)=(
 let q:=List.getD (af aR (ae aR l)) i.toNat (Sx.mk [] [] []);
 let q8:=ae aR out;
 let q2:=af aR q8;
 let q9:=ae aR q2;
 let q7:=af aj (ae aj (Sx.val q));
 let q1:Hp:=[some ([ab ao S,ab az x.ak,aa x.next,ab aK ops,ab aJ ids,ab encStr ow],183),some ([.aw q9],189),some ([.str (Sx.aC q),ab aj q7,.dsl 0 true []],189)];
 let q3:=ah 63 [(0,pp 0),(1,ab aR l),(6,.sl 1 0 (List.length q2) false),(7,aa i),(8,pp 2),(9,aa 0)];
 let q4:List Prop:=[0<=i/\i<(l.length:Int),td 3 i (ae aR l)=[.str (Sx.aC q),ab aj (Sx.val q),ab encStr (Sx.names q)]];
 let q5:Hp:=[some ([ab ao S,ab az x.ak,aa x.next,ab aK ops,ab aJ ids,ab encStr ow],183)];
 let q6:=ah 63 [(4,ab aR q2),(5,aa 13)];bif decide (i<(l.length:Int)) then .ai q4 (.ai q4 (.bind (setN ops ids (Sx.names (List.getD l i.toNat (Sx.mk [] [] []))) q7) fun y0=> .ai [St.mk (ah 63 [(0,pp 0),(1,ab
  aR l),(6,.sl 1 0 out.length false),(7,aa i),(8,pp 2),(9,aa 0)]) [some ([ab ao S,ab az x.ak,aa x.next,ab aK ops,ab aJ ids,ab encStr ow],183),some ([.aw q8],189),some ([.str (Sx.aC q),ab
  aj (Sx.val q),.dsl 0 true []],189)] []=St.mk q3 q1 []] (bif Option.isSome y0 then .ai [aN Pz 1 (blk Pz jz 2) (St.mk q3 q1 []) (Ex.exit 2) (St.mk (ah 63 [(0,pp 0),(1,ab aR l),(6,.sl 1 0 (List.length q2)
  false),(7,aa i),(8,pp 2)]) [some ([ab ao S,ab az x.ak,aa x.next,ab aK ops,ab aJ ids,ab encStr ow],183),some ([.aw q9],189),some ([.str (Sx.aC q),ab aj (Option.getD y0 []),.dsl 0 true []],
  189)] [])] (.ai [0=0,List.length q9=List.length q2*3,List.length q2+1<=9223372036854775807,(List.length q2+1)*64<=140737488355328] (nz (ah 63 [(0,pp 0),(1,ab aR l),(6,.sl 1 0 (List.length q2+1) false),
  (7,aa (wz (i+1)))]) [some ([ab ao S,ab az x.ak,aa x.next,ab aK ops,ab aJ ids,ab encStr ow],183),some ([.aw (ae aR q2++[.str (Sx.aC q),ab aj (Option.getD y0 []),.dsl 0 false []])],189)]))
  else .ai [aN Pz 1 (blk Pz jz 2) (St.mk q3 q1 []) Ex.ret (St.mk q6 q5 [])] (.done (Ex.ret,St.mk q6 q5 []))))) else .done (Ex.exit 0,St.mk (ah 63 [(6,.sl 1 0 out.length false)]) [some ([ab ao S,ab az x.ak,aa
  x.next,ab aK ops,ab aJ ids,ab encStr ow],183),some ([.aw q8],189)] []):T _):=kz
theorem zT (S:aO) (x:aA) (ops:List Op') (ids:List Int) (ow:List (List UInt8)) (l:List Sx):fnT (EZ S x ops ids ow l) 0 jz [.ptr 0 0,ab aR l] [wB S x ops ids ow]=(
 let q:Hp:=[some ([ab ao S,ab az x.ak,aa x.next,ab aK ops,ab aJ ids,ab encStr ow],183),some ([.aw []],189)];
 let q1:=ah 63 [(0,pp 0),(1,ab aR l),(6,.sl 1 0 0 false),(7,aa 0)];
 let q2:Hp:=[some ([ab ao S,ab az x.ak,aa x.next,ab aK ops,ab aJ ids,ab encStr ow],183)];.bind (setsL ops ids l []) fun y0=> .ai [St.mk q1 q []=St.mk q1 q []] (bif decide (y0.2=(0:Int)) then .ai
  [aN Pz 1 (blk Pz jz 0) (St.mk q1 q []) (Ex.exit 0) (St.mk (ah 63 [(6,.sl 1 0 y0.1.length false)]) [some ([ab ao S,ab az x.ak,aa x.next,ab aK ops,ab aJ ids,ab encStr ow],183),some ([.aw (ae
  aR y0.1)],189)] [])] (dz (.tup [ab aR y0.1,aa 0]) q2 []) else .ai [aN Pz 1 (blk Pz jz 0) (St.mk q1 q []) Ex.ret (St.mk (ah 63 [(4,ab aR y0.1),(5,aa 13)]) q2 [])] (dz (.tup [ab aR y0.1,aa 13]) q2 [])):T _):=fz
variable {S x ops ids ow}
theorem RG (hn:ops.length<=1048576) (hid:ids.length=ops.length) (l out:List Sx) (i:Nat) (hi:i<l.length) (hl:l.length<=1048576) (c:List UInt8) (eI:(l.getD i .zero).names.length<=1000):∀(m k:Nat) (v:aQ),k+m=(l.getD i .zero).names.length->v.length<=1000+k ->
  (∀v',setN ops ids ((l.getD i .zero).names.drop k) v=some v'->aT Pz 1 (lp Pz jz 2) (wk S x ops ids ow l out i c v k) (.exit 2) (QM S x ops ids ow l out i c v')) /\
  (setN ops ids ((l.getD i .zero).names.drop k) v=none->aT Pz 1 (lp Pz jz 2) (wk S x ops ids ow l out i c v k) .ret (zR S x ops ids ow out))
 | 0,k,v,hk,hv=>by
  have hk:k=(l.getD i .zero).names.length:=hk
  have aD:=eE.at l .zero i 3 hi rfl
  subst hk
  rw [List.drop_length]
  refine ⟨fun v' h => ?_,fun h=>by simp [setN] at h⟩
  have h':v=v':=by simpa [setN] using h
  subst h'
  refine bt (RJ S x ops ids ow l out i c v ((l.getD i .zero).names.length:Nat)) ?_
  simp only [Sx.zero] at *
  simp only [sz,eE.af,cx.af,Int.toNat_natCast]
  exact ⟨⟨aB,aD⟩,fun h=>ag,fun _=>⟨rfl,rfl⟩⟩
 | m+1,k,v,hk,hv=>by
  have aD:=eE.at l .zero i 3 hi rfl
  have ki:k<(l.getD i .zero).names.length:=ag
  have cB:=cx.at (l.getD i .zero).names [] k 1 ki rfl
  have w1:=cX k
  have mY:=aj8 S x ops ids ow ((l.getD i .zero).names.getD k []) hn hid
  have hp:=qk v ⟨4,iP ops ids ((l.getD i .zero).names.getD k []),[]⟩
  have ih:=RG hn hid l out i hi hl c eI m (k+1) (eH v ⟨4,iP ops ids ((l.getD i .zero).names.getD k []),[]⟩) ag ag
  rw [iE [] ki,setN]
  have key:∀ {ex:Ex} {s':St},((iP ops ids ((l.getD i .zero).names.getD k [])==0)=true->Ex.ret=ex/\zR S x ops ids ow out=s')->((iP ops ids ((l.getD i .zero).names.getD k [])==0)=false->aT Pz 1 (lp Pz jz 2) (wk S x ops ids ow l out i c (eH v ⟨4,iP ops ids ((l.getD i .zero).names.getD k []),[]⟩) ((k+1:Nat):Int)) ex s')->aT Pz 1 (lp Pz jz 2) (wk S x ops ids ow l out i c v k) ex s':=by
   intro ex s' h1 h2
   refine bt (RJ S x ops ids ow l out i c v (k:Nat)) ?_
   simp only [Sx.zero] at *
   simp only [sz,w1,eE.af,cx.af,bu.af,Int.toNat_natCast]
   refine ⟨⟨aB,aD⟩,fun _=>⟨⟨aB,aD⟩,⟨aB,cB⟩,?_⟩,fun h=>ag⟩
   rintro y rfl
   refine ⟨mY,fun h=>h1 dT,fun h => ?_⟩
   rintro z rfl
   exact ⟨BC v _ ag,h2 dT⟩
  generalize iP ops ids ((l.getD i .zero).names.getD k [])=w at *
  cases hw:w==0
  ·simp only [cond_false]
   exact ⟨fun v' h=>key (fun h=>by rw [hw] at h;cases h) (fun _=>ih.1 v' h),fun h=>key (fun h=>by rw [hw] at h;cases h) (fun _=>ih.2 h)⟩
  ·simp only [cond_true]
   exact ⟨(fun v' h=>by cases h),fun _=>key (fun _=>⟨rfl,rfl⟩) (fun h=>by rw [hw] at h;cases h)⟩
structure Dq (s:Sx):Prop where
 v:s.val.length<=100
 n:s.names.length<=100
theorem RF (hn:ops.length<=1048576) (hid:ids.length=ops.length) (l:List Sx) (hs:∀s∈l,Dq s) (hl:l.length<=1048576):∀(m i:Nat) (out:List Sx),i+m=l.length->out.length=i ->
  ((setsL ops ids (l.drop i) out).2=0->aT Pz 1 (lp Pz jz 0) (tG S x ops ids ow l out i) (.exit 0) (zX S x ops ids ow (setsL ops ids (l.drop i) out).1)) /\
  (¬(setsL ops ids (l.drop i) out).2=0->aT Pz 1 (lp Pz jz 0) (tG S x ops ids ow l out i) .ret (zR S x ops ids ow (setsL ops ids (l.drop i) out).1))
 | 0,i,out,hi,ho=>by
  have hi:i=l.length:=hi
  subst hi
  rw [List.drop_length]
  refine ⟨fun _ => ?_,fun h=>absurd rfl h⟩
  refine bt (RH S x ops ids ow l out (l.length:Nat)) ?_
  simp only [sz]
  exact ⟨fun h=>ag,fun _=>⟨rfl,rfl⟩⟩
 | m+1,i,out,hi,ho=>by
  have bA:i<l.length:=ag
  have aD:=eE.at l .zero i 3 bA rfl
  have Mr:=hs _ (bH .zero bA)
  have Mo:=Mr.n
  have hsv:=Mr.v
  have w1:=cX i
  have h2:=RG (S:=S) (x:=x) (ow:=ow) hn hid l out i bA hl (l.getD i .zero).aC ag (l.getD i .zero).names.length 0 (l.getD i .zero).val ag ag
  rw [List.drop_zero] at h2
  have ih:=fun v=>RF hn hid l hs hl m (i+1) (out++[⟨(l.getD i .zero).aC,v,[]⟩]) ag (by rw [List.length_append,List.length_singleton];omega)
  have key:∀ {ex:Ex} {s':St},(∀v,setN ops ids (l.getD i .zero).names (l.getD i .zero).val=some v->aT Pz 1 (lp Pz jz 0) (tG S x ops ids ow l (out++[⟨(l.getD i .zero).aC,v,[]⟩]) ((i+1:Nat):Int)) ex s')->(setN ops ids (l.getD i .zero).names (l.getD i .zero).val=none->Ex.ret=ex/\zR S x ops ids ow out=s')->aT Pz 1 (lp Pz jz 0) (tG S x ops ids ow l out i) ex s':=by
   intro ex s' k1 k2
   refine bt (RH S x ops ids ow l out (i:Nat)) ?_
   simp only [Sx.zero] at *
   simp only [sz,w1,eE.af,bu.af,Int.toNat_natCast,eE.length]
   refine ⟨fun _=>⟨⟨aB,aD⟩,⟨aB,aD⟩,?_⟩,fun h=>ag⟩
   rintro y e
   rw [<- e] at h2 k1 k2
   refine ⟨a8,fun hy => ?_,fun hy => ?_⟩
   ·obtain ⟨v,rfl⟩:=Option.isSome_iff_exists.1 hy
    have k1:=k1 v rfl
    refine ⟨.aV (h2.1 v rfl),aB,?_⟩
    simp only [tG,dF,aR,ab,List.length_append,List.length_singleton] at k1
    exact k1
   ·have YV:y=none:=by simpa using hy
    subst YV
    exact ⟨.aV (h2.2 rfl),k2 rfl⟩
  rw [iE .zero bA,setsL]
  cases hz:setN ops ids (l.getD i .zero).names (l.getD i .zero).val with
  | none=>
   dsimp only
   exact ⟨(fun h=>by cases h),fun _=>key (fun v h=>by rw [hz] at h;cases h) (fun _=>⟨rfl,rfl⟩)⟩
  | some v=>
   dsimp only
   have e:∀v',setN ops ids (l.getD i .zero).names (l.getD i .zero).val=some v'->v'=v:=fun v' h=>by rw [hz] at h;exact (Option.some.inj h).symm
   exact ⟨fun h=>key (fun v' hv=>by rw [e v' hv];exact (ih v).1 h) (fun h=>by rw [hz] at h;cases h),fun h=>key (fun v' hv=>by rw [e v' hv];exact (ih v).2 h) (fun h=>by rw [hz] at h;cases h)⟩
theorem aL9 (hn:ops.length<=1048576) (hid:ids.length=ops.length) (l:List Sx) (hs:∀s∈l,Dq s) (hl:l.length<=1048576):
  au Pz jz [.ptr 0 0,ab aR l] [wB S x ops ids ow] ⟨.tup [ab aR (gh ops ids l).1,.int .i64 (gh ops ids l).2],[wB S x ops ids ow],[]⟩:=by
 have h:=RF (S:=S) (x:=x) (ow:=ow) hn hid l hs hl l.length 0 [] ag rfl;rw [List.drop_zero] at h;unfold gh;have hc:∀(l out:List Sx),(setsL ops ids l out).2=0\/(setsL ops ids l out).2=13:=by
  intro l;induction l with
  | nil=>exact fun _=> .inl rfl
  | cons a l ih=>
   intro out;rw [setsL];cases setN ops ids a.names a.val with
   | none=>exact .inr rfl
   | some v=>exact ih _
 have hc:=hc l [];refine a6 (zT S x ops ids ow l) ?_;simp only [sz];rintro y e;rw [<- e] at h hc ⊢;refine ⟨a8,fun e=>⟨.aV (h.1 e),?_⟩,fun e=>⟨.aV (h.2 e),?_⟩⟩
 ·rw [e];exact aH
 ·rw [hc.resolve_left e];exact aH
end
abbrev pd:Nat:=224
abbrev fT:Nat:=185
def lN:List V:=[.int .i64 0,.int .i64 0,.int .i64 0,.dsl 0 true [],.dsl 0 true []]
def jy (c:Int):bV:=⟨c,0,0,[],[]⟩
section
variable (S:aO) (x:aA) (ops:List Op') (ids:List Int) (ow:List (List UInt8))
def vP:cy:=fun f vs hp=>
 bif Nat.beq f jz then (match vs with | [.ptr 0 0,.dsl _ _ qs]=>some ⟨gh ops ids (af aR qs),fun y=>⟨.tup [ab aR y.1,.int .i64 y.2],[wB S x ops ids ow],[]⟩⟩ | _=>none) else
 bif Nat.beq f uD then (match vs with | [.agg [.str tn,.dsl _ _ cc,.dsl _ _ uu,.bool r],.int _ d]=>some ⟨gM (bw tn cc uu r) d,fun y=>⟨.agg (aq y),[],[]⟩⟩ | _=>none) else
 bif Nat.beq f nT then (match vs with | [.agg [.str tn,.dsl _ _ cc,.dsl _ _ uu,.bool r],.agg [.int _ d,.dsl _ _ cs],.dsl _ _ qs]=>some ⟨setRL (bw tn cc uu r) (af aR qs) ⟨d,af aG cs⟩,fun y=>⟨.tup [.agg (aq y.1),.int .i64 y.2],[],[]⟩⟩ | _=>none) else
 bif Nat.beq f nS then (match vs with | [.agg [.str tn,.dsl _ _ cc,.dsl _ _ uu,.bool r],.agg [.int _ d,.dsl _ _ cs],.dsl _ _ qs]=>some ⟨mutRW (bw tn cc uu r) (af bR qs) ⟨d,af aG cs⟩,fun y=>⟨.tup [.agg (aq y.1),.int .i64 y.2],[],[]⟩⟩ | _=>none) else
 bif Nat.beq f uN then (match vs with | [.agg [.str tn,.dsl _ _ cc,.dsl _ _ uu,.bool r],.agg [.int _ d,.dsl _ _ cs],.dsl _ _ ns]=>some ⟨m6 (bw tn cc uu r) ⟨d,af aG cs⟩ (af encStr ns),fun y=>⟨.agg (aq y),[],[]⟩⟩ | _=>none) else
 bif Nat.beq f uP then (match vs with | [.agg [.dsl _ _ ts,.int _ nx],.int _ t,.agg [.int _ d,.dsl _ _ cs]]=>some ⟨iw ⟨af az ts,nx⟩ t.toNat ⟨d,af aG cs⟩,fun y=>⟨.agg (aM y),[],[]⟩⟩ | _=>none) else
 bif Nat.beq f uB then (match vs with | [.agg [.dsl _ _ ts,.int _ nx],.int _ t,.int _ k]=>some ⟨iv ⟨af az ts,nx⟩ t.toNat k.toNat,fun y=>⟨.agg (aM y),[],[]⟩⟩ | _=>none) else
 bif Nat.beq f qx then (match vs with | [.agg [.dsl _ _ cs],.agg [.int _ kd,.str tn,.str nm,.dsl _ _ ws,.dsl _ _ rs,.dsl _ _ ms,.dsl _ _ os,.bool tl]]=>some ⟨im (af ao cs) (s9 kd tn nm ws rs ms os tl),fun y=>⟨.int .i64 y,[],[]⟩⟩ | _=>none) else Ho S x ops ids ow f vs hp
def cj:Vw:=fun t cs i=>bif Nat.beq t gp then some (ao ((af ao cs).getD i Tb.zero)) else tS t cs i
def tW:Env:={P:=Pz,vw:=cj,res:=vP S x ops ids ow}
def yI (i t:Int) (l:List Sx) (o:Op') (k:Int):St:=⟨ah 115 [(0,.ptr 0 0),(1,.int .i64 i),(2,.int .i64 t),(3,ab aR l),(8,.ptr 1 0),(9,.ptr 2 0),(10,.int .i64 k)],[wB S x ops ids ow,some (lN,fT),some (aK o,iQ)],[]⟩
def Gq (i t:Int) (l:List Sx):St:=⟨ah 115 [(0,.ptr 0 0),(1,.int .i64 i),(2,.int .i64 t),(3,ab aR l),(8,.ptr 1 0)],[wB S x ops ids ow,some (lN,fT)],[]⟩
def Gp:St:=⟨ah 115 [(8,.ptr 1 0)],[wB S x ops ids ow,some ([.int .i64 8,.int .i64 0,.int .i64 0,.dsl 0 true [],.dsl 0 true []],fT)],[]⟩
def Nw:Ex->Kp:=fun ex=>match ex with
 | .normal=>{keep:=[0,1,2,3,8,9,10]}
 | .ret=>{keep:=[8]}
 | _=>{keep:=[0,1,2,3,8]}
def l5 (ops:List Op') (i:Nat) (nm:List UInt8):Bool:=nm != []&&(ops.take i).any (fun q=>q.kind==1&&q.name==nm)
theorem MJ (S:aO) (x:aA) (ops:List Op') (ids:List Int) (ow:List (List UInt8)) (i t:Int) (l:List Sx) (o:Op') (k:Int):bp (tW S x ops ids ow) 1 Nw (lp Pz pd 0) (yI S x ops ids ow i t l o k)=(
 let q:=List.getD (af aK (ae aK ops)) k.toNat (Op'.mk (0:Int) [] [] [] [] [] [] false);
 let q1:Hp:=[some ([ab ao S,ab az x.ak,aa x.next,ab aK ops,ab aJ ids,ab encStr ow],183),some ([aa 0,aa 0,aa 0,.dsl 0 true [],.dsl 0 true []],185),some (aK o,178)];
 let q2:Hp:=[some ([ab ao S,ab az x.ak,aa x.next,ab aK ops,ab aJ ids,ab encStr ow],183),some ([aa 0,aa 0,aa 0,.dsl 0 true [],.dsl 0 true []],185)];
 let q3:=ah 115 [(0,pp 0),(1,aa i),(2,aa t),(3,ab aR l),(8,pp 1),(9,pp 2),(10,aa (wz (k+1)))];
 let q4:=ah 115 [(0,pp 0),(1,aa i),(2,aa t),(3,ab aR l),(8,pp 1)];
 let q5:List Prop:=[0<=k/\k<(ops.length:Int),td 8 k (ae aK ops)=aK q];bif decide (k<i) then bif !o.name==[] then .ai q5 (bif Op'.kind q==1 then .ai q5 (bif Op'.name q==o.name then .done (Ex.ret,St.mk
  (ah 115 [(8,pp 1)]) [some ([ab ao S,ab az x.ak,aa x.next,ab aK ops,ab aJ ids,ab encStr ow],183),some ([aa 8,aa 0,aa 0,.dsl 0 true [],.dsl 0 true []],185)] []) else nz q3 q1) else nz q3 q1) else
  .done (Ex.exit 0,St.mk q4 q2 []) else .done (Ex.exit 0,St.mk q4 q2 []):T _):=kz
def ab2 (o:Op') (l:List Sx):Nat->St->Option b8:=fun id s=>match id,s.tm.get 1,s.tm.get 2 with
 | 0,.int _ i,.int _ t=>some ⟨l5 ops i.toNat o.name,fun y=> .two {keep:=[0,1,2,3,8,9,10]} (yI S x ops ids ow i t l o 0) y .ret (Gp S x ops ids ow) (.exit 0) (Gq S x ops ids ow i t l)⟩
 | _,_,_=>none
def Sa (o:Op') (l:List Sx):Env:={P:=Pz,vw:=cj,res:=vP S x ops ids ow,ls:=ab2 S x ops ids ow o l}
theorem Zn (S:aO) (x:aA) (ops:List Op') (ids:List Int) (ow:List (List UInt8)) (i t:Int) (l:List Sx) (o:Op'):fnT (Sa S x ops ids ow o l) 0 pd [.ptr 0 0,.int .i64 i,.int .i64 t,ab aR l] [wB S x ops ids ow]=(
 let q:=List.getD (af ao (ae ao S)) t.toNat (Tb.mk [] [] [] false);
 let q1:Hp:=[some ([ab ao S,ab az x.ak,aa x.next,ab aK ops,ab aJ ids,ab encStr ow],183),some ([aa 0,aa 0,aa 0,.dsl 0 true [],.dsl 0 true []],185),some (aK o,178)];
 let q2:=ah 115 [(0,pp 0),(1,aa i),(2,aa t),(3,ab aR l),(8,pp 1),(9,pp 2),(10,aa 0)];
 let q3:=List.getD (af aJ (ae aJ ids)) i.toNat (0:Int);
 let q4:Hp:=[some ([ab ao S,ab az x.ak,aa x.next,ab aK ops,ab aJ ids,ab encStr ow],183)];
 let q5:=List.getD (af aK (ae aK ops)) i.toNat (Op'.mk (0:Int) [] [] [] [] [] [] false);
 let q6:=bw (Tb.name q) (ae aY (Tb.av q)) (ae aJ (Tb.uniq q)) (Tb.root q);
 let q7:=af az (ae az x.ak);
 let q8:List Prop:=[0<=i/\i<(ids.length:Int),td 1 i (ae aJ ids)=[aa q3]];
 let q9:List Prop:=[0<=t/\t<(S.length:Int),td 4 t (ae ao S)=(ao q)];.ai [0<=i/\i<(ops.length:Int),td 8 i (ae aK ops)=aK q5] (.bind (l5 ops i.toNat o.name) fun y0=> .ai [St.mk q2 [some ([ab
  ao S,ab az x.ak,aa x.next,ab aK ops,ab aJ ids,ab encStr ow],183),some ([aa 0,aa 0,aa 0,.dsl 0 true [],.dsl 0 true []],185),some (aK q5,178)] []=St.mk q2 q1 []] (bif y0 then .ai [aN Pz 1
  (blk Pz pd 0) (St.mk q2 q1 []) Ex.ret (St.mk (ah 115 [(8,pp 1)]) [some ([ab ao S,ab az x.ak,aa x.next,ab aK ops,ab aJ ids,ab encStr ow],183),some ([aa 8,aa 0,aa 0,.dsl 0 true [],.dsl 0 true
  []],185)] [])] (dz (.agg [aa 8,aa 0,aa 0,.dsl 0 false [],.dsl 0 false []]) q4 []) else .ai [aN Pz 1 (blk Pz pd 0) (St.mk q2 q1 []) (Ex.exit 0) (St.mk (ah 115 [(0,pp 0),(1,aa i),(2,aa t),(3,ab aR l),(8,
  pp 1)]) [some ([ab ao S,ab az x.ak,aa x.next,ab aK ops,ab aJ ids,ab encStr ow],183),some ([aa 0,aa 0,aa 0,.dsl 0 true [],.dsl 0 true []],185)] [])] (.ai [0<=t/\t<(x.ak.length:Int),td 1 t
  (ae az x.ak)=[ab aq (List.getD q7 t.toNat [])]] (bif (↑(List.length (List.getD q7 t.toNat [])):Int)==12 then dz (.agg [aa 7,aa 0,aa 0,.dsl 0 false [],.dsl 0 false []]) q4 [] else .ai q9 (.ai q9 (.ai q8
  (.bind (gM q6 q3) fun y1=>cz 257 [.agg (ao q),aa q3] [] (.agg (aq y1)) [] [] (.bind (setRL q6 (af aR (ae aR l)) (Rw.mk y1.id (af aG (ae aG y1.cells)))) fun y2=>cz 256 [.agg (ao q),.agg (aq
  y1),ab aR l] [] (.tup [.agg (aq y2.1),aa y2.2]) [] [] (bif y2.2 != 0 then dz (.agg [aa y2.2,aa 0,aa 0,.dsl 0 false [],.dsl 0 false []]) q4 [] else .bind (iw (aA.mk q7 x.next) t.toNat (Rw.mk y2.1.id (af aG
  (ae aG y2.1.cells)))) fun y3=>cz 131 [.agg (aM x),aa t,.agg (aq y2.1)] [] (.agg (aM y3)) [] [] (.ai q8 (dz (.agg [aa 0,aa 0,aa q3,.dsl 0 false [],.dsl 0 false []]) [some ([ab ao S,ab az y3.ak,
  aa y3.next,ab aK ops,ab aJ ids,ab encStr ow],183)] [0]))))))))))):T _):=fz
variable {S x ops ids ow}
theorem Zo (hn:ops.length<=1048576) (i:Nat) (hi:i<ops.length) (t:Int) (l:List Sx) (o:Op'):
  (l5 ops i o.name=true->aT Tryz.prog 1 (lp Tryz.prog pd 0) (yI S x ops ids ow i t l o 0) .ret (Gp S x ops ids ow)) /\
  (l5 ops i o.name=false->aT Tryz.prog 1 (lp Tryz.prog pd 0) (yI S x ops ids ow i t l o 0) (.exit 0) (Gq S x ops ids ow i t l)):=by
 by_cases h0:o.name=[]
 ·have e:l5 ops i o.name=false:=by unfold l5;rw [h0];rfl
  rw [e]
  refine ⟨(fun h=>by cases h),fun _ => ?_⟩
  refine bt (MJ S x ops ids ow i t l o ((0:Nat):Int)) ?_
  simp only [ba,T.WP,All,bh,bl,bg,bm,bn,bo]
  refine ⟨fun _=>⟨fun h => ?_,fun _=>⟨rfl,rfl⟩⟩,fun _=>⟨rfl,rfl⟩⟩
  rw [h0] at h;cases h
 ·have hle:(ops.take i).length=i:=by rw [List.length_take];omega
  have AX:(o.name != [])=true:=by simpa using h0
  have e:l5 ops i o.name= !allN (fun j=> !((ops.getD j .zero).kind==1&&(ops.getD j .zero).name==o.name)) i 0:=by
   unfold l5
   rw [AX,Bool.true_and,<- Bool.not_not ((ops.take i).any _)]
   congr 1
   have h1:=qf (fun z:Op'=> !(z.kind==1&&z.name==o.name)) .zero (ops.take i)
   rw [hle] at h1
   rw [List.not_any_eq_all_not,<- h1,Bool.eq_iff_iff,nF,nF]
   have ht:∀j,j<i->(ops.take i).getD j .zero=ops.getD j .zero:=fun j hj=>by
    rw [List.getD_eq_getElem?_getD,List.getD_eq_getElem?_getD,List.getElem?_take_of_lt hj]
   exact ⟨fun h j h1 h2=>by rw [<- ht j ag];exact h j h1 h2,fun h j h1 h2=>by rw [ht j ag];exact h j h1 h2⟩
  rw [e]
  have hs:=ju (E:=tW S x ops ids ow) (m:=1) (nf:=Nw) (c:=lp Tryz.prog pd 0) (st:=fun j=>yI S x ops ids ow i t l o (j:Nat)) (n:=i) (fun j=> !((ops.getD j .zero).kind==1&&(ops.getD j .zero).name==o.name)) (ex:= .exit 0) (ex':= .ret) (sx:=Gq S x ops ids ow i t l) (sr:=Gp S x ops ids ow) follows named (by simp) (by simp) (fun j=>MJ S x ops ids ow i t l o (j:Nat)) (fun j hj => ?_) ?_ i 0 (by simp)
  ·exact ⟨fun h=>hs.2 (by rw [Bool.not_eq_true'] at h;exact h),fun h=>hs.1 (by rw [Bool.not_eq_false'] at h;exact h)⟩
  ·have aD:=iM.at ops .zero j 8 ag rfl
   have w1:IntKind.i64.wrap ((j:Int)+1)=((j+1:Nat):Int):=bW ag
   simp only [Op'.zero] at *
   simp only [ba,T.WP,All,bh,bl,bg,bm,bn,bo,w1,iM.af,Int.toNat_natCast]
   refine ⟨fun _=>⟨fun _=>⟨⟨aB,aD⟩,fun h=>⟨⟨aB,aD⟩,fun h2 => ?_,fun h2 => ?_⟩,fun h => ?_⟩,fun h => ?_⟩,fun h=>ag⟩
   ·rw [h,h2,show ((1:Int)==1&&o.name==o.name)=true by simp];rfl
   ·rw [h,show ((ops.getD j ⟨0,[],[],[],[],[],[],false⟩).name==o.name)=false by simpa using h2];rfl
   ·rw [show ((ops.getD j ⟨0,[],[],[],[],[],[],false⟩).kind==1)=false by simpa using h];rfl
   ·exfalso
    have h':(o.name != [])=false:=h
    rw [AX] at h';cases h'
  ·simp only [ba,T.WP,All,bh,bl,bg,bm,bn,bo]
   exact ⟨fun h=>ag,fun _=>rfl⟩
theorem Qu {t:Tb}:∀(l:List Sx) (r:Rw),qa t r->(∀m∈l,m.val.length<=1000)->(setRL t l r).2=0->qa t (setRL t l r).1/\(setRL t l r).1.id=r.id
 | [],r,hr,hl,h=>⟨hr,rfl⟩
 | s::l,r,hr,hl,h=>by
  rw [setRL] at h ⊢;cases hf:dn (t.av.getD (bf t s.aC).toNat .zero) s.val != 0
  ·rw [hf,cond_false] at h;rw [cond_false];have:=Qu l ⟨r.id,r.cells.set (bf t s.aC).toNat s.val⟩ ⟨by show (List.set _ _ _).length=_;rw [List.length_set];exact hr.n,fun d hd=>by
    rcases List.mem_or_eq_of_mem_set (show d∈List.set _ _ _ from hd) with h | rfl
    ·exact hr.d d h
    ·exact hl s (by simp)⟩ (fun m hm=>hl m (by simp [hm])) h
   exact this
  ·rw [hf,cond_true] at h;have h':dn (t.av.getD (bf t s.aC).toNat .zero) s.val=0:=h;rw [h'] at hf;cases hf
theorem Ll (t:Tb) (id:Int):qa t (gM t id):=⟨by unfold gM;simp,fun d hd=>by
 obtain ⟨c,_,rfl⟩:=List.mem_map.1 hd;have:=U5 c;omega⟩
def pN (S:aO) (x:aA) (ops:List Op') (ids:List Int) (i t:Nat) (l:List Sx):aA×bV:=
 bif l5 ops i (ops.getD i .zero).name then (x,jy 8)
 else bif (x.ak.getD t []).length==12 then (x,jy 7)
 else bif (setRL (S.getD t .zero) l (gM (S.getD t .zero) (ids.getD i 0))).2 != 0 then (x,jy (setRL (S.getD t .zero) l (gM (S.getD t .zero) (ids.getD i 0))).2)
 else (iw x t (setRL (S.getD t .zero) l (gM (S.getD t .zero) (ids.getD i 0))).1,⟨0,0,ids.getD i 0,[],[]⟩)
structure Jq (S:aO) (x:aA):Prop where
 s:lq x
 n:x.ak.length=S.length
 m:∀t∈S,qe t
 l:∀rows∈x.ak,rows.length<=1000
theorem Zq (hx:Jq S x) (hn:ops.length<=1048576) (hid:ids.length=ops.length) (i t:Nat) (hi:i<ops.length) (ht:t<S.length) (l:List Sx) (hl:∀m∈l,m.val.length<=1000/\0<=bf (S.getD t .zero) m.aC) (cD:l.length<=1048576):
  au Pz pd [.ptr 0 0,.int .i64 i,.int .i64 t,ab aR l] [wB S x ops ids ow] ⟨.agg (bL (pN S x ops ids i t l).2),[wB S (pN S x ops ids i t l).1 ops ids ow],[0]⟩:=by
 have aD:=iM.at ops .zero i 8 hi rfl;have gO:t<x.ak.length:=by rw [hx.n];exact ht
 have jD:=bB.at x.ak [] t 1 gO rfl;have eU:=bN.at S .zero t 4 ht rfl;have uX:=fa.at ids 0 i 1 ag rfl;have jm:=hx.m _ (bH .zero ht);have hlen:=hx.l _ (bH [] gO);have dy:=Zo (S:=S) (x:=x) (ids:=ids) (ow:=ow) hn i hi (t:Nat) l (ops.getD i .zero);have eg:=Wa (S.getD t .zero) (ids.getD i 0) jm.n;have cL:=Qr jm (Ll (S.getD t .zero) (ids.getD i 0)) hl cD;have hM:=Qu (t:=S.getD t .zero) l (gM (S.getD t .zero) (ids.getD i 0)) (Ll _ _) (fun m hm=>(hl m hm).1);have hF:pN S x ops ids i t l=bif l5 ops i (ops.getD i .zero).name then (x,jy 8)
  else bif (x.ak.getD t []).length==12 then (x,jy 7)
  else bif (setRL (S.getD t .zero) l (gM (S.getD t .zero) (ids.getD i 0))).2 != 0 then (x,jy (setRL (S.getD t .zero) l (gM (S.getD t .zero) (ids.getD i 0))).2)
  else (iw x t (setRL (S.getD t .zero) l (gM (S.getD t .zero) (ids.getD i 0))).1,⟨0,0,ids.getD i 0,[],[]⟩):=rfl
 rw [hF];have xK:=fun h=>Pk hx.s t (setRL (S.getD t .zero) l (gM (S.getD t .zero) (ids.getD i 0))).1 ((hM h).1.s jm) gO ag;refine a6 (Zn S x ops ids ow (i:Nat) (t:Nat) l (ops.getD i .zero)) ?_;simp only [Tb.zero,Op'.zero] at *;simp only [sz,iM.af,bB.af,bN.af,fa.af,eE.af,bP.af,cH,Int.toNat_natCast];generalize hS:S.getD t ⟨[],[],[],false⟩=tb at *;refine ⟨⟨aB,aD⟩,?_⟩;rintro y0 rfl;refine ⟨a8,fun h=>⟨.aV (dy.1 h),?_⟩,fun h=>⟨.aV (dy.2 h),⟨aB,jD⟩,fun xk => ?_,fun xk=>⟨⟨aB,eU⟩,⟨aB,eU⟩,⟨aB,uX⟩,?_⟩⟩⟩
 ·rw [h];exact aH
 ·have D3:(x.ak.getD t []).length=12:=ag;rw [h,D3];exact aH
 ·have D3:((x.ak.getD t []).length==12)=false:=by rw [beq_eq_false_iff_ne];omega
  rw [h,D3];simp only [cond_false];rintro y1 rfl;refine ⟨eg,?_⟩;rintro y2 e;have e:y2=setRL tb l (gM tb (ids.getD i 0)):=e;rw [<- e] at cL xK ⊢;refine ⟨cL,fun h2 => ?_,fun h2 => ?_⟩
  ·rw [h2];exact aH
  ·rw [h2];rintro y3 rfl;have hp:=xK iu;exact ⟨hp,⟨aB,uX⟩,aH⟩
end
abbrev nV:Nat:=225
def nJ (t:Tb) (cl:List (List UInt8)):List (List UInt8):=bif (cl.length:Int)==0 then t.av.map (·.name) else cl
def lK (t:Tb) (rows:List Rw) (aS:List aZ) (cl:List (List UInt8)):List Rw:=(rows.filter fun r=>dL t r aS).map fun r=>m6 t r cl
def vX (t:Tb) (rows:List Rw) (o:Op'):bV:=⟨0,0,0,nJ t o.av,lK t rows o.aS (nJ t o.av)⟩
section
variable (S:aO) (x:aA) (ops:List Op') (ids:List Int) (ow:List (List UInt8))
def Cd (o:Op') (t:Int) (cs:List (List UInt8)) (rs:List Rw) (i:Int):St:=⟨ah 107 [(0,.ptr 0 0),(2,.int .i64 t),(4,.ptr 1 0),(6,.ptr 2 0),(7,.ptr 3 0),(9,.int .i64 i)],[wB S x ops ids ow,some (aK o,iQ),some (lN,fT),some ([.int .i64 0,.int .i64 0,.int .i64 0,ab encStr cs,.sl 4 0 rs.length false],fT),some ([.aw (ae aq rs)],eb)],[]⟩
def Cc (o:Op') (t:Int) (cs:List (List UInt8)) (i:Int):St:=⟨ah 107 [(0,.ptr 0 0),(2,.int .i64 t),(4,.ptr 1 0),(6,.ptr 2 0),(7,.ptr 3 0),(8,.int .i64 i)],[wB S x ops ids ow,some (aK o,iQ),some (lN,fT),some ([.int .i64 0,.int .i64 0,.int .i64 0,.sl 4 0 cs.length false,.sl 5 0 0 false],fT),some ([.aw (ae encStr cs)],ni),some ([.aw []],eb)],[]⟩
def QE (cs:List (List UInt8)) (rs:List Rw):St:=⟨ah 107 [(0,.ptr 0 0),(6,.ptr 1 0),(7,.ptr 2 0)],[wB S x ops ids ow,some (lN,fT),some ([.int .i64 0,.int .i64 0,.int .i64 0,ab encStr cs,.sl 3 0 rs.length false],fT),some ([.aw (ae aq rs)],eb)],[]⟩
def QF (o:Op') (t:Int) (cs:List (List UInt8)):St:=⟨ah 107 [(0,.ptr 0 0),(2,.int .i64 t),(4,.ptr 1 0),(6,.ptr 2 0),(7,.ptr 3 0)],[wB S x ops ids ow,some (aK o,iQ),some (lN,fT),some ([.int .i64 0,.int .i64 0,.int .i64 0,.sl 4 0 cs.length false,.sl 5 0 0 false],fT),some ([.aw (ae encStr cs)],ni),some ([.aw []],eb)],[]⟩
def ap9:Ex->Kp:=fun ex=>match ex with
 | .normal=>{keep:=[0,2,4,6,7,9]}
 | _=>{keep:=[0,6,7]}
def ap8:Ex->Kp:=fun ex=>match ex with
 | .normal=>{keep:=[0,2,4,6,7,8]}
 | _=>{keep:=[0,2,4,6,7]}
theorem QD (S:aO) (x:aA) (ops:List Op') (ids:List Int) (ow:List (List UInt8)) (o:Op') (t:Int) (cs:List (List UInt8)) (rs:List Rw) (i:Int):bp (tW S x ops ids ow) 1 ap9 (lp Pz nV 2) (Cd S x ops ids ow o t cs rs i)=(
 let q2:=List.getD (af az (ae az x.ak)) t.toNat [];
 let q:=List.getD (af aq (ae aq q2)) i.toNat (Rw.mk (0:Int) []);
 let q1:=List.getD (af ao (ae ao S)) t.toNat (Tb.mk [] [] [] false);
 let q3:=ah 107 [(0,pp 0),(2,aa t),(4,pp 1),(6,pp 2),(7,pp 3),(9,aa (wz (i+1)))];
 let q4:=bw (Tb.name q1) (ae aY (Tb.av q1)) (ae aJ (Tb.uniq q1)) (Tb.root q1);
 let q5:List Prop:=[0<=t/\t<(x.ak.length:Int),td 1 t (ae az x.ak)=[ab aq q2]];
 let q6:=Rw.mk (Rw.id q) (af aG (ae aG (Rw.cells q)));
 let q7:List Prop:=[0<=t/\t<(S.length:Int),td 4 t (ae ao S)=(ao q1)];
 let q8:=ae aq rs;.ai q5 (bif decide (i<(↑(List.length q2):Int)) then .ai q5 (.ai [0<=i/\i<(↑(List.length q2):Int),td 2 i (ae aq q2)=[aa (Rw.id q),ab aG (Rw.cells q)]] (.ai q7 (.bind (dL q4 q6
  (af aE (ae aE o.aS))) fun y0=>cz 117 [.agg (ao q1),.agg [aa (Rw.id q),ab aG (Rw.cells q)],ab aE o.aS] [] (.bool y0) [] [] (bif y0 then .ai q7 (.bind (m6 q4 q6 (af encStr (ae encStr cs))) fun y1
  => cz 237 [.agg (ao q1),.agg [aa (Rw.id q),ab aG (Rw.cells q)],ab encStr cs] [] (.agg (aq y1)) [] [] (.ai [0=0,List.length q8=rs.length*2,rs.length+1<=9223372036854775807,(rs.length+1)*32 <=
  140737488355328] (nz q3 [some ([ab ao S,ab az x.ak,aa x.next,ab aK ops,ab aJ ids,ab encStr ow],183),some (aK o,178),some ([aa 0,aa 0,aa 0,.dsl 0 true [],.dsl 0 true []],185),some ([aa 0,aa
  0,aa 0,ab encStr cs,.sl 4 0 (rs.length+1) false],185),some ([.aw (ae aq rs++(aq y1))],53)]))) else nz q3 [some ([ab ao S,ab az x.ak,aa x.next,ab aK ops,ab aJ ids,ab encStr ow],183),some
  (aK o,178),some ([aa 0,aa 0,aa 0,.dsl 0 true [],.dsl 0 true []],185),some ([aa 0,aa 0,aa 0,ab encStr cs,.sl 4 0 rs.length false],185),some ([.aw q8],53)])))) else .done (Ex.exit 2,St.mk (ah 107 [(0,pp 0),
  (6,pp 1),(7,pp 2)]) [some ([ab ao S,ab az x.ak,aa x.next,ab aK ops,ab aJ ids,ab encStr ow],183),some ([aa 0,aa 0,aa 0,.dsl 0 true [],.dsl 0 true []],185),some ([aa 0,aa 0,aa 0,ab encStr
  cs,.sl 3 0 rs.length false],185),some ([.aw q8],53)] [])):T _):=fz
theorem QC (S:aO) (x:aA) (ops:List Op') (ids:List Int) (ow:List (List UInt8)) (o:Op') (t:Int) (cs:List (List UInt8)) (i:Int):bp (tW S x ops ids ow) 1 ap8 (lp Pz nV 0) (Cc S x ops ids ow o t cs i)=(
 let q:=List.getD (af ao (ae ao S)) t.toNat (Tb.mk [] [] [] false);
 let q1:=List.getD (af aY (ae aY (Tb.av q))) i.toNat (aL.mk [] (0:Int) (0:Int) (0:Int) (0:Int) (0:Int) [] false);
 let q2:List Prop:=[0<=t/\t<(S.length:Int),td 4 t (ae ao S)=(ao q)];
 let q3:=(↑(List.length (Tb.av q)):Int);.ai q2 (bif decide (i<q3) then .ai q2 (.ai [0<=i/\i<q3,td 8 i (ae aY (Tb.av q))=aY q1] (.ai [0=0,List.length (ae encStr cs)=cs.length*1,cs.length+1 <=
  9223372036854775807,(cs.length+1)*16<=140737488355328] (nz (ah 107 [(0,pp 0),(2,aa t),(4,pp 1),(6,pp 2),(7,pp 3),(8,aa (wz (i+1)))]) [some ([ab ao S,ab az x.ak,aa x.next,ab aK ops,ab aJ
  ids,ab encStr ow],183),some (aK o,178),some ([aa 0,aa 0,aa 0,.dsl 0 true [],.dsl 0 true []],185),some ([aa 0,aa 0,aa 0,.sl 4 0 (cs.length+1) false,.sl 5 0 0 false],185),some ([.aw (ae encStr cs++[.str
  (aL.name q1)])],9),some ([.aw []],53)]))) else .done (Ex.exit 0,St.mk (ah 107 [(0,pp 0),(2,aa t),(4,pp 1),(6,pp 2),(7,pp 3)]) [some ([ab ao S,ab az x.ak,aa x.next,ab aK ops,ab aJ ids,ab
  encStr ow],183),some (aK o,178),some ([aa 0,aa 0,aa 0,.dsl 0 true [],.dsl 0 true []],185),some ([aa 0,aa 0,aa 0,.sl 4 0 cs.length false,.sl 5 0 0 false],185),some ([.aw (ae encStr cs)],9),some ([.aw []],
  53)] [])):T _):=fz
def ae3 (o:Op') (t:Int):Nat->St->Option b8:=fun id s=>match id with
 | 0=>some ⟨(),fun _=> .one {keep:=[0,2,4,6,7,8],lI:=[(3,3),(3,4),(4,3),(4,4),(5,3),(5,4),(6,3),(6,4),(7,3),(7,4)]} (Cc S x ops ids ow o t [] 0) (.exit 0) (QF S x ops ids ow o t ((S.getD t.toNat .zero).av.map (·.name)))⟩
 | 2=>match s.tm.get 7 with
  | .ptr b 0=>match s.hp[b]? with
   | some (some ([_,_,_,_,.sl r _ _ _],_))=>some ⟨nJ (S.getD t.toNat .zero) o.av,fun y=> .one {keep:=[0,2,4,6,7,9],perm:=some ([0,1,2,b,r],[4]),lI:=[(b,3),(b,4)]} (Cd S x ops ids ow o t y [] 0) (.exit 2) (QE S x ops ids ow y (lK (S.getD t.toNat .zero) (x.ak.getD t.toNat []) o.aS y))⟩
   | _=>none
  | _=>none
 | _=>none
def Sr (o:Op') (t:Int):Env:={P:=Pz,vw:=cj,res:=vP S x ops ids ow,ls:=ae3 S x ops ids ow o t}
theorem slT (S:aO) (x:aA) (ops:List Op') (ids:List Int) (ow:List (List UInt8)) (o:Op') (t:Int):fnT (Sr S x ops ids ow o t) 0 nV [.ptr 0 0,.agg (aK o),.int .i64 t] [wB S x ops ids ow]=(
 let q:=List.getD S t.toNat (Tb.mk [] [] [] false);
 let q1:=ah 107 [(0,pp 0),(2,aa t),(4,pp 1),(6,pp 2),(7,pp 3),(9,aa 0)];
 let q2:=ah 107 [(0,pp 0),(2,aa t),(4,pp 1),(6,pp 2),(7,pp 3),(8,aa 0)];
 let q3:=List.map (fun x=>x.name) (Tb.av q);
 let q4:=ae encStr o.av;
 let q5:=0+o.av.length;
 let q6:=ah 107 [(0,pp 0),(6,pp 1),(7,pp 2)];.ai [List.length q4=o.av.length*1,List.all q4 V.one=true,0=0,0=0,0+o.av.length<=9223372036854775807,q5*16<=140737488355328] (bif (↑q5:Int)==0 then .bind
  PUnit.unit fun _=>
 let q7:Hp:=[some ([ab ao S,ab az x.ak,aa x.next,ab aK ops,ab aJ ids,ab encStr ow],183),some (aK o,178),some ([aa 0,aa 0,aa 0,.dsl 0 true [],.dsl 0 true []],185),some ([aa 0,aa 0,aa 0,
  .sl 4 0 0 false,.sl 5 0 0 false],185),some ([.aw []],9),some ([.aw []],53)];
 let q8:=List.getD x.ak t.toNat [];.ai [St.mk q2 [some ([ab ao S,ab az x.ak,aa x.next,ab aK ops,ab aJ ids,ab encStr ow],183),some (aK o,178),some ([aa 0,aa 0,aa 0,.dsl 0 true [],.dsl 0 true
  []],185),some ([aa 0,aa 0,aa 0,.sl 4 0 q5 false,.sl 5 0 0 false],185),some ([.aw q4],9),some ([.aw []],53)] []=St.mk q2 q7 [],aN Pz 1 (blk Pz nV 0) (St.mk q2 q7 []) (Ex.exit 0) (St.mk (ah 107 [(0,pp 0),(2,
  aa t),(4,pp 1),(6,pp 2),(7,pp 3)]) [some ([ab ao S,ab az x.ak,aa x.next,ab aK ops,ab aJ ids,ab encStr ow],183),some (aK o,178),some ([aa 0,aa 0,aa 0,.dsl 0 true [],.dsl 0 true []],185),
  some ([aa 0,aa 0,aa 0,.sl 4 0 (List.length q3) false,.sl 5 0 0 false],185),some ([.aw (ae encStr q3)],9),some ([.aw []],53)] [])] (.bind (nJ q o.av) fun y1=>
 let q9:Hp:=[some ([ab ao S,ab az x.ak,aa x.next,ab aK ops,ab aJ ids,ab encStr ow],183),some (aK o,178),some ([aa 0,aa 0,aa 0,.dsl 0 true [],.dsl 0 true []],185),some ([aa 0,aa 0,aa 0,
  ab encStr y1,.sl 4 0 0 false],185),some ([.aw []],53)];
 let bK:=lK q q8 o.aS y1;.ai [St.mk q1 [some ([ab ao S,ab az x.ak,aa x.next,ab aK ops,ab aJ ids,ab encStr ow],183),some (aK o,178),some ([aa 0,aa 0,aa 0,.dsl 0 true [],.dsl 0 true []],
  185),some ([aa 0,aa 0,aa 0,ab encStr q3,.sl 4 0 0 false],185),some ([.aw []],53)] []=St.mk q1 q9 [],aN Pz 1 (blk Pz nV 2) (St.mk q1 q9 []) (Ex.exit 2) (St.mk q6 [some ([ab ao S,ab az x.ak,aa x.next,
  ab aK ops,ab aJ ids,ab encStr ow],183),some ([aa 0,aa 0,aa 0,.dsl 0 true [],.dsl 0 true []],185),some ([aa 0,aa 0,aa 0,ab encStr y1,.sl 3 0 (List.length bK) false],185),some ([.aw (ae aq bK)],
  53)] [])] (dz (.agg [aa 0,aa 0,aa 0,ab encStr y1,ab aq bK]) [some ([ab ao S,ab az x.ak,aa x.next,ab aK ops,ab aJ ids,ab encStr ow],183)] [])) else .bind (nJ q o.av) fun y2=>
 let bS:Hp:=[some ([ab ao S,ab az x.ak,aa x.next,ab aK ops,ab aJ ids,ab encStr ow],183),some (aK o,178),some ([aa 0,aa 0,aa 0,.dsl 0 true [],.dsl 0 true []],185),some ([aa 0,aa 0,aa 0,
  ab encStr y2,.sl 4 0 0 false],185),some ([.aw []],53)];
 let cF:=lK q (List.getD x.ak t.toNat []) o.aS y2;.ai [St.mk q1 [some ([ab ao S,ab az x.ak,aa x.next,ab aK ops,ab aJ ids,ab encStr ow],183),some (aK o,178),some ([aa 0,aa 0,aa 0,.dsl 0
  true [],.dsl 0 true []],185),some ([aa 0,aa 0,aa 0,.dsl q5 false q4,.sl 4 0 0 false],185),some ([.aw []],53)] []=St.mk q1 bS [],aN Pz 1 (blk Pz nV 2) (St.mk q1 bS []) (Ex.exit 2) (St.mk q6 [some ([ab ao S,
  ab az x.ak,aa x.next,ab aK ops,ab aJ ids,ab encStr ow],183),some ([aa 0,aa 0,aa 0,.dsl 0 true [],.dsl 0 true []],185),some ([aa 0,aa 0,aa 0,ab encStr y2,.sl 3 0 (List.length cF) false],185),
  some ([.aw (ae aq cF)],53)] [])] (dz (.agg [aa 0,aa 0,aa 0,ab encStr y2,ab aq cF]) [some ([ab ao S,ab az x.ak,aa x.next,ab aK ops,ab aJ ids,ab encStr ow],183)] [])):T _):=fz
variable {S x ops ids ow}
structure iY (S:aO) (x:aA):Prop where
 h:eG S x
 m:∀t∈S,qe t
 l:∀rows∈x.ak,rows.length<=1000
 d:∀rows∈x.ak,∀r∈rows,∀d∈r.cells,d.length<=1000
theorem iY.w (hx:iY S x):Jq S x:=⟨hx.h.s,hx.h.n,hx.m,hx.l⟩
theorem iY.rw (hx:iY S x) {t:Nat} (ht:t<S.length):∀r∈x.ak.getD t [],iX (S.getD t .zero) r:=fun r hr=>by
 have pH:t<x.ak.length:=by rw [hx.h.n];exact ht
 exact ⟨hx.h.s.r _ (bH [] pH) r hr,hx.h.c t pH r hr,(hx.h.k _ (bH .zero ht)).1⟩
theorem aM7 (t:Tb) (rows:List Rw) (l:List aZ) (cl:List (List UInt8)) (n:Nat) (hn:n<rows.length):lK t (rows.take (n+1)) l cl=lK t (rows.take n) l cl++(bif dL t (rows.getD n ⟨0,[]⟩) l then [m6 t (rows.getD n ⟨0,[]⟩) cl] else []):=by
 unfold lK;rw [fU ⟨0,[]⟩ hn,List.filter_append,List.map_append];congr 1;cases h:dL t (rows.getD n ⟨0,[]⟩) l
 all_goals
  simp only [List.filter,h];rfl
theorem aL0 (t:Tb) (rows:List Rw) (l:List aZ) (cl:List (List UInt8)):(lK t rows l cl).length<=rows.length:=by
 unfold lK;rw [List.length_map];exact List.length_filter_le _ _
theorem QB (hx:iY S x) {o:Op'} {t:Nat} (ht:t<S.length) (hc:∀c∈o.aS,ll c) (hl:o.aS.length<=1048576) {cs:List (List UInt8)} (ga:cs.length<=1048576):∀(m n:Nat),n+m=(x.ak.getD t []).length ->
  aT Pz 1 (lp Pz nV 2) (Cd S x ops ids ow o t cs (lK (S.getD t .zero) ((x.ak.getD t []).take n) o.aS cs) n) (.exit 2) (QE S x ops ids ow cs (lK (S.getD t .zero) (x.ak.getD t []) o.aS cs))
 | 0,n,hk=>by
  have gO:t<x.ak.length:=by rw [hx.h.n];exact ht
  have jD:=bB.at x.ak [] t 1 gO rfl;have hk:n=(x.ak.getD t []).length:=hk;subst hk;rw [List.take_length];refine bt (QD S x ops ids ow o (t:Nat) cs _ ((x.ak.getD t []).length:Nat)) ?_;simp only [sz,bB.af,Int.toNat_natCast];exact ⟨⟨aB,jD⟩,fun h=>ag,fun _=>⟨rfl,rfl⟩⟩
 | m+1,n,hk=>by
  have gO:t<x.ak.length:=by rw [hx.h.n];exact ht
  have jD:=bB.at x.ak [] t 1 gO rfl;have eU:=bN.at S .zero t 4 ht rfl;have hn:n<(x.ak.getD t []).length:=ag;have Fu:=bI.at (x.ak.getD t []) ⟨0,[]⟩ n 2 hn rfl;have ih:=QB hx ht hc hl ga m (n+1) ag;have hlen:=hx.l _ (bH [] gO);have w1:=cX n;have xN:=hx.rw ht _ (bH ⟨0,[]⟩ hn);have ha:=Dx xN hc hl;have hp:=aA2 xN cs ga;have cD:=aL0 (S.getD t .zero) ((x.ak.getD t []).take n) o.aS cs;rw [List.length_take] at cD;rw [aM7 _ _ _ _ n hn] at ih;refine bt (QD S x ops ids ow o (t:Nat) cs _ (n:Nat)) ?_;simp only [Tb.zero] at *;simp only [sz,w1,bB.af,bN.af,bI.af,cp.af,bP.af,cx.af,bI.length,cH,Int.toNat_natCast];refine ⟨⟨aB,jD⟩,fun _=>⟨⟨aB,jD⟩,⟨aB,Fu⟩,⟨aB,eU⟩,?_⟩,fun h=>ag⟩;rintro y rfl;refine ⟨ha,fun h => ?_,fun h => ?_⟩
  ·rw [show dL (S.getD t ⟨[],[],[],false⟩) ((x.ak.getD t []).getD n ⟨0,[]⟩) o.aS=true from h,cond_true] at ih;refine ⟨⟨aB,eU⟩,?_⟩;rintro y1 rfl;refine ⟨hp,aB,?_⟩;simp only [Cd,dF,aq,ab,List.length_append,List.length_singleton] at ih ⊢;exact ih
  ·rw [show dL (S.getD t ⟨[],[],[],false⟩) ((x.ak.getD t []).getD n ⟨0,[]⟩) o.aS=false from h,cond_false,List.append_nil] at ih;exact ih
theorem QA (hx:iY S x) {o:Op'} {t:Nat} (ht:t<S.length):∀(m n:Nat),n+m=(S.getD t .zero).av.length ->
  aT Pz 1 (lp Pz nV 0) (Cc S x ops ids ow o t (((S.getD t .zero).av.take n).map (·.name)) n) (.exit 0) (QF S x ops ids ow o t ((S.getD t .zero).av.map (·.name)))
 | 0,n,hk=>by
  have eU:=bN.at S .zero t 4 ht rfl;have hk:n=(S.getD t .zero).av.length:=hk;subst hk;rw [List.take_length];refine bt (QC S x ops ids ow o (t:Nat) _ ((S.getD t .zero).av.length:Nat)) ?_;simp only [Tb.zero] at *;simp only [sz,bN.af,Int.toNat_natCast];exact ⟨⟨aB,eU⟩,fun h=>ag,fun _=>⟨rfl,rfl⟩⟩
 | m+1,n,hk=>by
  have eU:=bN.at S .zero t 4 ht rfl;have hn:n<(S.getD t .zero).av.length:=ag;have sH:=db.at (S.getD t .zero).av .zero n 8 hn rfl;have ih:=QA hx ht (o:=o) m (n+1) ag;have AR:=(hx.h.k _ (bH .zero ht)).1;have w1:=cX n;have hle:((S.getD t .zero).av.take n).length=n:=by rw [List.length_take];omega
  rw [fU .zero hn,List.map_append,List.map_singleton] at ih;refine bt (QC S x ops ids ow o (t:Nat) _ (n:Nat)) ?_;simp only [Tb.zero,aL.zero] at *;simp only [sz,w1,bN.af,db.af,cx.length,List.length_map,hle,Int.toNat_natCast];refine ⟨⟨aB,eU⟩,fun _=>⟨⟨aB,eU⟩,⟨aB,sH⟩,aB,?_⟩,fun h=>ag⟩;simp only [Cc,dF,encStr,ab,List.length_append,List.length_singleton,List.length_map,hle] at ih ⊢;exact ih
theorem aM6 (hx:iY S x) {o:Op'} {t:Nat} (ht:t<S.length) (hc:∀c∈o.aS,ll c) (hl:o.aS.length<=1048576) (cd:o.av.length<=1048576):
  au Pz nV [.ptr 0 0,.agg (aK o),.int .i64 t] [wB S x ops ids ow] ⟨.agg (bL (vX (S.getD t .zero) (x.ak.getD t []) o)),[wB S x ops ids ow],[]⟩:=by
 have AR:=(hx.h.k _ (bH .zero ht)).1;have h0:=QA hx ht (o:=o) (ops:=ops) (ids:=ids) (ow:=ow) (S.getD t .zero).av.length 0 ag;have h2:=fun cs ga=>QB hx ht hc hl (cs:=cs) ga (ops:=ops) (ids:=ids) (ow:=ow) (x.ak.getD t []).length 0 ag;refine a6 (slT S x ops ids ow o (t:Nat)) ?_;simp only [Tb.zero] at *;simp only [sz,cx.length,cx.all,Int.toNat_natCast,Nat.zero_add];refine ⟨aB,fun e => ?_,fun e => ?_⟩
 ·have e0:o.av=[]:=List.length_eq_zero_iff.1 (by simpa using e);rw [e0];have ec:nJ (S.getD t ⟨[],[],[],false⟩) []=(S.getD t ⟨[],[],[],false⟩).av.map (·.name):=rfl;rintro _ -;refine ⟨⟨rfl,.aV h0⟩,?_⟩;rintro y rfl;refine ⟨⟨?_,.aV (h2 _ ?_)⟩,?_⟩
  ·rw [ec]
  ·rw [ec,List.length_map];exact AR
  ·rw [vX,e0];exact aH
 ·have e0:((o.av.length:Int)==0)=false:=by simpa using e
  have ec:nJ (S.getD t ⟨[],[],[],false⟩) o.av=o.av:=by unfold nJ;rw [e0,cond_false]
  rintro y rfl;refine ⟨⟨?_,.aV (h2 _ ?_)⟩,?_⟩
  ·rw [ec]
  ·rw [ec];exact cd
  ·exact aH
end
abbrev pj:Nat:=226
abbrev sa:Nat:=227
def nG (t:Tb) (r:Rw) (l:List Sx):Bool:=l.all fun q=>decide (r.cells.getD (bf t q.aC).toNat []=q.val)
def nq (t:Tb) (aS:List aZ) (l:List Sx):List Rw->Nat->Bool->Nat×Bool
 | [],n,a=>(n,a)
 | r::rs,n,a=>bif dL t r aS then nq t aS l rs (n+1) (a&&nG t r l) else nq t aS l rs n a
def IJ (gV:Bool) (y:Nat×Bool):bV:=bif ((decide (0<y.1)&&y.2) != gV) then jy 15 else jy 0
def wy (t:Tb) (rows:List Rw) (o:Op') (l:List Sx):bV:=IJ o.gV (nq t o.aS l rows 0 true)
section
variable (S:aO) (x:aA) (ops:List Op') (ids:List Int) (ow:List (List UInt8))
def Ik (o:Op') (t:Int) (l:List Sx) (n:Int) (a:Bool) (i:Int) (r:Rw) (k:Int):St:=⟨ah 96 [(0,.ptr 0 0),(2,.int .i64 t),(3,ab aR l),(5,.ptr 1 0),(8,.ptr 2 0),(9,.int .i64 n),(10,.bool a),(11,.int .i64 i),(12,.ptr 3 0),(13,.int .i64 k)],[wB S x ops ids ow,some (aK o,iQ),some (lN,fT),some (aq r,eb)],[]⟩
def zb (o:Op') (t:Int) (l:List Sx) (n:Int) (a:Bool) (i:Int):St:=⟨ah 96 [(0,.ptr 0 0),(2,.int .i64 t),(3,ab aR l),(5,.ptr 1 0),(8,.ptr 2 0),(9,.int .i64 n),(10,.bool a),(11,.int .i64 i)],[wB S x ops ids ow,some (aK o,iQ),some (lN,fT)],[]⟩
def RA (o:Op') (n:Int) (a:Bool):St:=⟨ah 96 [(5,.ptr 1 0),(8,.ptr 2 0),(9,.int .i64 n),(10,.bool a)],[wB S x ops ids ow,some (aK o,iQ),some (lN,fT)],[]⟩
def aq9:Ex->Kp:=fun ex=>match ex with
 | .normal=>{keep:=[0,2,3,5,8,9,10,11,12,13]}
 | _=>{keep:=[0,2,3,5,8,9,10,11]}
def aq8:Ex->Kp:=fun ex=>match ex with
 | .normal=>{keep:=[0,2,3,5,8,9,10,11]}
 | _=>{keep:=[5,8,9,10]}
def af3 (o:Op') (t:Int) (l:List Sx):Nat->St->Option b8:=fun id s=>match id,s.tm.get 9,s.tm.get 10,s.tm.get 11,s.tm.get 12 with
 | 2,.int _ n,.bool a,.int _ i,.ptr b 0=>match s.hp[b]? with
  | some (some ([.int _ d,.dsl _ _ cs],_))=>some ⟨a&&nG (S.getD t.toNat .zero) ⟨d,af aG cs⟩ l,fun y=> .one {keep:=[0,2,3,5,8,9,10,11,12,13]} (Ik S x ops ids ow o t l n a i ⟨d,af aG cs⟩ 0) (.exit 2) (zb S x ops ids ow o t l n y i)⟩
  | _=>none
 | 0,.int _ 0,.bool true,.int _ 0,_=>some ⟨nq (S.getD t.toNat .zero) o.aS l (x.ak.getD t.toNat []) 0 true,fun y=> .one {keep:=[0,2,3,5,8,9,10,11]} (zb S x ops ids ow o t l 0 true 0) (.exit 0) (RA S x ops ids ow o y.1 y.2)⟩
 | _,_,_,_,_=>none
def Jd (o:Op') (t:Int) (l:List Sx):Env:={P:=Pz,vw:=cj,res:=vP S x ops ids ow,ls:=af3 S x ops ids ow o t l}
theorem Rz (S:aO) (x:aA) (ops:List Op') (ids:List Int) (ow:List (List UInt8)) (o:Op') (t:Int) (l:List Sx) (n:Int) (a:Bool) (i:Int) (r:Rw) (k:Int):bp (tW S x ops ids ow) 1 aq9 (lp Pz pj 2) (Ik S x ops ids ow o t l n a i r k)=(
 let q:=List.getD (af aR (ae aR l)) k.toNat (Sx.mk [] [] []);
 let q1:=List.getD (af ao (ae ao S)) t.toNat (Tb.mk [] [] [] false);
 let q2:Hp:=[some ([ab ao S,ab az x.ak,aa x.next,ab aK ops,ab aJ ids,ab encStr ow],183),some (aK o,178),some ([aa 0,aa 0,aa 0,.dsl 0 true [],.dsl 0 true []],185),some ((aq r),53)];
 let q3:List Prop:=[0<=k/\k<(l.length:Int),td 3 k (ae aR l)=[.str (Sx.aC q),ab aj (Sx.val q),ab encStr (Sx.names q)]];
 let q4:=af aG (ae aG r.cells);bif decide (k<(l.length:Int)) then bif a then .ai [0<=t/\t<(S.length:Int),td 4 t (ae ao S)=(ao q1)] (.ai q3 (.bind (bf (bw (Tb.name q1) (ae aY (Tb.av q1))
  (ae aJ (Tb.uniq q1)) (Tb.root q1)) (Sx.aC q)) fun y0=>
 let q5:=List.getD q4 y0.toNat [];cz 178 [.agg (ao q1),.str (Sx.aC q)] [] (aa y0) [] [] (.ai [0<=y0/\y0<(r.cells.length:Int),td 1 y0 (ae aG r.cells)=[ab aj q5]] (.ai q3 (.bind (decide (af aj (ae
  aj q5)=af aj (ae aj (Sx.val q)))) fun y1=>cz 215 [ab aj q5,ab aj (Sx.val q)] [] (.bool y1) [] [] (nz (ah 96 [(0,pp 0),(2,aa t),(3,ab aR l),(5,pp 1),(8,pp 2),(9,aa n),(10,.bool y1),(11,
  aa i),(12,pp 3),(13,aa (wz (k+1)))]) q2)))))) else nz (ah 96 [(0,pp 0),(2,aa t),(3,ab aR l),(5,pp 1),(8,pp 2),(9,aa n),(10,.bool false),(11,aa i),(12,pp 3),(13,aa (wz (k+1)))]) q2 else .done
  (Ex.exit 2,St.mk (ah 96 [(0,pp 0),(2,aa t),(3,ab aR l),(5,pp 1),(8,pp 2),(9,aa n),(10,.bool a),(11,aa i)]) [some ([ab ao S,ab az x.ak,aa x.next,ab aK ops,ab aJ ids,ab encStr ow],
  183),some (aK o,178),some ([aa 0,aa 0,aa 0,.dsl 0 true [],.dsl 0 true []],185)] []):T _):=kz
theorem Ry (S:aO) (x:aA) (ops:List Op') (ids:List Int) (ow:List (List UInt8)) (o:Op') (t:Int) (l:List Sx) (n:Int) (a:Bool) (i:Int):bp (Jd S x ops ids ow o t l) 1 aq8 (lp Pz pj 0) (zb S x ops ids ow o t l n a i)=(
 let q5:=List.getD (af az (ae az x.ak)) t.toNat [];
 let q:=List.getD (af aq (ae aq q5)) i.toNat (Rw.mk (0:Int) []);
 let q1:Hp:=[some ([ab ao S,ab az x.ak,aa x.next,ab aK ops,ab aJ ids,ab encStr ow],183),some (aK o,178),some ([aa 0,aa 0,aa 0,.dsl 0 true [],.dsl 0 true []],185)];
 let q6:=Rw.mk (Rw.id q) (af aG (ae aG (Rw.cells q)));
 let q2:Hp:=[some ([ab ao S,ab az x.ak,aa x.next,ab aK ops,ab aJ ids,ab encStr ow],183),some (aK o,178),some ([aa 0,aa 0,aa 0,.dsl 0 true [],.dsl 0 true []],185),some ([aa (Rw.id q6),ab
  aG (Rw.cells q6)],53)];
 let q3:=List.getD (af ao (ae ao S)) t.toNat (Tb.mk [] [] [] false);
 let q4:=ah 96 [(0,pp 0),(2,aa t),(3,ab aR l),(5,pp 1),(8,pp 2),(9,aa (wz (n+1))),(10,.bool a),(11,aa i),(12,pp 3),(13,aa 0)];
 let q7:List Prop:=[0<=t/\t<(x.ak.length:Int),td 1 t (ae az x.ak)=[ab aq q5]];.ai q7 (bif decide (i<(↑(List.length q5):Int)) then .ai q7 (.ai [0<=i/\i<(↑(List.length q5):Int),td 2 i (ae aq
  q5)=[aa (Rw.id q),ab aG (Rw.cells q)]] (.ai [0<=t/\t<(S.length:Int),td 4 t (ae ao S)=(ao q3)] (.bind (dL (bw (Tb.name q3) (ae aY (Tb.av q3)) (ae aJ (Tb.uniq q3)) (Tb.root q3)) q6 (af
  aE (ae aE o.aS))) fun y0=>cz 117 [.agg (ao q3),.agg [aa (Rw.id q),ab aG (Rw.cells q)],ab aE o.aS] [] (.bool y0) [] [] (bif !y0 then nz (ah 96 [(0,pp 0),(2,aa t),(3,ab aR l),(5,pp 1),(8,pp
  2),(9,aa n),(10,.bool a),(11,aa (wz (i+1)))]) q1 else .bind (a&&nG (List.getD S t.toNat (Tb.mk [] [] [] false)) q6 l) fun y1=> .ai [St.mk q4 [some ([ab ao S,ab az x.ak,aa x.next,ab aK ops,ab
  aJ ids,ab encStr ow],183),some (aK o,178),some ([aa 0,aa 0,aa 0,.dsl 0 true [],.dsl 0 true []],185),some ([aa (Rw.id q),ab aG (Rw.cells q)],53)] []=St.mk q4 q2 [],aN Pz 1 (blk Pz pj 2) (St.mk q4
  q2 []) (Ex.exit 2) (St.mk (ah 96 [(0,pp 0),(2,aa t),(3,ab aR l),(5,pp 1),(8,pp 2),(9,aa (wz (n+1))),(10,.bool y1),(11,aa i)]) q1 [])] (nz (ah 96 [(0,pp 0),(2,aa t),(3,ab aR l),(5,pp 1),(8,pp
  2),(9,aa (wz (n+1))),(10,.bool y1),(11,aa (wz (i+1)))]) q1))))) else .done (Ex.exit 0,St.mk (ah 96 [(5,pp 1),(8,pp 2),(9,aa n),(10,.bool a)]) q1 [])):T _):=fz
theorem wtT (S:aO) (x:aA) (ops:List Op') (ids:List Int) (ow:List (List UInt8)) (o:Op') (t:Int) (l:List Sx):fnT (Jd S x ops ids ow o t l) 0 pj [.ptr 0 0,.agg (aK o),.int .i64 t,ab aR l] [wB S x ops ids ow]=(
 let q:Hp:=[some ([ab ao S,ab az x.ak,aa x.next,ab aK ops,ab aJ ids,ab encStr ow],183),some (aK o,178),some ([aa 0,aa 0,aa 0,.dsl 0 true [],.dsl 0 true []],185)];
 let q1:Hp:=[some ([ab ao S,ab az x.ak,aa x.next,ab aK ops,ab aJ ids,ab encStr ow],183)];
 let q2:=ah 96 [(0,pp 0),(2,aa t),(3,ab aR l),(5,pp 1),(8,pp 2),(9,aa 0),(10,.bool true),(11,aa 0)];
 let q3:V:= .agg [aa 15,aa 0,aa 0,.dsl 0 false [],.dsl 0 false []];
 let q4:V:= .agg [aa 0,aa 0,aa 0,.dsl 0 false [],.dsl 0 false []];.bind (nq (List.getD S t.toNat (Tb.mk [] [] [] false)) o.aS l (List.getD x.ak t.toNat []) 0 true) fun y0=> .ai [St.mk q2 q []=St.mk q2 q [],aN Pz 1
  (blk Pz pj 0) (St.mk q2 q []) (Ex.exit 0) (St.mk (ah 96 [(5,pp 1),(8,pp 2),(9,aa (y0.1:Int)),(10,.bool y0.2)]) q [])] (bif decide ((y0.1:Int)>0) then bif !y0.2==o.gV then dz q3 q1 [] else dz q4 q1 [] else bif
  !false==o.gV then dz q3 q1 [] else dz q4 q1 []):T _):=fz
variable {S x ops ids ow}
theorem Rx (hS:∀t∈S,t.av.length<=1048576) {o:Op'} {t:Nat} (ht:t<S.length) {l:List Sx} (hl:∀m∈l,0<=bf (S.getD t .zero) m.aC) (cD:l.length<=1048576) (n i:Int) {r:Rw} (hr:iX (S.getD t .zero) r):∀(m k:Nat) (a:Bool),k+m=l.length ->
  aT Pz 1 (lp Pz pj 2) (Ik S x ops ids ow o t l n a i r k) (.exit 2) (zb S x ops ids ow o t l n (a&&nG (S.getD t .zero) r (l.drop k)) i)
 | 0,k,a,hk=>by
  have hk:k=l.length:=hk;subst hk;rw [List.drop_length,show (a&&nG (S.getD t .zero) r [])=a by simp [nG]];refine bt (Rz S x ops ids ow o (t:Nat) l n a i r (l.length:Nat)) ?_;simp only [sz];exact ⟨fun h=>ag,fun _=>⟨rfl,rfl⟩⟩
 | m+1,k,a,hk=>by
  have eU:=bN.at S .zero t 4 ht rfl;have ki:k<l.length:=ag;have LC:=eE.at l .zero k 3 ki rfl;have w1:=cX k;have hm:=hl _ (bH .zero ki);have bQ:=hr.at _ hm;have sH:=bP.at r.cells [] _ 1 bQ rfl;have oc:=qj (S.getD t .zero) (l.getD k .zero).aC (hS _ (bH .zero ht));have Yx:=BQ (r.cells.getD (bf (S.getD t .zero) (l.getD k .zero).aC).toNat []) (l.getD k .zero).val (hr.s.d _ (bH [] bQ));have ih:=fun a=>Rx (o:=o) hS ht hl cD n i hr m (k+1) a ag;have e:nG (S.getD t .zero) r (l.drop k)=(decide (r.cells.getD (bf (S.getD t .zero) (l.getD k .zero).aC).toNat []=(l.getD k .zero).val)&&nG (S.getD t .zero) r (l.drop (k+1))):=by
   rw [iE .zero ki];rfl
  rw [e];refine bt (Rz S x ops ids ow o (t:Nat) l n a i r (k:Nat)) ?_;simp only [Tb.zero,Sx.zero] at *;simp only [sz,w1,bN.af,eE.af,bP.af,bu.af,cH,Int.toNat_natCast];refine ⟨fun _=>⟨fun ha=>⟨⟨aB,eU⟩,⟨aB,LC⟩,?_⟩,fun ha => ?_⟩,fun h=>ag⟩
  ·rintro y rfl;refine ⟨oc,⟨aB,sH⟩,⟨aB,LC⟩,?_⟩;rintro y1 rfl;refine ⟨Yx,?_⟩;have:=ih (decide (r.cells.getD (bf (S.getD t ⟨[],[],[],false⟩) (l.getD k ⟨[],[],[]⟩).aC).toNat []=(l.getD k ⟨[],[],[]⟩).val));rw [ha,Bool.true_and];exact this
  ·have:=ih false;rw [ha,Bool.false_and];exact this
theorem IL (hx:iY S x) {o:Op'} {t:Nat} (ht:t<S.length) (hc:∀c∈o.aS,ll c) (hw:o.aS.length<=1048576) {l:List Sx} (hl:∀m∈l,0<=bf (S.getD t .zero) m.aC) (cD:l.length<=1048576):∀(m i n:Nat) (a:Bool),i+m=(x.ak.getD t []).length->n<=i ->
  aT Pz 1 (lp Pz pj 0) (zb S x ops ids ow o t l n a i) (.exit 0) (RA S x ops ids ow o (nq (S.getD t .zero) o.aS l ((x.ak.getD t []).drop i) n a).1 (nq (S.getD t .zero) o.aS l ((x.ak.getD t []).drop i) n a).2)
 | 0,i,n,a,hi,hn=>by
  have gO:t<x.ak.length:=by rw [hx.h.n];exact ht
  have jD:=bB.at x.ak [] t 1 gO rfl;have hi:i=(x.ak.getD t []).length:=hi;subst hi;rw [List.drop_length];refine bt (Ry S x ops ids ow o (t:Nat) l (n:Nat) a ((x.ak.getD t []).length:Nat)) ?_;simp only [sz,bB.af,Int.toNat_natCast];exact ⟨⟨aB,jD⟩,fun h=>ag,fun _=>⟨rfl,rfl⟩⟩
 | m+1,i,n,a,hi,hn=>by
  have gO:t<x.ak.length:=by rw [hx.h.n];exact ht
  have jD:=bB.at x.ak [] t 1 gO rfl;have eU:=bN.at S .zero t 4 ht rfl;have bA:i<(x.ak.getD t []).length:=ag;have Fu:=bI.at (x.ak.getD t []) ⟨0,[]⟩ i 2 bA rfl;have hlen:=hx.l _ (bH [] gO);have w1:=cX i;have w2:=cX n;have xN:=hx.rw ht _ (bH ⟨0,[]⟩ bA);have ha:=Dx xN hc hw;have h2:=fun n a=>Rx (x:=x) (ops:=ops) (ids:=ids) (ow:=ow) (o:=o) (fun t h=>(hx.h.k t h).1) ht hl cD n (i:Nat) xN l.length 0 a ag;have eZ:=IL hx ht hc hw hl cD m (i+1) (n+1) (a&&nG (S.getD t .zero) ((x.ak.getD t []).getD i ⟨0,[]⟩) l) ag ag;have xS:=IL hx ht hc hw hl cD m (i+1) n a ag ag;have e:nq (S.getD t .zero) o.aS l ((x.ak.getD t []).drop i) n a=bif dL (S.getD t .zero) ((x.ak.getD t []).getD i ⟨0,[]⟩) o.aS then nq (S.getD t .zero) o.aS l ((x.ak.getD t []).drop (i+1)) (n+1) (a&&nG (S.getD t .zero) ((x.ak.getD t []).getD i ⟨0,[]⟩) l) else nq (S.getD t .zero) o.aS l ((x.ak.getD t []).drop (i+1)) n a:=by
   rw [iE ⟨0,[]⟩ bA];rfl
  rw [e];refine bt (Ry S x ops ids ow o (t:Nat) l (n:Nat) a (i:Nat)) ?_;simp only [Tb.zero] at *;simp only [sz,w1,w2,bB.af,bN.af,bI.af,cp.af,bP.af,cH,Int.toNat_natCast];refine ⟨⟨aB,jD⟩,fun _=>⟨⟨aB,jD⟩,⟨aB,Fu⟩,⟨aB,eU⟩,?_⟩,fun h=>ag⟩;rintro y rfl;refine ⟨ha,fun h => ?_,fun h => ?_⟩
  ·have h':(!dL (S.getD t ⟨[],[],[],false⟩) ((x.ak.getD t []).getD i ⟨0,[]⟩) o.aS)=true:=h;rw [show dL (S.getD t ⟨[],[],[],false⟩) ((x.ak.getD t []).getD i ⟨0,[]⟩) o.aS=false by simpa using h',cond_false];exact xS
  ·have h':(!dL (S.getD t ⟨[],[],[],false⟩) ((x.ak.getD t []).getD i ⟨0,[]⟩) o.aS)=false:=h;rw [show dL (S.getD t ⟨[],[],[],false⟩) ((x.ak.getD t []).getD i ⟨0,[]⟩) o.aS=true by simpa using h',cond_true];rintro y1 rfl;exact ⟨⟨a8,.aV (h2 _ _)⟩,eZ⟩
theorem aU5 (hx:iY S x) {o:Op'} {t:Nat} (ht:t<S.length) (hc:∀c∈o.aS,ll c) (hw:o.aS.length<=1048576) {l:List Sx} (hl:∀m∈l,0<=bf (S.getD t .zero) m.aC) (cD:l.length<=1048576):
  au Pz pj [.ptr 0 0,.agg (aK o),.int .i64 t,ab aR l] [wB S x ops ids ow] ⟨.agg (bL (wy (S.getD t .zero) (x.ak.getD t []) o l)),[wB S x ops ids ow],[]⟩:=by
 have h:=IL hx ht hc hw hl cD (ops:=ops) (ids:=ids) (ow:=ow) (x.ak.getD t []).length 0 0 true ag ag;rw [List.drop_zero] at h;unfold wy;refine a6 (wtT S x ops ids ow o (t:Nat) l) ?_;simp only [Tb.zero] at *;simp only [sz,Int.toNat_natCast];intro y e;rw [<- e] at h;refine ⟨⟨a8,.aV h⟩,fun h0=>⟨fun h1 => ?_,fun h1 => ?_⟩,fun h0=>⟨fun h1 => ?_,fun h1 => ?_⟩⟩;all_goals
  rw [<- e];unfold IJ
 ·rw [(eo:decide (0<y.1)=true),Bool.true_and,show (y.2 != o.gV)=true from h1];exact aH
 ·rw [(eo:decide (0<y.1)=true),Bool.true_and,show (y.2 != o.gV)=false from h1];exact aH
 ·rw [(eo:decide (0<y.1)=false),Bool.false_and,show (false != o.gV)=true from h1];exact aH
 ·rw [(eo:decide (0<y.1)=false),Bool.false_and,show (false != o.gV)=false from h1];exact aH
end
def chL (S:aO) (o:Op') (t:Nat) (l:List Sx):List Int->aA->aA×Int
 | [],x=>(x,0)
 | id::rest,x=>bif o.kind==5 then chL S o t l rest (iv x t (cE (x.ak.getD t []) id).toNat)
  else bif o.kind==4 then
   (bif (mutRW (S.getD t .zero) o.cC ((x.ak.getD t []).getD (cE (x.ak.getD t []) id).toNat ⟨0,[]⟩)).2 != 0 then (x,(mutRW (S.getD t .zero) o.cC ((x.ak.getD t []).getD (cE (x.ak.getD t []) id).toNat ⟨0,[]⟩)).2)
   else chL S o t l rest (iw x t (mutRW (S.getD t .zero) o.cC ((x.ak.getD t []).getD (cE (x.ak.getD t []) id).toNat ⟨0,[]⟩)).1))
  else (bif (setRL (S.getD t .zero) l ((x.ak.getD t []).getD (cE (x.ak.getD t []) id).toNat ⟨0,[]⟩)).2 != 0 then (x,(setRL (S.getD t .zero) l ((x.ak.getD t []).getD (cE (x.ak.getD t []) id).toNat ⟨0,[]⟩)).2)
   else chL S o t l rest (iw x t (setRL (S.getD t .zero) l ((x.ak.getD t []).getD (cE (x.ak.getD t []) id).toNat ⟨0,[]⟩)).1))
def rV (S:aO) (x:aA) (o:Op') (t:Nat) (l:List Sx):aA×bV:=
 ((chL S o t l (ew (S.getD t .zero) (x.ak.getD t []) o.aS) x).1,bif (chL S o t l (ew (S.getD t .zero) (x.ak.getD t []) o.aS) x).2==0 then ⟨0,(ew (S.getD t .zero) (x.ak.getD t []) o.aS).length,0,[],[]⟩ else jy (chL S o t l (ew (S.getD t .zero) (x.ak.getD t []) o.aS) x).2)
section
variable (S:aO) (x:aA) (ops:List Op') (ids:List Int) (ow:List (List UInt8))
def HN (o:Op') (t:Int) (l:List Sx) (js:List Int) (i:Int):St:=⟨ah 134 [(0,.ptr 0 0),(2,.int .i64 t),(3,ab aR l),(5,.ptr 1 0),(8,.ptr 2 0),(9,ab aJ js),(10,.int .i64 i)],[wB S x ops ids ow,some (aK o,iQ),some (lN,fT)],[0]⟩
def JQ (js:List Int):St:=⟨ah 134 [(8,.ptr 1 0),(9,ab aJ js)],[wB S x ops ids ow,some (lN,fT)],[0]⟩
def JO (c:Int):St:=⟨ah 134 [(8,.ptr 1 0)],[wB S x ops ids ow,some ([.int .i64 c,.int .i64 0,.int .i64 0,.dsl 0 true [],.dsl 0 true []],fT)],[0]⟩
def ak9:Ex->Kp:=fun ex=>match ex with
 | .normal=>{keep:=[0,2,3,5,8,9,10],wr:=[0]}
 | .ret=>{keep:=[8],wr:=[0]}
 | _=>{keep:=[8,9],wr:=[0]}
theorem JP (S:aO) (x:aA) (ops:List Op') (ids:List Int) (ow:List (List UInt8)) (o:Op') (t:Int) (l:List Sx) (js:List Int) (i:Int):bp (tW S x ops ids ow) 1 ak9 (lp Pz sa 0) (HN S x ops ids ow o t l js i)=(
 let q7:=af az (ae az x.ak);
 let q:=List.getD q7 t.toNat [];
 let q1:=List.getD (af ao (ae ao S)) t.toNat (Tb.mk [] [] [] false);
 let q2:=af aq (ae aq q);
 let q3:=ah 134 [(0,pp 0),(2,aa t),(3,ab aR l),(5,pp 1),(8,pp 2),(9,ab aJ js),(10,aa (wz (i+1)))];
 let q4:=Rw.mk (0:Int) [];
 let q5:List Prop:=[0<=t/\t<(x.ak.length:Int),td 1 t (ae az x.ak)=[ab aq q]];
 let q6:=List.getD (af aJ (ae aJ js)) i.toNat (0:Int);
 let q8:=bw (Tb.name q1) (ae aY (Tb.av q1)) (ae aJ (Tb.uniq q1)) (Tb.root q1);
 let q9:List Prop:=[0<=t/\t<(S.length:Int),td 4 t (ae ao S)=(ao q1)];
 let bK:=aA.mk q7 x.next;bif decide (i<(js.length:Int)) then .ai q5 (.ai [0<=i/\i<(js.length:Int),td 1 i (ae aJ js)=[aa q6]] (.bind (cE q2 q6) fun y0=>
 let bS:=List.getD q2 y0.toNat q4;
 let dS:=Rw.cells bS;
 let cF:List Prop:=[0<=y0/\y0<(↑(List.length q):Int),td 2 y0 (ae aq q)=[aa (Rw.id bS),ab aG dS]];
 let dq:=Rw.mk (Rw.id bS) (af aG (ae aG dS));cz 140 [ab aq q,aa q6] [] (aa y0) [] [] (bif o.kind==5 then .bind (iv bK t.toNat y0.toNat) fun y1=>cz 139 [.agg (aM x),aa t,aa y0] [] (.agg (aM
  y1)) [] [] (.done (Ex.normal,St.mk q3 [some ([ab ao S,ab az y1.ak,aa y1.next,ab aK ops,ab aJ ids,ab encStr ow],183),some (aK o,178),some ([aa 0,aa 0,aa 0,.dsl 0 true [],.dsl 0 true []],185)]
  [0])) else .ai q9 (.ai q5 (.ai cF (.bind (setRL q8 (af aR (ae aR l)) dq) fun y2=>cz 256 [.agg (ao q1),.agg [aa (Rw.id bS),ab aG dS],ab aR l] [] (.tup [.agg (aq y2.1),aa y2.2]) [] [] (bif
  o.kind==4 then .ai q9 (.ai q5 (.ai cF (.bind (mutRW q8 (af bR (ae bR o.cC)) dq) fun y3=>cz 258 [.agg (ao q1),.agg [aa (Rw.id bS),ab aG dS],ab bR o.cC] [] (.tup [.agg (aq y3.1),aa y3.2])
  [] [] (bif y3.2 != 0 then .done (Ex.ret,St.mk (ah 134 [(8,pp 1)]) [some ([ab ao S,ab az x.ak,aa x.next,ab aK ops,ab aJ ids,ab encStr ow],183),some ([aa y3.2,aa 0,aa 0,.dsl 0 true [],.dsl 0 true
  []],185)] [0]) else .bind (iw bK t.toNat (Rw.mk y3.1.id (af aG (ae aG y3.1.cells)))) fun y4=>cz 131 [.agg (aM x),aa t,.agg (aq y3.1)] [] (.agg (aM y4)) [] [] (.done (Ex.normal,St.mk q3 [some ([ab
  ao S,ab az y4.ak,aa y4.next,ab aK ops,ab aJ ids,ab encStr ow],183),some (aK o,178),some ([aa 0,aa 0,aa 0,.dsl 0 true [],.dsl 0 true []],185)] [0])))))) else bif y2.2 != 0 then .done (Ex.ret,
  St.mk (ah 134 [(8,pp 1)]) [some ([ab ao S,ab az x.ak,aa x.next,ab aK ops,ab aJ ids,ab encStr ow],183),some ([aa y2.2,aa 0,aa 0,.dsl 0 true [],.dsl 0 true []],185)] [0]) else .bind (iw bK
  t.toNat (Rw.mk y2.1.id (af aG (ae aG y2.1.cells)))) fun y5=>cz 131 [.agg (aM x),aa t,.agg (aq y2.1)] [] (.agg (aM y5)) [] [] (.done (Ex.normal,St.mk q3 [some ([ab ao S,ab az y5.ak,aa y5.next,
  ab aK ops,ab aJ ids,ab encStr ow],183),some (aK o,178),some ([aa 0,aa 0,aa 0,.dsl 0 true [],.dsl 0 true []],185)] [0]))))))))) else .done (Ex.exit 0,St.mk (ah 134 [(8,pp 1),(9,ab aJ js)]) [some
  ([ab ao S,ab az x.ak,aa x.next,ab aK ops,ab aJ ids,ab encStr ow],183),some ([aa 0,aa 0,aa 0,.dsl 0 true [],.dsl 0 true []],185)] [0]):T _):=kz
def Z7 (o:Op') (t:Int) (l:List Sx):Nat->St->Option b8:=fun id s=>match id,s.tm.get 9,s.tm.get 10 with
 | 0,.dsl _ _ cs,.int _ 0=>some ⟨chL S o t.toNat l (af aJ cs) x,fun y=> .two {keep:=[0,2,3,5,8,9,10],wr:=[0]} (HN S x ops ids ow o t l (af aJ cs) 0) (y.2==0) (.exit 0) (JQ S y.1 ops ids ow (af aJ cs)) .ret (JO S y.1 ops ids ow y.2)⟩
 | _,_,_=>none
def RU (o:Op') (t:Int) (l:List Sx):Env:={P:=Pz,vw:=cj,res:=vP S x ops ids ow,ls:=Z7 S x ops ids ow o t l}
theorem Tz (S:aO) (x:aA) (ops:List Op') (ids:List Int) (ow:List (List UInt8)) (o:Op') (t:Int) (l:List Sx):fnT (RU S x ops ids ow o t l) 0 sa [.ptr 0 0,.agg (aK o),.int .i64 t,ab aR l] [wB S x ops ids ow]=(
 let q:Hp:=[some ([ab ao S,ab az x.ak,aa x.next,ab aK ops,ab aJ ids,ab encStr ow],183),some (aK o,178),some ([aa 0,aa 0,aa 0,.dsl 0 true [],.dsl 0 true []],185)];
 let q1:=List.getD (af ao (ae ao S)) t.toNat (Tb.mk [] [] [] false);
 let q2:=List.getD (af az (ae az x.ak)) t.toNat [];.ai [0<=t/\t<(S.length:Int),td 4 t (ae ao S)=(ao q1)] (.ai [0<=t/\t<(x.ak.length:Int),td 1 t (ae az x.ak)=[ab aq q2]] (.bind
  (ew (bw (Tb.name q1) (ae aY (Tb.av q1)) (ae aJ (Tb.uniq q1)) (Tb.root q1)) (af aq (ae aq q2)) (af aE (ae aE o.aS))) fun y0=>
 let q4:=af aJ (ae aJ y0);
 let q3:=ah 134 [(0,pp 0),(2,aa t),(3,ab aR l),(5,pp 1),(8,pp 2),(9,ab aJ q4),(10,aa 0)];cz 53 [.agg (ao q1),ab aq q2,ab aE o.aS] [] (ab aJ y0) [] [] (.bind (chL S o t.toNat l q4 x) fun y1
  =>
 let q5:Hp:=[some ([ab ao S,ab az y1.1.ak,aa y1.1.next,ab aK ops,ab aJ ids,ab encStr ow],183)];.ai [St.mk (ah 134 [(0,pp 0),(2,aa t),(3,ab aR l),(5,pp 1),(8,pp 2),(9,ab aJ y0),
  (10,aa 0)]) q [0]=St.mk q3 q [0]] (bif y1.2==0 then .ai [aN Pz 1 (blk Pz sa 0) (St.mk q3 q [0]) (Ex.exit 0) (St.mk (ah 134 [(8,pp 1),(9,ab aJ q4)]) [some ([ab ao S,ab az y1.1.ak,aa y1.1.next,ab
  aK ops,ab aJ ids,ab encStr ow],183),some ([aa 0,aa 0,aa 0,.dsl 0 true [],.dsl 0 true []],185)] [0])] (dz (.agg [aa 0,aa (↑(List.length q4):Int),aa 0,.dsl 0 false [],.dsl 0 false []]) q5 [0]) else .ai
  [aN Pz 1 (blk Pz sa 0) (St.mk q3 q [0]) Ex.ret (St.mk (ah 134 [(8,pp 1)]) [some ([ab ao S,ab az y1.1.ak,aa y1.1.next,ab aK ops,ab aJ ids,ab encStr ow],183),some ([aa y1.2,aa 0,aa 0,.dsl 0
  true [],.dsl 0 true []],185)] [0])] (dz (.agg [aa y1.2,aa 0,aa 0,.dsl 0 false [],.dsl 0 false []]) q5 [0]))))):T _):=fz
variable {S x ops ids ow}
def qi (S:aO) (o:Op') (t:Nat) (l:List Sx):List Int->aA->Prop
 | [],_=>True
 | id::rest,x=>iY S x/\0<=cE (x.ak.getD t []) id /\
  (o.kind=5->qi S o t l rest (iv x t (cE (x.ak.getD t []) id).toNat)) /\
  (o.kind=4->(mutRW (S.getD t .zero) o.cC ((x.ak.getD t []).getD (cE (x.ak.getD t []) id).toNat ⟨0,[]⟩)).2=0->fv (mutRW (S.getD t .zero) o.cC ((x.ak.getD t []).getD (cE (x.ak.getD t []) id).toNat ⟨0,[]⟩)).1/\qi S o t l rest (iw x t (mutRW (S.getD t .zero) o.cC ((x.ak.getD t []).getD (cE (x.ak.getD t []) id).toNat ⟨0,[]⟩)).1)) /\
  (o.kind≠5->o.kind≠4->(setRL (S.getD t .zero) l ((x.ak.getD t []).getD (cE (x.ak.getD t []) id).toNat ⟨0,[]⟩)).2=0->fv (setRL (S.getD t .zero) l ((x.ak.getD t []).getD (cE (x.ak.getD t []) id).toNat ⟨0,[]⟩)).1/\qi S o t l rest (iw x t (setRL (S.getD t .zero) l ((x.ak.getD t []).getD (cE (x.ak.getD t []) id).toNat ⟨0,[]⟩)).1))
def nH (c:Int):Ex:=bif c==0 then .exit 0 else .ret
def z1 (S:aO) (ops:List Op') (ids:List Int) (ow:List (List UInt8)) (js:List Int) (r:aA×Int):St:=bif r.2==0 then JQ S r.1 ops ids ow js else JO S r.1 ops ids ow r.2
theorem iY.rwM (hx:iY S x) {t:Nat} (ht:t<S.length) {r:Rw} (hr:r∈x.ak.getD t []):qa (S.getD t .zero) r:=
 ⟨(hx.rw ht r hr).n,hx.d _ (bH [] (by rw [hx.h.n];exact ht)) r hr⟩
theorem JR {o:Op'} {t:Nat} (ht:t<S.length) {l:List Sx} (hl:∀m∈l,m.val.length<=1000/\0<=bf (S.getD t .zero) m.aC) (cD:l.length<=1048576) (hm:∀m∈o.cC,rJ m/\0<=bf (S.getD t .zero) m.aC) (xE:o.cC.length<=1048576) (js:List Int) (hj:js.length<=1048576):∀(m i:Nat) (x:aA),i+m=js.length->qi S o t l (js.drop i) x ->
  aT Pz 1 (lp Pz sa 0) (HN S x ops ids ow o t l js i) (nH (chL S o t l (js.drop i) x).2) (z1 S ops ids ow js (chL S o t l (js.drop i) x))
 | 0,i,x,hi,_=>by
  have hi:i=js.length:=hi;subst hi;rw [List.drop_length];refine bt (JP S x ops ids ow o (t:Nat) l js (js.length:Nat)) ?_;simp only [sz];exact ⟨fun h=>ag,fun _=>⟨rfl,rfl⟩⟩
 | m+1,i,x,hi,hp=>by
  have bA:i<js.length:=ag;have uX:=fa.at js 0 i 1 bA rfl;rw [iE 0 bA] at hp ⊢;generalize hid:js.getD i 0=id at *;obtain ⟨hx,h0,Yi,sR,sQ⟩:=hp;have gO:t<x.ak.length:=by rw [hx.h.n];exact ht
  have jD:=bB.at x.ak [] t 1 gO rfl;have eU:=bN.at S .zero t 4 ht rfl;have hlen:=hx.l _ (bH [] gO);have gn:(cE (x.ak.getD t []) id).toNat<(x.ak.getD t []).length:=(uT (p:=fun r:Rw=>r.id==id) Rw.zero h0).1;have qG:((cE (x.ak.getD t []) id).toNat:Int)=cE (x.ak.getD t []) id:=Int.toNat_of_nonneg h0;have LD:=bI.at (x.ak.getD t []) ⟨0,[]⟩ _ 2 gn rfl;have Yj:=Bx (x.ak.getD t []) id ag;have hM:=hx.rwM ht (bH ⟨0,[]⟩ gn);have jm:=hx.m _ (bH .zero ht);have Yv:=Qr jm hM hl cD;have L9:=aH5 jm hM hm xE;have AN:=Ks hx.h.s t _ gO gn;rw [qG] at AN;have xK:=fun r hr=>Pk hx.h.s t r hr gO ag;have w1:=cX i;have ih:=fun x hp=>JR ht hl cD hm xE js hj m (i+1) x ag hp;rw [chL];refine bt (JP S x ops ids ow o (t:Nat) l js (i:Nat)) ?_;simp only [Tb.zero] at *;generalize eD:(x.ak.getD t []).getD (cE (x.ak.getD t []) id).toNat ⟨0,[]⟩=row at *;simp only [sz,w1,bB.af,bN.af,bI.af,eE.af,cp.af,bP.af,fa.af,cH,Int.toNat_natCast,hid];refine ⟨fun _=>⟨⟨aB,jD⟩,⟨aB,uX⟩,?_⟩,fun h=>ag⟩;rintro y rfl;simp only [eD];refine ⟨Yj,fun h5 => ?_,fun h5=>⟨⟨aB,eU⟩,⟨aB,jD⟩,⟨aB,LD⟩,?_⟩⟩
  ·rintro y1 rfl;rw [show (o.kind==5)=true by simpa using h5,cond_true];exact ⟨AN,ih _ (Yi (by simpa using h5))⟩
  ·rintro y2 e2;rw [show (o.kind==5)=false by simpa using h5,cond_false];have n5:o.kind≠5:=by simpa using h5
   refine ⟨by rw [e2];exact Yv,fun h4=>⟨⟨aB,eU⟩,⟨aB,jD⟩,⟨aB,LD⟩,?_⟩,fun h4 => ?_⟩
   ·rw [show (o.kind==4)=true by simpa using h4,cond_true];have sR:=sR (by simpa using h4);rintro y3 e3;have e3:y3=mutRW (S.getD t ⟨[],[],[],false⟩) o.cC row:=e3;rw [<- e3] at L9 sR ⊢;refine ⟨L9,fun h => ?_,fun h => ?_⟩
    ·rw [h,cond_true];have hb:(y3.2==0)=false:=by simpa [bne] using h
     unfold nH z1;simp only [hb,cond_false];exact ⟨rfl,rfl⟩
    ·rw [h,cond_false];have sR:=sR dT;rintro y4 rfl;exact ⟨xK _ sR.1,ih _ sR.2⟩
   ·rw [show (o.kind==4)=false by simpa using h4,cond_false];have sQ:=sQ n5 (by simpa using h4);have e2:y2=setRL (S.getD t ⟨[],[],[],false⟩) l row:=e2;rw [<- e2] at sQ ⊢;refine ⟨fun h => ?_,fun h => ?_⟩
    ·rw [h,cond_true];have hb:(y2.2==0)=false:=by simpa [bne] using h
     unfold nH z1;simp only [hb,cond_false];exact ⟨rfl,rfl⟩
    ·rw [h,cond_false];have sQ:=sQ dT;rintro y4 rfl;exact ⟨xK _ sQ.1,ih _ sQ.2⟩
theorem TB (hx:iY S x) {o:Op'} {t:Nat} (ht:t<S.length) (hc:∀c∈o.aS,ll c) (hw:o.aS.length<=1048576) {l:List Sx} (hl:∀m∈l,m.val.length<=1000/\0<=bf (S.getD t .zero) m.aC) (cD:l.length<=1048576) (hm:∀m∈o.cC,rJ m/\0<=bf (S.getD t .zero) m.aC) (xE:o.cC.length<=1048576)
  (hp:qi S o t l (ew (S.getD t .zero) (x.ak.getD t []) o.aS) x):
  au Pz sa [.ptr 0 0,.agg (aK o),.int .i64 t,ab aR l] [wB S x ops ids ow] ⟨.agg (bL (rV S x o t l).2),[wB S (rV S x o t l).1 ops ids ow],[0]⟩:=by
 have gO:t<x.ak.length:=by rw [hx.h.n];exact ht
 have jD:=bB.at x.ak [] t 1 gO rfl
 have eU:=bN.at S .zero t 4 ht rfl
 have hlen:=hx.l _ (bH [] gO)
 have Yw:=aL3 (hx.rw ht) hc hw ag
 have hle:=Qq (S.getD t .zero) (x.ak.getD t []) o.aS
 have h:=JR ht hl cD hm xE (ew (S.getD t .zero) (x.ak.getD t []) o.aS) ag (ops:=ops) (ids:=ids) (ow:=ow) (ew (S.getD t .zero) (x.ak.getD t []) o.aS).length 0 x ag (by rw [List.drop_zero];exact hp)
 rw [List.drop_zero] at h
 unfold rV
 refine a6 (Tz S x ops ids ow o (t:Nat) l) ?_
 simp only [Tb.zero] at *
 generalize hj:ew (S.getD t ⟨[],[],[],false⟩) (x.ak.getD t []) o.aS=js at *
 simp only [sz,bB.af,bN.af,bI.af,cp.af,fa.af,cH,Int.toNat_natCast]
 refine ⟨⟨aB,eU⟩,⟨aB,jD⟩,?_⟩
 rw [hj]
 rintro y0 rfl
 refine ⟨Yw,?_⟩
 rintro y e
 have e:y=chL S o t l y0 x:=e
 rw [<- e] at h ⊢
 unfold nH z1 at h
 refine ⟨a8,fun h1=>⟨.aV ?_,?_⟩,fun h1=>⟨.aV ?_,?_⟩⟩
 ·rw [(cR:(y.2==0)=true)] at h
  exact h
 ·rw [(cR:(y.2==0)=true)];exact aH
 ·rw [(cR:(y.2==0)=false)] at h
  exact h
 ·rw [(cR:(y.2==0)=false)];exact aH
end
abbrev oY:Nat:=156
section
variable (S:aO) (x:aA) (ops:List Op') (ids:List Int) (ow:List (List UInt8))
def Ac (i t:Nat) (o:Op') (l:List Sx):aA×bV:=
 bif o.kind==1 then pN S x ops ids i t l
 else bif o.kind==2 then (x,vX (S.getD t .zero) (x.ak.getD t []) o)
 else bif o.kind==6 then (x,wy (S.getD t .zero) (x.ak.getD t []) o l)
 else rV S x o t l
def dW (i:Nat):aA×bV:=
 bif im S (ops.getD i .zero) != 0 then (x,jy (im S (ops.getD i .zero)))
 else bif (ops.getD i .zero).kind==7||(ops.getD i .zero).kind==9 then (x,jy 0)
 else bif (ops.getD i .zero).kind==8 then (x,jy 16)
 else bif (ops.getD i .zero).kind==10 then (x,bif ow.any (fun w=>w==(ops.getD i .zero).name) then jy 0 else jy 14)
 else bif (gh ops ids (ops.getD i .zero).row).2 != 0 then (x,jy (gh ops ids (ops.getD i .zero).row).2)
 else Ac S x ops ids i (dk S (ops.getD i .zero).table).toNat (ops.getD i .zero) (gh ops ids (ops.getD i .zero).row).1
def Hq:cy:=fun f vs hp=>
 bif Nat.beq f pd then (match vs with | [.ptr 0 0,.int _ i,.int _ t,.dsl _ _ qs]=>some ⟨pN S x ops ids i.toNat t.toNat (af aR qs),fun y=>⟨.agg (bL y.2),[wB S y.1 ops ids ow],[0]⟩⟩ | _=>none) else
 bif Nat.beq f nV then (match vs with | [.ptr 0 0,.agg [.int _ kd,.str tn,.str nm,.dsl _ _ ws,.dsl _ _ rs,.dsl _ _ ms,.dsl _ _ os,.bool tl],.int _ t]=>some ⟨vX (S.getD t.toNat .zero) (x.ak.getD t.toNat []) (s9 kd tn nm ws rs ms os tl),fun y=>⟨.agg (bL y),[wB S x ops ids ow],[]⟩⟩ | _=>none) else
 bif Nat.beq f pj then (match vs with | [.ptr 0 0,.agg [.int _ kd,.str tn,.str nm,.dsl _ _ ws,.dsl _ _ rs,.dsl _ _ ms,.dsl _ _ os,.bool tl],.int _ t,.dsl _ _ qs]=>some ⟨wy (S.getD t.toNat .zero) (x.ak.getD t.toNat []) (s9 kd tn nm ws rs ms os tl) (af aR qs),fun y=>⟨.agg (bL y),[wB S x ops ids ow],[]⟩⟩ | _=>none) else
 bif Nat.beq f sa then (match vs with | [.ptr 0 0,.agg [.int _ kd,.str tn,.str nm,.dsl _ _ ws,.dsl _ _ rs,.dsl _ _ ms,.dsl _ _ os,.bool tl],.int _ t,.dsl _ _ qs]=>some ⟨rV S x (s9 kd tn nm ws rs ms os tl) t.toNat (af aR qs),fun y=>⟨.agg (bL y.2),[wB S y.1 ops ids ow],[0]⟩⟩ | _=>none) else vP S x ops ids ow f vs hp
def IP:Env:={P:=Pz,vw:=cj,res:=Hq S x ops ids ow}
def yv (o:Op') (k:Int):St:=⟨ah 105 [(0,.ptr 0 0),(4,.ptr 1 0),(5,.ptr 2 0),(7,.int .i64 k)],[wB S x ops ids ow,some (lN,fT),some (aK o,iQ)],[]⟩
def D0:St:=⟨ah 105 [(4,.ptr 1 0)],[wB S x ops ids ow,some (lN,fT)],[]⟩
def DZ:St:=⟨ah 105 [(4,.ptr 1 0)],[wB S x ops ids ow,some ([.int .i64 0,.int .i64 0,.int .i64 0,.dsl 0 true [],.dsl 0 true []],fT)],[]⟩
def Nr:Ex->Kp:=fun ex=>match ex with
 | .normal=>{keep:=[0,4,5,7]}
 | _=>{keep:=[4]}
theorem Ve (S:aO) (x:aA) (ops:List Op') (ids:List Int) (ow:List (List UInt8)) (o:Op') (k:Int):bp (IP S x ops ids ow) 1 Nr (lp Pz oY 1) (yv S x ops ids ow o k)=(
 let q:Hp:=[some ([ab ao S,ab az x.ak,aa x.next,ab aK ops,ab aJ ids,ab encStr ow],183),some ([aa 0,aa 0,aa 0,.dsl 0 true [],.dsl 0 true []],185)];
 let q1:=ae encStr ow;bif decide (k<(ow.length:Int)) then .ai [0<=k/\k<(ow.length:Int),td 1 k q1=[.str (List.getD (af encStr q1) k.toNat [])]] (bif List.getD (af encStr q1) k.toNat []==o.name then .done (Ex.ret,
  St.mk (ah 105 [(4,pp 1)]) q []) else nz (ah 105 [(0,pp 0),(4,pp 1),(5,pp 2),(7,aa (wz (k+1)))]) [some ([ab ao S,ab az x.ak,aa x.next,ab aK ops,ab aJ ids,ab encStr ow],183),some ([aa 0,aa
  0,aa 0,.dsl 0 true [],.dsl 0 true []],185),some (aK o,178)]) else .done (Ex.exit 1,St.mk (ah 105 [(4,pp 1)]) q []):T _):=kz
def aa1 (o:Op'):Nat->St->Option b8:=fun id _=>match id with
 | 1=>some ⟨ow.any (fun w=>w==o.name),fun y=> .two {keep:=[0,4,5,7]} (yv S x ops ids ow o 0) y .ret (DZ S x ops ids ow) (.exit 1) (D0 S x ops ids ow)⟩
 | _=>none
def R1 (o:Op'):Env:={P:=Pz,vw:=cj,res:=Hq S x ops ids ow,ls:=aa1 S x ops ids ow o}
theorem Vf (S:aO) (x:aA) (ops:List Op') (ids:List Int) (ow:List (List UInt8)) (i:Int):fnT (R1 S x ops ids ow (ops.getD i.toNat .zero)) 0 oY [.ptr 0 0,.int .i64 i] [wB S x ops ids ow]=(
 let q7:=Op'.mk (0:Int) [] [] [] [] [] [] false;
 let q:=List.getD (af aK (ae aK ops)) i.toNat q7;
 let q1:Hp:=[some ([ab ao S,ab az x.ak,aa x.next,ab aK ops,ab aJ ids,ab encStr ow],183)];
 let q2:Hp:=[some ([ab ao S,ab az x.ak,aa x.next,ab aK ops,ab aJ ids,ab encStr ow],183),some ([aa 0,aa 0,aa 0,.dsl 0 true [],.dsl 0 true []],185),some (aK (List.getD ops i.toNat q7),178)];
 let q3:=s9 (Op'.kind q) (Op'.table q) (Op'.name q) (ae aE (Op'.aS q)) (ae aR (Op'.row q)) (ae bR (Op'.cC q)) (ae encStr (Op'.av q)) (Op'.gV q);
 let q4:=St.mk (ah 105 [(4,pp 1)]) [some ([ab ao S,ab az x.ak,aa x.next,ab aK ops,ab aJ ids,ab encStr ow],183),some ([aa 0,aa 0,aa 0,.dsl 0 true [],.dsl 0 true []],185)] [];
 let q5:=ah 105 [(0,pp 0),(4,pp 1),(5,pp 2),(7,aa 0)];
 let q6:V:= .agg [aa 0,aa 0,aa 0,.dsl 0 false [],.dsl 0 false []];
 let q8:=af ao (ae ao S);.ai [0<=i/\i<(ops.length:Int),td 8 i (ae aK ops)=aK q] (.bind (im q8 q3) fun y0=>cz 222 [.agg [ab ao S],.agg (aK q)] [] (aa y0) [] [] (bif y0 != 0 then dz (.agg [aa y0,
  aa 0,aa 0,.dsl 0 false [],.dsl 0 false []]) q1 [] else bif Op'.kind q==7 then dz q6 q1 [] else bif Op'.kind q==9 then dz q6 q1 [] else bif Op'.kind q==8 then dz (.agg [aa 16,aa 0,aa 0,.dsl 0 false [],.dsl 0 false []])
  q1 [] else bif Op'.kind q==10 then .bind (List.any ow fun w=>w==Op'.name (List.getD ops i.toNat Op'.zero)) fun y1=> .ai [St.mk q5 [some ([ab ao S,ab az x.ak,aa x.next,ab aK ops,ab aJ ids,ab encStr
  ow],183),some ([aa 0,aa 0,aa 0,.dsl 0 true [],.dsl 0 true []],185),some (aK q,178)] []=St.mk q5 q2 []] (bif y1 then .ai [aN Pz 1 (blk Pz oY 1) (St.mk q5 q2 []) Ex.ret q4] (dz q6 q1 []) else .ai [aN Pz 1
  (blk Pz oY 1) (St.mk q5 q2 []) (Ex.exit 1) q4] (dz (.agg [aa 14,aa 0,aa 0,.dsl 0 false [],.dsl 0 false []]) q1 [])) else .bind (dk q8 (Op'.table q)) fun y2=>
 let q9:=List.getD S y2.toNat (Tb.mk [] [] [] false);
 let bK:=List.getD x.ak y2.toNat [];cz 113 [.agg [ab ao S],.str (Op'.table q)] [] (aa y2) [] [] (.bind (gh ops ids (af aR (ae aR (Op'.row q)))) fun y3=>
 let bS:=af aR (ae aR y3.1);cz 223 [pp 0,ab aR (Op'.row q)] q1 (.tup [ab aR y3.1,aa y3.2]) q1 [] (bif y3.2 != 0 then dz (.agg [aa y3.2,aa 0,aa 0,.dsl 0 false [],.dsl 0 false []]) q1 [] else bif Op'.kind q
  == 1 then .bind (pN S x ops ids i.toNat y2.toNat bS) fun y4=>
 let cF:Hp:=[some ([ab ao S,ab az y4.1.ak,aa y4.1.next,ab aK ops,ab aJ ids,ab encStr ow],183)];
 let dq:V:= .agg [aa y4.2.code,aa y4.2.count,aa y4.2.id,ab encStr y4.2.av,ab aq y4.2.rows];cz 224 [pp 0,aa i,aa y2,ab aR y3.1] q1 dq cF [0] (dz dq cF [0]) else bif Op'.kind q==2 then .bind (vX q9 bK
  q3) fun y5=>
 let dS:V:= .agg [aa y5.code,aa y5.count,aa y5.id,ab encStr y5.av,ab aq y5.rows];cz 225 [pp 0,.agg (aK q),aa y2] q1 dS q1 [] (dz dS q1 []) else bif Op'.kind q==6 then .bind (wy q9 bK q3 bS) fun y6=>
 let gT:V:= .agg [aa y6.code,aa y6.count,aa y6.id,ab encStr y6.av,ab aq y6.rows];cz 226 [pp 0,.agg (aK q),aa y2,ab aR y3.1] q1 gT q1 [] (dz gT q1 []) else .bind (rV S x q3 y2.toNat bS) fun y7=>
 let jN:Hp:=[some ([ab ao S,ab az y7.1.ak,aa y7.1.next,ab aK ops,ab aJ ids,ab encStr ow],183)];
 let jr:V:= .agg [aa y7.2.code,aa y7.2.count,aa y7.2.id,ab encStr y7.2.av,ab aq y7.2.rows];cz 227 [pp 0,.agg (aK q),aa y2,ab aR y3.1] q1 jr jN [0] (dz jr jN [0]))))):T _):=fz
variable {S x ops ids ow}
theorem Vh (hn:ow.length<=1048576) (o:Op'):
  (ow.any (fun w=>w==o.name)=true->aT Pz 1 (lp Pz oY 1) (yv S x ops ids ow o 0) .ret (DZ S x ops ids ow)) /\
  (ow.any (fun w=>w==o.name)=false->aT Pz 1 (lp Pz oY 1) (yv S x ops ids ow o 0) (.exit 1) (D0 S x ops ids ow)):=by
 have e:ow.any (fun w=>w==o.name)= !allN (fun j=> !(ow.getD j []==o.name)) ow.length 0:=by
  rw [<- Bool.not_not (ow.any _)]
  congr 1
  rw [List.not_any_eq_all_not]
  exact (qf (fun w=> !(w==o.name)) [] ow).symm
 rw [e]
 have hs:=ju (E:=IP S x ops ids ow) (m:=1) (nf:=Nr) (c:=lp Pz oY 1) (st:=fun j=>yv S x ops ids ow o (j:Nat)) (n:=ow.length) (fun j=> !(ow.getD j []==o.name)) (ex:= .exit 1) (ex':= .ret) (sx:=D0 S x ops ids ow) (sr:=DZ S x ops ids ow) follows named (by simp) (by simp) (fun j=>Ve S x ops ids ow o (j:Nat)) (fun j hj => ?_) ?_ ow.length 0 (by simp)
 ·exact ⟨fun h=>hs.2 (by rw [Bool.not_eq_true'] at h;exact h),fun h=>hs.1 (by rw [Bool.not_eq_false'] at h;exact h)⟩
 ·have aD:=cx.at ow [] j 1 hj rfl
  have w1:=cX j
  simp only [sz,w1,cx.af,Int.toNat_natCast]
  refine ⟨fun _=>⟨⟨aB,aD⟩,fun h => ?_,fun h => ?_⟩,fun h=>ag⟩
  ·rw [(dT:(ow.getD j []==o.name)=true)];rfl
  ·rw [(dT:(ow.getD j []==o.name)=false)];rfl
 ·simp only [sz]
  exact ⟨fun h=>ag,fun _=>rfl⟩
structure CJ (S:aO) (x:aA) (ops:List Op') (ids:List Int) (i:Nat) (o:Op'):Prop where
 sz:Jk o
 k:1<=o.kind/\o.kind<=10
 c:o.kind<7->∀c∈o.aS,ll c
 r:o.kind<7->∀s∈o.row,Dq s
 l:o.kind<7->im S o=0->(gh ops ids o.row).2=0->(∀m∈(gh ops ids o.row).1,m.val.length<=1000/\0<=bf (S.getD (dk S o.table).toNat .zero) m.aC)/\(gh ops ids o.row).1.length<=1048576
 m:o.kind<7->im S o=0->∀m∈o.cC,rJ m/\0<=bf (S.getD (dk S o.table).toNat .zero) m.aC
 p:o.kind=3\/o.kind=4\/o.kind=5->im S o=0->(gh ops ids o.row).2=0->qi S o (dk S o.table).toNat (gh ops ids o.row).1 (ew (S.getD (dk S o.table).toNat .zero) (x.ak.getD (dk S o.table).toNat []) o.aS) x
theorem au9 {S:aO} {o:Op'} (h:im S o=0) (hk:o.kind<7):0<=dk S o.table:=by
 unfold im at h;rw [show decide (7<=o.kind)=false by simpa using hk,cond_false] at h;by_cases h0:dk S o.table<0
 ·simp only [decide_eq_true h0,cond_true] at h;cases h
 ·omega
theorem Vc (hx:iY S x) (hn:ops.length<=1048576) (hid:ids.length=ops.length) (hw:ow.length<=1048576) (i:Nat) (hi:i<ops.length) (hp:CJ S x ops ids i (ops.getD i .zero)):
  au Pz oY [.ptr 0 0,.int .i64 i] [wB S x ops ids ow] ⟨.agg (bL (dW S x ops ids ow i).2),[wB S (dW S x ops ids ow i).1 ops ids ow],[0]⟩:=by
 have aD:=iM.at ops .zero i 8 hi rfl;have hS:S.length<=1048576:=by rw [<- hx.h.n];exact hx.h.s.n
 have A3:=fun h=>aL9 (S:=S) (x:=x) (ow:=ow) hn hid (ops.getD i .zero).row h hp.sz.rw;have dy:=Vh (S:=S) (x:=x) (ops:=ops) (ids:=ids) hw (ops.getD i .zero);unfold dW Ac;refine a6 (Vf S x ops ids ow (i:Nat)) ?_;generalize ho:ops.getD i .zero=o at *;have Mh:=at1 hS (fun t h=>(hx.m t h).n) hp.sz;have gm:=Ay S o.table hS;simp only [Tb.zero,Op'.zero] at *;simp only [sz,iM.af,bN.af,eE.af,Ow,Int.toNat_natCast,ho];refine ⟨⟨aB,aD⟩,?_⟩;rintro y0 e0;have e0:y0=im S o:=e0;rw [<- e0] at Mh ⊢;refine ⟨Mh,fun h0 => ?_,fun h0=>⟨fun h7 => ?_,fun h7=>⟨fun h9 => ?_,fun h9=>⟨fun h8 => ?_,fun h8=>⟨fun iH => ?_,fun iH => ?_⟩⟩⟩⟩⟩
 ·rw [(eo:(y0 != 0)=true),cond_true];exact aH
 ·rw [(eo:(y0 != 0)=false),cond_false,show (o.kind==7)=true by simpa using h7,Bool.true_or,cond_true];exact aH
 ·rw [(eo:(y0 != 0)=false),cond_false,show (o.kind==7)=false by simpa using h7,show (o.kind==9)=true by simpa using h9,Bool.or_true,cond_true];exact aH
 ·rw [(eo:(y0 != 0)=false),cond_false,show (o.kind==7)=false by simpa using h7,show (o.kind==9)=false by simpa using h9,Bool.or_false,cond_false,show (o.kind==8)=true by simpa using h8,cond_true];exact aH
 ·rw [(eo:(y0 != 0)=false),cond_false,show (o.kind==7)=false by simpa using h7,show (o.kind==9)=false by simpa using h9,Bool.or_false,cond_false,show (o.kind==8)=false by simpa using h8,cond_false,show (o.kind==10)=true by simpa using iH,cond_true];rintro y1 rfl;refine ⟨a8,fun h1=>⟨.aV (dy.1 h1),?_⟩,fun h1=>⟨.aV (dy.2 h1),?_⟩⟩
  ·rw [h1];exact aH
  ·rw [h1];exact aH
 ·have k7:o.kind≠7:=by simpa using h7
  have k8:o.kind≠8:=by simpa using h8
  have k9:o.kind≠9:=by simpa using h9
  have k10:o.kind≠10:=by simpa using iH
  have hk:=hp.k;have bQ:o.kind<7:=ag;have Gi:y0=0:=eo;have AY:im S o=0:=by rw [<- e0,Gi]
  have Ms:=au9 AY bQ;have om:(dk S o.table).toNat<S.length:=(uT (p:=fun t:Tb=>t.name==o.table) Tb.zero Ms).1;have qG:((dk S o.table).toNat:Int)=dk S o.table:=Int.toNat_of_nonneg Ms;rw [(eo:(y0 != 0)=false),cond_false,show (o.kind==7)=false by simpa using h7,show (o.kind==9)=false by simpa using h9,Bool.or_false,cond_false,show (o.kind==8)=false by simpa using h8,cond_false,show (o.kind==10)=false by simpa using iH,cond_false];rintro y2 rfl;refine ⟨gm,?_⟩;rintro y3 e3;have e3:y3=gh ops ids o.row:=e3;have A3:=A3 (hp.r bQ);have gn:=hp.l bQ AY;have A0:=fun h=>hp.p h AY;rw [<- e3] at A3 gn A0 ⊢;refine ⟨A3,fun h3 => ?_,fun h3 => ?_⟩
  ·rw [show (y3.2 != 0)=true by simpa using h3,cond_true];exact aH
  rw [show (y3.2 != 0)=false by simpa using h3,cond_false];obtain ⟨fJ,eh⟩:=gn (by simpa using h3);have A0:=fun h=>A0 h (by simpa using h3);refine ⟨fun h1 => ?_,fun h1=>⟨fun h2 => ?_,fun h2=>⟨fun h6 => ?_,fun h6 => ?_⟩⟩⟩
  ·have L3:=Zq (ow:=ow) hx.w hn hid i _ hi om y3.1 fJ eh;rw [qG] at L3;rw [(cR:(o.kind==1)=true),cond_true];rintro y4 rfl;exact ⟨L3,aH⟩
  ·have og:=aM6 (ops:=ops) (ids:=ids) (ow:=ow) hx om (hp.c bQ) hp.sz.wh hp.sz.cl;rw [qG] at og;rw [(cR:(o.kind==1)=false),cond_false,(iu:(o.kind==2)=true),cond_true];rintro y4 rfl;exact ⟨og,aH⟩
  ·have A8:=aU5 (ops:=ops) (ids:=ids) (ow:=ow) hx om (hp.c bQ) hp.sz.wh (fun m hm=>(fJ m hm).2) eh;rw [qG] at A8;rw [(cR:(o.kind==1)=false),cond_false,(iu:(o.kind==2)=false),cond_false,show (o.kind==6)=true by simpa using h6,cond_true];rintro y4 rfl;exact ⟨A8,aH⟩
  ·have k1:o.kind≠1:=cR;have k2:o.kind≠2:=iu;have k6:o.kind≠6:=by simpa using h6
   have xt:=TB (ops:=ops) (ids:=ids) (ow:=ow) hx om (hp.c bQ) hp.sz.wh fJ eh (hp.m bQ AY) hp.sz.mu (A0 ag);rw [qG] at xt;rw [(cR:(o.kind==1)=false),cond_false,(iu:(o.kind==2)=false),cond_false,show (o.kind==6)=false by simpa using h6,cond_false];rintro y4 rfl;exact ⟨xt,aH⟩
end
abbrev jA:Nat:=75
def wC:List V:=[.dsl 0 true [],.int .i64 0]
def trL (S:aO) (ops:List Op') (ids:List Int) (ow:List (List UInt8)):Nat->Nat->aA->List bV->aA×List bV×Bool
 | 0,_,x,out=>(x,out,true)
 | k+1,i,x,out=>bif (dW S x ops ids ow i).2.code != 0 then ((dW S x ops ids ow i).1,out++[(dW S x ops ids ow i).2],false)
  else trL S ops ids ow k (i+1) (dW S x ops ids ow i).1 (out++[(dW S x ops ids ow i).2])
def nxL:List Int->Int->Int
 | [],n=>n
 | d::ds,n=>nxL ds (max n (d+1))
def zi (S:aO) (x:aA) (ids:List Int) (r:aA×List bV×Bool):aA×List bV×Bool:=
 bif r.2.2 then
  (bif ka S ⟨(dR r.1).ak,nxL ids (dR r.1).next⟩ != 0 then (x,r.2.1++[jy (ka S ⟨(dR r.1).ak,nxL ids (dR r.1).next⟩)],false)
   else (⟨(dR r.1).ak,nxL ids (dR r.1).next⟩,r.2.1,true))
 else (x,r.2.1,false)
def dt (S:aO) (x:aA) (ops:List Op') (ow:List (List UInt8)):aA×List bV×Bool:=zi S x (idsF ops x.next) (trL S ops (idsF ops x.next) ow ops.length 0 x [])
section
variable (S:aO) (x:aA) (ops:List Op') (ids:List Int) (ow:List (List UInt8))
def PF:cy:=fun f vs hp=>
 bif Nat.beq f oY then (match vs with | [.ptr 0 0,.int _ i]=>some ⟨dW S x ops ids ow i.toNat,fun y=>⟨.agg (bL y.2),[wB S y.1 ops ids ow],[0]⟩⟩ | _=>none) else
 bif Nat.beq f uE then (match vs with | [.dsl _ _ cs,.int _ n]=>some ⟨idsF (af aK cs) n,fun y=>⟨ab aJ y,[],[]⟩⟩ | _=>none) else
 bif Nat.beq f cA then (match vs with | [_,.agg [.dsl _ _ ts,.int _ n]]=>some ⟨dR ⟨af az ts,n⟩,fun y=>⟨.agg (aM y),[],[]⟩⟩ | _=>none) else
 bif Nat.beq f xa then (match vs with | [.agg [.dsl _ _ cs],.agg [.dsl _ _ ts,.int _ n]]=>some ⟨ka (af ao cs) ⟨af az ts,n⟩,fun y=>⟨.int .i64 y,[],[]⟩⟩ | _=>none) else Hq S x ops ids ow f vs hp
def zt:Env:={P:=Pz,vw:=cj,res:=PF S x ops ids ow}
def tD (x0:aA) (out:List bV) (i:Int):St:=⟨ah 87 [(2,ab aK ops),(4,.ptr 0 0),(5,.ptr 1 0),(8,.ptr 2 0),(11,.ptr 3 0),(12,.sl 4 0 out.length false),(13,.int .i64 i)],[some ([ab ao S],rB),some (aM x0,da),some (wC,da),wB S x ops ids ow,some ([.aw (ae bL out)],fT)],[]⟩
def Rf (x0:aA) (out:List bV):St:=⟨ah 87 [(4,.ptr 0 0),(5,.ptr 1 0),(8,.ptr 2 0),(11,.ptr 3 0),(12,.sl 4 0 out.length false)],[some ([ab ao S],rB),some (aM x0,da),some (wC,da),wB S x ops ids ow,some ([.aw (ae bL out)],fT)],[]⟩
def Cx (x0:aA) (out:List bV):St:=⟨ah 87 [(8,.ptr 0 0),(9,.sl 1 0 out.length false),(10,.bool false)],[some (aM x0,da),some ([.aw (ae bL out)],fT)],[]⟩
def aq2:Ex->Kp:=fun ex=>match ex with
 | .normal=>{keep:=[2,4,5,8,11,12,13]}
 | .ret=>{keep:=[8,9,10]}
 | _=>{keep:=[4,5,8,11,12]}
def Ii (x0:aA) (out:List bV) (y:aA) (i:Int):St:=⟨ah 87 [(4,.ptr 0 0),(5,.ptr 1 0),(8,.ptr 2 0),(11,.ptr 3 0),(12,.sl 4 0 out.length false),(15,.ptr 5 0),(16,.int .i64 i)],[some ([ab ao S],rB),some (aM x0,da),some (wC,da),wB S x ops ids ow,some ([.aw (ae bL out)],fT),some (aM y,da)],[]⟩
def Rg (x0:aA) (out:List bV) (y:aA):St:=⟨ah 87 [(4,.ptr 0 0),(5,.ptr 1 0),(8,.ptr 2 0),(12,.sl 3 0 out.length false),(15,.ptr 4 0)],[some ([ab ao S],rB),some (aM x0,da),some (wC,da),some ([.aw (ae bL out)],fT),some (aM y,da)],[]⟩
def aq3:Ex->Kp:=fun ex=>match ex with
 | .normal=>{keep:=[4,5,8,11,12,15,16]}
 | _=>{keep:=[4,5,8,12,15]}
def ae8:Nat->St->Option b8:=fun id s=>match id,s.tm.get 11,s.tm.get 12,s.tm.get 15 with
 | 0,_,_,_=>some ⟨trL S ops (idsF ops x.next) ow ops.length 0 x [],fun y=> .two {keep:=[2,4,5,8,11,12,13],eu:=[12]} (tD S x ops (idsF ops x.next) ow x [] 0) y.2.2 (.exit 0) (Rf S y.1 ops (idsF ops x.next) ow x y.2.1) .ret (Cx x y.2.1)⟩
 | 2,.ptr w 0,.sl o 0 _ _,.ptr b 0=>match s.hp[w]?,s.hp[o]?,s.hp[b]? with
  | some (some ([_,.dsl _ _ wt,.int _ wn,_,_,_],_)),some (some ([.aw os],_)),some (some ([.dsl _ _ ts,.int _ n],_))=>some ⟨(),fun _=> .one {keep:=[4,5,8,11,12,15,16]} (Ii S ⟨af az wt,wn⟩ ops (idsF ops x.next) ow x (af bL os) ⟨af az ts,n⟩ 0) (.exit 2) (Rg S x (af bL os) ⟨af az ts,nxL (idsF ops x.next) n⟩)⟩
  | _,_,_=>none
 | _,_,_,_=>none
def Su:Env:={P:=Pz,vw:=cj,res:=PF S x ops ids ow,ls:=ae8 S x ops ow}
theorem Ra (S:aO) (x:aA) (ops:List Op') (ids:List Int) (ow:List (List UInt8)) (x0:aA) (out:List bV) (i:Int):bp (zt S x ops ids ow) 0 aq2 (lp Tryz.prog jA 0) (tD S x ops ids ow x0 out i)=(
 let q2:=ae ao S;
 let q3:=ae aK ops;
 let q4:=ae aJ ids;
 let q5:=ae encStr ow;
 let q:List V:=[.dsl S.length false q2,.dsl (List.length (aA.ak x)) false (ae az (aA.ak x)),.int .i64 (aA.next x),.dsl ops.length false q3,.dsl ids.length false q4,.dsl ow.length false q5];
 let q1:List V:=[.dsl (List.length (aA.ak x0)) false (ae az (aA.ak x0)),.int .i64 (aA.next x0)];
 let q6:=out.length+1;bif decide (i<(↑ops.length:Int)) then .bind (dW S x ops ids ow (Int.toNat i)) fun y0=>
 let q7:List V:=[.aw (ae bL out++[.int .i64 (bV.code y0.2),.int .i64 (bV.count y0.2),.int .i64 (bV.id y0.2),.dsl (List.length (bV.av y0.2)) false (ae encStr (bV.av y0.2)),.dsl (List.length (bV.rows y0.2))
  false (ae aq (bV.rows y0.2))])];
 let q8:List V:=[.dsl S.length false q2,.dsl (List.length (aA.ak y0.1)) false (ae az (aA.ak y0.1)),.int .i64 (aA.next y0.1),.dsl ops.length false q3,.dsl ids.length false q4,.dsl ow.length false q5];.ai [au
  Tryz.prog 156 [.ptr 0 0,.int .i64 i] [some (q,183)] (aF.mk (.agg (bL y0.2)) [some (q8,183)] [0])] (.ai [0=0,List.length (ae bL out)=out.length*5,out.length+1<=9223372036854775807,q6*72<=140737488355328]
  (bif bV.code y0.2 != 0 then .done (Ex.ret,St.mk (ah 87 [(8,.ptr 0 0),(9,.sl 1 0 q6 false),(10,.bool false)]) [some (q1,29),some (q7,185)] []) else .done (Ex.normal,St.mk (ah 87 [(2,.dsl ops.length false q3),(4,.ptr 0
  0),(5,.ptr 1 0),(8,.ptr 2 0),(11,.ptr 3 0),(12,.sl 4 0 q6 false),(13,.int .i64 (IntKind.wrap IntKind.i64 (i+1)))]) [some ([.dsl S.length false q2],25),some (q1,29),some ([.dsl 0 true [],.int .i64 0],29),some (q8,
  183),some (q7,185)] []))) else .done (Ex.exit 0,St.mk (ah 87 [(4,.ptr 0 0),(5,.ptr 1 0),(8,.ptr 2 0),(11,.ptr 3 0),(12,.sl 4 0 out.length false)]) [some ([.dsl S.length false q2],25),some (q1,29),some ([.dsl 0 true
  [],.int .i64 0],29),some (q,183),some ([.aw (ae bL out)],185)] []):T _):=by kernel_rfl
theorem Rb (S:aO) (x:aA) (ops:List Op') (ids:List Int) (ow:List (List UInt8)) (x0:aA) (out:List bV) (y:aA) (i:Int):bp (zt S x ops ids ow) 0 aq3 (lp Pz jA 2) (Ii S x ops ids ow x0 out y i)=(
 let q1:=ae aJ ids;
 let q:=List.getD (af aJ q1) i.toNat (0:Int)+1;bif decide (i<(ids.length:Int)) then .ai [0<=i/\i<(ids.length:Int),td 1 i q1=[aa (List.getD (af aJ q1) i.toNat (0:Int))]] (nz (ah 87 [(4,pp 0),(5,pp
  1),(8,pp 2),(11,pp 3),(12,.sl 4 0 out.length false),(15,pp 5),(16,aa (wz (i+1)))]) [some ([ab ao S],25),some ((aM x0),29),some ([.dsl 0 true [],aa 0],29),some ([ab ao S,ab az x.ak,aa x.next,
  ab aK ops,ab aJ ids,ab encStr ow],183),some ([.aw (ae bL out)],185),some ([ab az y.ak,aa (if wz q>y.next then wz q else y.next)],29)]) else .done (Ex.exit 2,St.mk (ah 87 [(4,pp 0),(5,pp 1),(8,
  pp 2),(12,.sl 3 0 out.length false),(15,pp 4)]) [some ([ab ao S],25),some ((aM x0),29),some ([.dsl 0 true [],aa 0],29),some ([.aw (ae bL out)],185),some ((aM y),29)] []):T _):=kz
theorem trT (S:aO) (x:aA) (ops:List Op') (ids:List Int) (ow:List (List UInt8)):fnT (Su S x ops ids ow) 0 jA [.agg [ab ao S],.agg (aM x),ab aK ops,ab encStr ow] []=(
 let q3:List V:=[.dsl 0 true [],aa 0];
 let q2:=idsF ops x.next;
 let q:Hp:=[some ([ab ao S],25),some ((aM x),29),some (q3,29),some ([ab ao S,ab az x.ak,aa x.next,ab aK ops,ab aJ q2,ab encStr ow],183),some ([.aw []],185)];
 let q1:=ah 87 [(2,ab aK ops),(4,pp 0),(5,pp 1),(8,pp 2),(11,pp 3),(12,.sl 4 0 0 false),(13,aa 0)];.bind (idsF (af aK (ae aK ops)) x.next) fun y0=>cz 155 [ab aK ops,aa x.next] [] (ab aJ y0) []
  [] (.bind (trL S ops q2 ow ops.length 0 x []) fun y1=>
 let q7:=ae bL (y1.2.1);
 let q4:=af bL q7;
 let q5:=aA.mk (af az (ae az y1.1.ak)) y1.1.next;
 let q6:=ah 87 [(4,pp 0),(5,pp 1),(8,pp 2),(11,pp 3),(12,.sl 4 0 (List.length q4) false),(15,pp 5),(16,aa 0)];
 let q8:=ae bL q4;
 let q9:=List.length (y1.2.1);.ai [St.mk q1 [some ([ab ao S],25),some ((aM x),29),some (q3,29),some ([ab ao S,ab az x.ak,aa x.next,ab aK ops,ab aJ y0,ab encStr ow],183),some ([.aw []],
  185)] []=St.mk q1 q []] (bif y1.2.2 then .ai [aN Pz 0 (blk Pz jA 0) (St.mk q1 q []) (Ex.exit 0) (St.mk (ah 87 [(4,pp 0),(5,pp 1),(8,pp 2),(11,pp 3),(12,.sl 4 0 q9 false)]) [some ([ab ao S],25),some ((aM
  x),29),some (q3,29),some ([ab ao S,ab az y1.1.ak,aa y1.1.next,ab aK ops,ab aJ q2,ab encStr ow],183),some ([.aw q7],185)] [])] (.bind (dR q5) fun y2=>
 let cF:=af az (ae az y2.ak);
 let bK:Hp:=[some ([ab ao S],25),some ((aM x),29),some (q3,29),some ([ab ao S,ab az (aA.ak q5),aa (aA.next q5),ab aK ops,ab aJ q2,ab encStr ow],183),some ([.aw q8],185),some ((aM
  (aA.mk cF y2.next)),29)];
 let bS:=aA.mk cF (nxL q2 y2.next);cz 65 [.agg [ab ao S],.agg (aM y1.1)] [] (.agg (aM y2)) [] [] (.bind PUnit.unit fun _=> .ai [St.mk (ah 87 [(4,pp 0),(5,pp 1),(8,pp 2),(11,pp 3),(12,.sl 4 0 q9 false),
  (15,pp 5),(16,aa 0)]) [some ([ab ao S],25),some ((aM x),29),some (q3,29),some ([ab ao S,ab az y1.1.ak,aa y1.1.next,ab aK ops,ab aJ q2,ab encStr ow],183),some ([.aw q7],185),some
  ((aM y2),29)] []=St.mk q6 bK [],aN Pz 0 (blk Pz jA 2) (St.mk q6 bK []) (Ex.exit 2) (St.mk (ah 87 [(4,pp 0),(5,pp 1),(8,pp 2),(12,.sl 3 0 (List.length q4) false),(15,pp 4)]) [some ([ab ao S],25),some
  ((aM x),29),some (q3,29),some ([.aw q8],185),some ((aM bS),29)] [])] (.bind (ka (af ao (ae ao S)) (aA.mk (af az (ae az (aA.ak bS))) (aA.next bS))) fun y4=>cz 68 [.agg [ab ao S],
  .agg (aM bS)] [] (aa y4) [] [] (bif y4 != 0 then .ai [0=0,List.length q8=List.length q4*5,List.length q4+1<=9223372036854775807,(List.length q4+1)*72<=140737488355328] (dz (.tup [.agg (aM x),.dsl
  (List.length q4+1) false (ae bL q4++[aa y4,aa 0,aa 0,.dsl 0 false [],.dsl 0 false []]),.bool false]) [] []) else dz (.tup [.agg (aM bS),ab bL q4,.bool true]) [] [])))) else .ai [aN Pz 0 (blk Pz jA
  0) (St.mk q1 q []) Ex.ret (St.mk (ah 87 [(8,pp 0),(9,.sl 1 0 q9 false),(10,.bool false)]) [some ((aM x),29),some ([.aw q7],185)] [])] (dz (.tup [.agg (aM x),ab bL (y1.2.1),.bool false]) [] []))):T _):=fz
variable {S x ops ids ow}
def zj (S:aO) (ops:List Op') (ids:List Int) (ow:List (List UInt8)):Nat->Nat->aA->Prop
 | 0,_,_=>True
 | k+1,i,x=>iY S x/\CJ S x ops ids i (ops.getD i .zero)/\((dW S x ops ids ow i).2.code=0->zj S ops ids ow k (i+1) (dW S x ops ids ow i).1)
theorem Q8 (x0:aA) (hn:ops.length<=1048576) (hid:ids.length=ops.length) (hw:ow.length<=1048576):∀(k i:Nat) (x:aA) (out:List bV),i+k=ops.length->out.length=i->zj S ops ids ow k i x ->
  ((trL S ops ids ow k i x out).2.2=true->aT Tryz.prog 0 (lp Tryz.prog jA 0) (tD S x ops ids ow x0 out i) (.exit 0) (Rf S (trL S ops ids ow k i x out).1 ops ids ow x0 (trL S ops ids ow k i x out).2.1)) /\
  ((trL S ops ids ow k i x out).2.2=false->aT Tryz.prog 0 (lp Tryz.prog jA 0) (tD S x ops ids ow x0 out i) .ret (Cx x0 (trL S ops ids ow k i x out).2.1))
 | 0,i,x,out,hi,ho,_=>by
  have hi:i=ops.length:=hi
  subst hi
  refine ⟨fun _ => ?_,fun h=>by cases h⟩
  refine bZ (E:=zt S x ops ids ow) follows named (Ra S x ops ids ow x0 out (ops.length:Nat)) ?_
  simp only [ba,T.WP,All,bh,bl,bg]
  exact ⟨fun h=>by omega,fun _=>⟨rfl,rfl⟩⟩
 | k+1,i,x,out,hi,ho,hp=>by
  obtain ⟨hx,hd,pD⟩:=hp
  have bA:i<ops.length:=by omega
  have qI:=Vc hx hn hid hw i bA hd
  have w1:IntKind.i64.wrap ((i:Int)+1)=((i+1:Nat):Int):=bW (by omega)
  have ih:=fun h=>Q8 x0 hn hid hw k (i+1) (dW S x ops ids ow i).1 (out++[(dW S x ops ids ow i).2]) (by omega) (by simp [ho]) (pD h)
  rw [trL]
  have key:∀ {ex:Ex} {s':St},((dW S x ops ids ow i).2.code=0->aT Tryz.prog 0 (lp Tryz.prog jA 0) (tD S (dW S x ops ids ow i).1 ops ids ow x0 (out++[(dW S x ops ids ow i).2]) ((i+1:Nat):Int)) ex s')->((dW S x ops ids ow i).2.code≠0->Ex.ret=ex/\Cx x0 (out++[(dW S x ops ids ow i).2])=s')->aT Tryz.prog 0 (lp Tryz.prog jA 0) (tD S x ops ids ow x0 out i) ex s':=by
   intro ex s' k1 k2
   refine bZ (E:=zt S x ops ids ow) follows named (Ra S x ops ids ow x0 out (i:Nat)) ?_
   simp only [ba,T.WP,All,bh,bl,bg,w1,sZ.length,Int.toNat_natCast,ho]
   refine ⟨fun _ => ?_,fun h=>by omega⟩
   rintro y e
   rw [<- e] at qI k1 k2
   refine ⟨qI,aB,fun h => ?_,fun h => ?_⟩
   ·obtain ⟨e1,e2⟩:=k2 (by simpa using h)
    refine ⟨e1,?_⟩
    rw [<- e2]
    simp only [Cx,dF,bL,ab,List.length_append,List.length_singleton,ho]
    rfl
   ·have:=k1 (by simpa using h)
    simp only [tD,dF,bL,ab,List.length_append,List.length_singleton,ho] at this ⊢
    exact this
  by_cases h0:(dW S x ops ids ow i).2.code=0
  ·rw [show ((dW S x ops ids ow i).2.code != 0)=false by simpa using h0,cond_false]
   obtain ⟨eZ,xS⟩:=ih h0
   exact ⟨fun h=>key (fun _=>eZ h) (fun h=>absurd h0 h),fun h=>key (fun _=>xS h) (fun h=>absurd h0 h)⟩
  ·rw [show ((dW S x ops ids ow i).2.code != 0)=true by simpa using h0,cond_true]
   exact ⟨(fun h=>by cases h),fun _=>key (fun h=>absurd h h0) (fun _=>⟨rfl,rfl⟩)⟩
theorem Re (S:aO) (ops:List Op') (ids:List Int) (ow:List (List UInt8)):∀(k i:Nat) (x:aA) (out:List bV),(trL S ops ids ow k i x out).2.1.length<=out.length+k
 | 0,_,_,_=>Nat.le_refl _
 | k+1,i,x,out=>by
  rw [trL];cases (dW S x ops ids ow i).2.code != 0
  ·have:=Re S ops ids ow k (i+1) (dW S x ops ids ow i).1 (out++[(dW S x ops ids ow i).2]);rw [List.length_append,List.length_singleton] at this;simp only [cond_false];omega
  ·simp only [cond_true,List.length_append,List.length_singleton];omega
theorem Q9 (x0:aA) (out:List bV) (hn:ids.length<=1048576) (hb:∀d∈ids,0<=d/\d<=2000000000):∀(k i:Nat) (y:aA),i+k=ids.length ->
  aT Pz 0 (lp Pz jA 2) (Ii S x ops ids ow x0 out y i) (.exit 2) (Rg S x0 out ⟨y.ak,nxL (ids.drop i) y.next⟩)
 | 0,i,y,hi=>by
  have hi:i=ids.length:=hi;subst hi;rw [List.drop_length];refine bt (Rb S x ops ids ow x0 out y (ids.length:Nat)) ?_;simp only [sz];exact ⟨fun h=>ag,fun _=>⟨rfl,rfl⟩⟩
 | k+1,i,y,hi=>by
  have bA:i<ids.length:=ag;have aD:=fa.at ids 0 i 1 bA rfl;have hd:=hb _ (bH 0 bA);have w1:=cX i;have w2:wz (ids.getD i 0+1)=ids.getD i 0+1:=du ag;have ih:=Q9 x0 out hn hb k (i+1) ⟨y.ak,max y.next (ids.getD i 0+1)⟩ ag;rw [iE 0 bA];have e:max y.next (ids.getD i 0+1)=if ids.getD i 0+1>y.next then ids.getD i 0+1 else y.next:=by split <;> omega
  have hl:nxL (ids.getD i 0::ids.drop (i+1)) y.next=nxL (ids.drop (i+1)) (max y.next (ids.getD i 0+1)):=rfl
  rw [hl];rw [e] at ih ⊢;refine bt (Rb S x ops ids ow x0 out y (i:Nat)) ?_;simp only [sz,w1,fa.af,Int.toNat_natCast,w2];refine ⟨fun _=>⟨⟨aB,aD⟩,?_⟩,fun h=>ag⟩;exact ih
end
section
variable {x:aA} {ops:List Op'} {ow:List (List UInt8)}
theorem aS2 (hn:ops.length<=1048576) (hw:ow.length<=1048576) (mY:0<=x.next/\x.next<=1000000000) (hp:zj aI ops (idsF ops x.next) ow ops.length 0 x)
  (hq:∀r,trL aI ops (idsF ops x.next) ow ops.length 0 x []=r->r.2.2=true->(∃a b c n,r.1=⟨[a,b,c],n⟩/\kE a b c)/\eG aI ⟨(dR r.1).ak,nxL (idsF ops x.next) (dR r.1).next⟩)
  (hid:(idsF ops x.next).length=ops.length) (LZ:∀d∈idsF ops x.next,0<=d/\d<=2000000000):
  au Pz jA [.agg [ab ao aI],.agg (aM x),ab aK ops,ab encStr ow] [] ⟨.tup [.agg (aM (dt aI x ops ow).1),ab bL (dt aI x ops ow).2.1,.bool (dt aI x ops ow).2.2],[],[]⟩:=by
 have mV:=Zb ops x.next hn mY.1 mY.2
 have h0:=Q8 x hn hid hw ops.length 0 x [] ag rfl hp
 have h2:=fun y out z=>Q9 (S:=aI) (x:=y) (ops:=ops) (ow:=ow) x out ag LZ (idsF ops x.next).length 0 z ag
 have sT:∀z a b c n,z=⟨[a,b,c],n⟩->kE a b c->au Pz cA [.agg [ab ao aI],.agg (aM z)] [] ⟨.agg (aM (dR z)),[],[]⟩:=by
  rintro _ a b c n rfl h
  exact aD2 h
 have cN:∀z,eG aI z->au Pz xa [.agg [ab ao aI],.agg (aM z)] [] ⟨.int .i64 (ka aI z),[],[]⟩:=fun z h=>Uk h (by unfold p9;decide) (by unfold nE;decide)
 have hlen:=Re aI ops (idsF ops x.next) ow ops.length 0 x []
 unfold dt zi
 generalize aI=S at *
 refine a6 (trT S x ops (idsF ops x.next) ow) ?_
 simp only [sz,iM.af,bB.af,bN.af,sZ.af,sZ.length]
 generalize idsF ops x.next=ids at *
 rintro y0 rfl
 refine ⟨mV,?_⟩
 rintro y1 e1
 have hq:=hq y1 e1.symm
 rw [<- e1] at h0 hlen ⊢
 rw [List.length_nil] at hlen
 refine ⟨rfl,fun hb=>⟨.aV (h0.1 hb),?_⟩,fun hb=>⟨.aV (h0.2 hb),?_⟩⟩
 ·obtain ⟨⟨a,b,c,n,ha,h3⟩,hS⟩:=hq hb
  have sT:=sT y1.1 a b c n ha h3
  have cN:=cN _ hS
  have h2:=h2 y1.1 y1.2.1 (dR y1.1)
  rw [hb,cond_true]
  rintro y2 e2
  have e2:y2=dR y1.1:=e2
  rw [<- e2] at sT cN h2 ⊢
  refine ⟨sT,?_⟩
  rintro _ -
  refine ⟨⟨a8,.aV h2⟩,?_⟩
  rintro y4 e4
  have e4:y4=ka S ⟨y2.ak,nxL y0 y2.next⟩:=e4
  rw [<- e4] at cN ⊢
  refine ⟨cN,fun h4 => ?_,fun h4 => ?_⟩
  ·rw [show (y4 != 0)=true by simpa using h4,cond_true]
   refine ⟨aB,?_,rfl,by simp⟩
   simp only [ab,dF,bL,jy,List.length_append,List.length_singleton]
   rfl
  ·rw [show (y4 != 0)=false by simpa using h4,cond_false];exact aH
 ·rw [hb,cond_false];exact aH
end
structure lV (t:Tb):Prop where
 pl:∀c∈t.av,0<=bf t c.name/\t.av.getD (bf t c.name).toNat .zero=c
 mx:∀c∈t.av,c.max<=8
 n:t.av.length<=1000
structure dh (t:Tb) (r:Rw):Prop where
 n:r.cells.length=t.av.length
 d:∀i,i<t.av.length->cq (t.av.getD i .zero).kind (r.cells.getD i [])/\dn (t.av.getD i .zero) (r.cells.getD i [])=0
theorem xg {c:aL} {d:aQ} (h:dn c d=0):c.min<=d.length/\(d.length:Int)<=c.max:=by
 unfold dn at h;cases h1:(decide (0<d.length) && !((d.getD 0 .zero).kind==c.kind)) <;> rw [h1] at h
 ·rw [cond_false] at h;cases h2:(!bC d.length c.min c.max) <;> rw [h2] at h
  ·unfold bC at h2;simp at h2;omega
  ·simp at h
 ·simp at h
theorem dh.len {t:Tb} {r:Rw} (ht:lV t) (h:dh t r):∀d∈r.cells,d.length<=8:=by
 intro d hd;obtain ⟨i,hi,rfl⟩:=List.getElem_of_mem hd;have iJ:i<t.av.length:=by rw [<- h.n];exact hi
 have h1:=xg (h.d i iJ).2;have h2:=ht.mx _ (bH .zero iJ);have e:r.cells.getD i []=r.cells[i]:=by rw [List.getD_eq_getElem?_getD,List.getElem?_eq_getElem hi,Option.getD_some]
 rw [e] at h1;omega
theorem dh.set {t:Tb} {r:Rw} (h:dh t r) {k:Nat} (hk:k<t.av.length) {v:aQ} (hv:cq (t.av.getD k .zero).kind v) (hf:dn (t.av.getD k .zero) v=0):dh t ⟨r.id,r.cells.set k v⟩:=by
 refine ⟨by show (List.set _ _ _).length=_;rw [List.length_set];exact h.n,fun i hi => ?_⟩;show cq _ (List.getD (r.cells.set k v) i [])/\dn _ (List.getD (r.cells.set k v) i [])=0;rw [sC (by rw [h.n];exact hk)];split
 ·rename_i e;subst e;exact ⟨hv,hf⟩
 ·exact h.d i hi
def wQ (t:Tb) (s:Sx):Prop:=0<=bf t s.aC/\cq (t.av.getD (bf t s.aC).toNat .zero).kind s.val
theorem HG {t:Tb}:∀(l:List Sx) (r:Rw),dh t r->(∀s∈l,wQ t s)->(setRL t l r).2=0->dh t (setRL t l r).1/\(setRL t l r).1.id=r.id
 | [],r,hr,_,_=>⟨hr,rfl⟩
 | s::ss,r,hr,hl,h=>by
  rw [setRL] at h ⊢;cases hf:dn (t.av.getD (bf t s.aC).toNat .zero) s.val != 0
  ·rw [hf,cond_false] at h;rw [cond_false];obtain ⟨h0,hd⟩:=hl s (by simp);exact HG ss _ (hr.set (nI h0) hd (by simpa using hf)) (fun s hs=>hl s (by simp [hs])) h
  ·rw [hf,cond_true] at h;have h':dn (t.av.getD (bf t s.aC).toNat .zero) s.val=0:=h;rw [h'] at hf;cases hf
theorem cq.sub {k:Int} {a b:aQ} (h:cq k b) (hs:a.Sublist b):cq k a:=⟨fun x hx=>h.ok x (hs.subset hx),h.pw.sublist hs⟩
theorem cq.join {k:Int}:∀(b a:aQ),cq k a->(∀x∈b,fV x=true/\x.kind=k)->cq k (joinF a b)
 | [],_,h,_=>h
 | x::b,a,h,hb=>cq.join b (eH a x) (h.put (hb x (by simp))) (fun y hy=>hb y (by simp [hy]))
theorem cq.minus {k:Int} {a:aQ} (h:cq k a) (b:aQ):cq k (dP a b):=h.sub List.filter_sublist
theorem as6 {f a b:Int} (h:(ik f a b).2=true): -1000000000<=(ik f a b).1/\(ik f a b).1<=1000000000:=by
 have key:∀z:Int,bC z (-1000000000) 1000000000=true-> -1000000000<=z/\z<=1000000000:=fun z hz=>by
  unfold bC at hz;simpa using hz
 unfold ik at h ⊢;cases h1:f==1 <;> rw [h1] at h <;> simp only [cond_true,cond_false] at h ⊢
 ·cases h2:f==2 <;> rw [h2] at h <;> simp only [cond_true,cond_false] at h ⊢
  ·cases h3:f==3 <;> rw [h3] at h <;> simp only [cond_true,cond_false] at h ⊢
   ·cases h4:b==0 <;> rw [h4] at h <;> simp only [cond_true,cond_false] at h ⊢
    ·cases h5:f==5 <;> rw [h5] at h <;> simp only [cond_true,cond_false] at h ⊢
     ·exact key _ h
     ·exact key _ h
    ·exact absurd h (by decide)
   ·exact key _ h
  ·exact key _ h
 ·exact key _ h
theorem cq.Ob {f b:Int}:∀(l o:aQ) {v:aQ},cq 1 o->numsW f b l o=some v->cq 1 v
 | [],o,v,h,e=>by
  rw [numsW] at e;exact Option.some.inj e▸h
 | a::l,o,v,h,e=>by
  rw [numsW] at e;cases hn:(ik f a.n b).2 <;> rw [hn] at e
  ·simp at e
  ·rw [cond_true] at e;exact cq.Ob l _ (h.put ⟨GR (as6 hn),rfl⟩) e
def wK (t:Tb) (m:Mt):Prop:=0<=bf t m.aC/\cq (t.av.getD (bf t m.aC).toNat .zero).kind m.val/\(¬(m.func=6\/m.func=7)->(t.av.getD (bf t m.aC).toNat .zero).kind=1)
theorem aj1 {c:aL} {d:aQ} {m:Mt} (hd:cq c.kind d) (hm:cq c.kind m.val) (hk:¬(m.func=6\/m.func=7)->c.kind=1) (h:(fb c d m).2=0):cq c.kind (fb c d m).1/\dn c (fb c d m).1=0:=by
 unfold fb at h ⊢;cases hV:pR d m with
 | none=>rw [hV] at h;cases h
 | some v=>
  rw [hV] at h;dsimp only at h ⊢;have hv:cq c.kind v:=by
   unfold pR at hV;cases h6:m.func==6 <;> rw [h6] at hV <;> simp only [cond_true,cond_false] at hV
   ·cases h7:m.func==7 <;> rw [h7] at hV <;> simp only [cond_true,cond_false] at hV
    ·have hk:=hk (by simp at h6 h7;omega);rw [hk];exact cq.Ob d [] (.nil 1) hV
    ·rw [<- Option.some.inj hV];exact hd.minus _
   ·rw [<- Option.some.inj hV];exact cq.join _ _ hd hm.ok
  cases hf:dn c v != 0
  ·rw [hf,cond_false] at h;rw [cond_false];exact ⟨hv,by simpa using hf⟩
  ·rw [hf,cond_true] at h;have h':dn c v=0:=h;rw [h'] at hf;cases hf
theorem Nl {t:Tb}:∀(l:List Mt) (r:Rw),dh t r->(∀m∈l,wK t m)->(mutRW t l r).2=0->dh t (mutRW t l r).1/\(mutRW t l r).1.id=r.id
 | [],r,hr,_,_=>⟨hr,rfl⟩
 | m::ms,r,hr,hl,h=>by
  rw [mutRW] at h ⊢;obtain ⟨h0,hd,hk⟩:=hl m (by simp);have bQ:=nI h0;cases hf:(fb (t.av.getD (bf t m.aC).toNat .zero) (r.cells.getD (bf t m.aC).toNat []) m).2 != 0
  ·rw [hf,cond_false] at h;rw [cond_false];have hI:=aj1 (hr.d _ bQ).1 hd hk (by simpa using hf);exact Nl ms _ (hr.set bQ hI.1 hI.2) (fun s hs=>hl s (by simp [hs])) h
  ·rw [hf,cond_true] at h;have h':(fb (t.av.getD (bf t m.aC).toNat .zero) (r.cells.getD (bf t m.aC).toNat []) m).2=0:=h;rw [h'] at hf;cases hf
abbrev bD (t:Nat):Tb:=aI.getD t .zero
structure iV (t:Tb) (nx:Int) (rows:List Rw):Prop where
 n:rows.length<=12
 p:iW rows
 i:∀r∈rows,1<=r.id/\r.id<nx
 c:∀r∈rows,dh t r
structure dV (n0 nx:Int) (x:aA):Prop where
 n:x.ak.length=3
 r:∀t,t<3->iV (bD t) nx (x.ak.getD t [])
 o:∀i j,i<3->j<3->i≠j->∀r∈x.ak.getD i [],∀q∈x.ak.getD j [],r.id≠q.id
 x:x.next=n0
theorem jM {t:Nat} (ht:t<3):lV (bD t):=by
 have:t=0\/t=1\/t=2:=ag;rcases this with rfl | rfl | rfl <;> exact ⟨by decide,by decide,by decide⟩
theorem aB0:∀t∈aI,qe t:=fun t ht=>by
 obtain ⟨h1,h2⟩:=(by decide:∀t∈aI,t.av.length<=1048576/\∀c∈t.av,c.max<=1000) t ht;exact ⟨h1,h2⟩
theorem xW {α:Type} {l:List α} {x:α} (d:α) (h:x∈l):∃i,i<l.length/\l.getD i d=x:=by
 obtain ⟨i,hi,e⟩:=List.getElem_of_mem h;exact ⟨i,hi,by rw [List.getD_eq_getElem?_getD,List.getElem?_eq_getElem hi,Option.getD_some,e]⟩
theorem dh.s {t:Tb} {r:Rw} (ht:lV t) (h:dh t r):fv r:=⟨by have:=h.n;have:=ht.n;omega,fun d hd=>by have:=h.len ht d hd;omega⟩
section
variable {n0 nx:Int} {x:aA}
theorem dV.wo (h:dV n0 nx x):iY aI x:=by
 have hm:∀rows∈x.ak,∃t,t<3/\x.ak.getD t []=rows:=fun rows hr=>by
  obtain ⟨t,ht,e⟩:=xW [] hr;exact ⟨t,by rw [<- h.n];exact ht,e⟩
 have hl:∀rows∈x.ak,rows.length<=12:=fun rows hr=>by
  obtain ⟨t,ht,rfl⟩:=hm rows hr;exact (h.r t ht).n
 refine ⟨⟨⟨by rw [h.n];omega,fun rows hr=>Nat.le_trans (hl rows hr) ag,fun rows hr r mZ => ?_⟩,h.n,fun i hi r hr => ?_,by decide⟩,aB0,fun rows hr=>Nat.le_trans (hl rows hr) ag,fun rows hr r mZ d hd => ?_⟩
 ·obtain ⟨t,ht,rfl⟩:=hm rows hr;exact ((h.r t ht).c r mZ).s (jM ht)
 ·rw [h.n] at hi;exact ((h.r i hi).c r hr).n
 ·obtain ⟨t,ht,rfl⟩:=hm rows hr;have:=((h.r t ht).c r mZ).len (jM ht) d hd;omega
theorem iV.mono {t:Tb} {lH:Int} {rows:List Rw} (h:iV t nx rows) (hn:nx<=lH):iV t lH rows:=⟨h.n,h.p,fun r hr=>⟨(h.i r hr).1,by have:=(h.i r hr).2;omega⟩,h.c⟩
theorem iV.sub {t:Tb} {rows rows':List Rw} (h:iV t nx rows) (hs:rows'.Sublist rows):iV t nx rows':=⟨Nat.le_trans hs.length_le h.n,h.p.sublist hs,fun r hr=>h.i r (hs.subset hr),fun r hr=>h.c r (hs.subset hr)⟩
theorem iV.put {t:Tb} {lH:Int} {rows:List Rw} {r:Rw} (h:iV t nx rows) (hr:dh t r) (h1:1<=r.id) (h2:r.id<lH) (hn:nx<=lH) (hl:(∃y∈rows,y.id=r.id)\/rows.length<12):iV t lH (jt rows r):=by
 refine ⟨?_,Ps h.p,fun y hy => ?_,fun y hy => ?_⟩
 ·rcases hl with hl | hl
  ·rw [Pr h.p hl];exact h.n
  ·have:=Pq (r:=r) (rows:=rows);omega
 ·rcases xX hy with rfl | hy
  ·exact ⟨h1,h2⟩
  ·have:=h.i y hy;omega
 ·rcases xX hy with rfl | hy
  ·exact hr
  ·exact h.c y hy
theorem dV.mono {lH:Int} (h:dV n0 nx x) (hn:nx<=lH):dV n0 lH x:=⟨h.n,fun t ht=>(h.r t ht).mono hn,h.o,h.x⟩
theorem Kr (hn:x.ak.length=3) {t k i:Nat} (ht:t<3) {r:Rw} (hr:r∈(iv x t k).ak.getD i []):r∈x.ak.getD i []:=by
 unfold iv at hr;dsimp only at hr;rw [sC (by rw [hn];exact ht)] at hr;split at hr
 ·rename_i e;subst e;exact (Hw _ _).subset hr
 ·exact hr
theorem Hi (hn:x.ak.length=3) {t i:Nat} (ht:t<3) {r0 r:Rw} (hr:r∈(iw x t r0).ak.getD i []):(r=r0/\t=i)\/r∈x.ak.getD i []:=by
 unfold iw at hr;dsimp only at hr;rw [sC (by rw [hn];exact ht)] at hr;split at hr
 ·rename_i e;subst e;rcases xX hr with h | h
  ·exact .inl ⟨h,rfl⟩
  ·exact .inr h
 ·exact .inr hr
theorem dV.drop (h:dV n0 nx x) (t k:Nat) (ht:t<3):dV n0 nx (iv x t k):=by
 refine ⟨by unfold iv;dsimp only;rw [List.length_set];exact h.n,fun i hi => ?_,fun i j hi hj bc r hr q hq=>h.o i j hi hj bc r (Kr h.n ht hr) q (Kr h.n ht hq),h.x⟩;unfold iv;dsimp only;rw [sC (by rw [h.n];exact ht)];split
 ·rename_i e;subst e;exact (h.r t ht).sub (Hw _ _)
 ·exact h.r i hi
theorem dV.put {lH:Int} (h:dV n0 nx x) {t:Nat} (ht:t<3) {r:Rw} (hr:dh (bD t) r) (h1:1<=r.id) (h2:r.id<lH) (hn:nx<=lH) (hl:(∃y∈x.ak.getD t [],y.id=r.id)\/((x.ak.getD t []).length<12/\nx<=r.id)):dV n0 lH (iw x t r):=by
 have pC:∀j,j<3->t≠j->∀q∈x.ak.getD j [],r.id≠q.id:=fun j hj bc q hq=>by
  rcases hl with ⟨y,hy,e⟩ | ⟨_,h5⟩
  ·rw [<- e];exact h.o t j ht hj bc y hy q hq
  ·have:=((h.r j hj).i q hq).2;omega
 refine ⟨by unfold iw;dsimp only;rw [List.length_set];exact h.n,fun i hi => ?_,fun i j hi hj bc a ha b hb => ?_,h.x⟩;rotate_left
 ·rcases Hi h.n ht ha with ⟨rfl,rfl⟩ | dc
  ·rcases Hi h.n ht hb with ⟨_,e⟩ | bT
   ·exact absurd e bc
   ·exact pC j hj bc b bT
  ·rcases Hi h.n ht hb with ⟨rfl,rfl⟩ | bT
   ·exact fun e=>pC i hi (fun e2=>bc e2.symm) a dc e.symm
   ·exact h.o i j hi hj bc a dc b bT
 unfold iw;dsimp only;rw [sC (by rw [h.n];exact ht)];split
 ·rename_i e;subst e;exact (h.r t ht).put hr h1 h2 hn (hl.imp id And.left)
 ·exact (h.r i hi).mono hn
theorem Vp (h:dV n0 nx x) (t k:Nat) (ht:t<3):(iv x t k).ak.getD t []=gf (x.ak.getD t []) k:=by
 unfold iv;dsimp only;rw [sC (by rw [h.n];exact ht),if_pos rfl]
theorem aD5 (h:dV n0 nx x) (t:Nat) (r:Rw) (ht:t<3):(iw x t r).ak.getD t []=jt (x.ak.getD t []) r:=by
 unfold iw;dsimp only;rw [sC (by rw [h.n];exact ht),if_pos rfl]
end
theorem DQ {n0 nx:Int} {o:Op'} {t:Nat} (ht:t<3) {l:List Sx} (hl:∀s∈l,wQ (bD t) s) (hm:∀m∈o.cC,wK (bD t) m):∀(js:List Int) (x:aA),dV n0 nx x->(∀j∈js,∃r∈x.ak.getD t [],r.id=j)->js.Nodup ->
  qi aI o t l js x/\dV n0 nx (chL aI o t l js x).1
 | [],x,hx,_,_=>⟨a8,hx⟩
 | id::js,x,hx,hj,hn=>by
  obtain ⟨X3,xG⟩:=List.nodup_cons.1 hn;have h0:0<=cE (x.ak.getD t []) id:=O9.2 (hj id (by simp));have gn:=uT (p:=fun r:Rw=>r.id==id) Rw.zero h0;have hid:((x.ak.getD t []).getD (cE (x.ak.getD t []) id).toNat .zero).id=id:=by simpa [cE] using gn.2
  have gn:(cE (x.ak.getD t []) id).toNat<(x.ak.getD t []).length:=gn.1;have fK:=bH (l:=x.ak.getD t []) (i:=(cE (x.ak.getD t []) id).toNat) ⟨0,[]⟩ gn;have ve:((x.ak.getD t []).getD (cE (x.ak.getD t []) id).toNat ⟨0,[]⟩).id=id:=hid;have eD:=(hx.r t ht).c _ fK;have FZ:=(hx.r t ht).i _ fK;have hD:=fun (_:o.kind=5)=>DQ ht hl hm js (iv x t (cE (x.ak.getD t []) id).toNat) (hx.drop t _ ht) (fun j AQ=>by
   rw [Vp hx t _ ht];exact Vo gn (hj j (by simp [AQ])) (by rw [hid];rintro rfl;exact X3 AQ)) xG
  have hP:=fun (r:Rw) (hr:dh (bD t) r) (F0:r.id=id)=>DQ ht hl hm js (iw x t r) (hx.put ht hr (by rw [F0,<- ve];exact FZ.1) (by rw [F0,<- ve];exact FZ.2) (Int.le_refl _) (.inl (by rw [F0];exact hj id (by simp)))) (fun j AQ=>by
   rw [aD5 hx t _ ht];exact Pp (hj j (by simp [AQ]))) xG
  have h4:=fun h=>Nl o.cC _ eD hm h;have h3:=fun h=>HG l _ eD hl h;refine ⟨⟨hx.wo,h0,fun h5=>(hD h5).1,fun _ h=>⟨(h4 h).1.s (jM ht),(hP _ (h4 h).1 (by rw [(h4 h).2,ve])).1⟩,fun _ _ h=>⟨(h3 h).1.s (jM ht),(hP _ (h3 h).1 (by rw [(h3 h).2,ve])).1⟩⟩,?_⟩;rw [chL];cases h5:o.kind==5
  ·rw [cond_false];cases Lv:o.kind==4
   ·rw [cond_false];cases hf:(setRL (aI.getD t .zero) l ((x.ak.getD t []).getD (cE (x.ak.getD t []) id).toNat ⟨0,[]⟩)).2 != 0
    ·rw [cond_false];have hz:=h3 (by simpa using hf);exact (hP _ hz.1 (by rw [hz.2,ve])).2
    ·exact hx
   ·rw [cond_true];cases hf:(mutRW (aI.getD t .zero) o.cC ((x.ak.getD t []).getD (cE (x.ak.getD t []) id).toNat ⟨0,[]⟩)).2 != 0
    ·rw [cond_false];have hz:=h4 (by simpa using hf);exact (hP _ hz.1 (by rw [hz.2,ve])).2
    ·exact hx
  ·rw [cond_true];exact (hD (by simpa using h5)).2
end Go.Proofs.YtlomaojlpodibaaGreat
end

/-
  The small evaluator: results of functions; what is no more named reads as values.
  The small evaluator: what is known of blocks, said in another way.
  The small evaluator: states said in another way.
  The small evaluator: what a piece of code comes to; loops; functions.
  The small evaluator at inputs that are not known: what an operation comes to, and what is owed for it.
  The small evaluator at inputs that are not known: cells within rows; slices of their own.
  Operations on maps: this claim asks for none.
  The small evaluator at inputs that are not known: trees of what is owed.
  Layouts of lists: general laws; numbers.
  The small evaluator: what is proved of a block that is sealed holds of one that is not.
  The evaluator of closed calls: deep, by fuel.
  Layouts of library functions at this program (printed by tools/lays.py).
  Loops whose rounds are counted.
  What is one's own is lent to a function that only reads it, or given away.
  Atoms, sets, rows, stores, schemas: as they lie in memory, only read.
  Streams in plain Lean: what a byte does, in the reference's way and in the program's; the two agree.
  Conditions, monitors, locks, sessions, servers: as they lie in memory, only read; how elements read.
  Sets, operations, results: as they lie in memory, only read. A mutation lies as a condition does.
  Tests of numbers and texts.
  Names, atoms, sets, columns, tables, schemas, rows, stores, locks, conditions, monitors: when they are right.
  The source of choices, by trees.
  Atoms: how they stand; sets of them, as the reference makes them; atoms and sets that are drawn.
  Transactions of the reference, as functions.
  Rows in order: put, dropped, found (plain laws).
  The order of atoms; sets of them stay in order.
  The plain schema; conditions, mutations, sets of rows that are drawn.
-/
import Derived.Test.YtlomaojlpodibaaGreatCqAa
import Derived.KernelRfl
import Derived.ChangeMaps5
import Derived.Shelf.Lays
import Derived.Shelf.Small.Strs
import Derived.Test.YtlomaojlpodibaaGreatRows
import GoSem.Core.Value
import Derived.Sort.Walk0
noncomputable section
namespace Go.Proofs.YtlomaojlpodibaaGreat
open Go.RowKit
set_option maxRecDepth 100000
section
variable {P:Program} {callF:gv}
def BN (tmps:Array Value):ResultVar->Sem Value
 | .tmp t=>pure (tmps.getD t undef)
 | .cell x t=>do loadVar t (<- asAddr (tmps.getD x undef))
theorem Z2 {hp:Hp} {t:TypeId} {x:V} {out:Out} (h:evLoad P hp t x=some out):out.hp=hp:=by
 unfold evLoad at h;repeat' split at h
 all_goals first | (cases h;done) | (cases h;rfl)
theorem aG0 {hp:Hp} {tm:Tm} {a:Act} {w:World} {Im:Nat->Prop} {μ:Mu} (jm:∀t,V.R P Im μ w (tm.get t) (a.tmps.getD t undef)) (hh:∀b blk,hp[b]?=some (some blk)->Holds P Im μ w b blk)
  (bA:lS P Im w) (hi:∀b c blk bG g,b≠c->hp[b]?=some (some blk)->hp[c]?=some (some bG)->μ.own b g->μ.own c g->False) {r:ResultVar} {v:V} (h:evResult P hp tm r=some v):
  ∃val,(BN a.tmps r).run P w= .ok val w/\V.R P Im μ w v val:=by
 unfold BN
 unfold evResult at h
 split at h
 ·cases h;exact ⟨_,rfl,jm _⟩
 ·rename_i x t
  obtain ⟨out,ho,rfl⟩:=Option.map_eq_some_iff.1 h
  have hx:=zU (jm x)
  have e:out.hp=hp:=Z2 ho
  obtain ⟨h1,h2,h3,val,hr,hR⟩:=M4 ho (jm x) ⟨bA,fun b _ blk hb=>hh b blk hb,fun b _ c _ b1 b2 g bc hb hc=>hi b c b1 b2 g bc hb hc,fun b hb bT=>by
   rw [e] at bT;omega⟩
  refine ⟨val,?_,hR⟩
  have key:∃ad,a.tmps.getD x undef= .pointer (some ad):=by
   unfold evLoad at ho
   split at ho
   case h_3=>cases ho
   case h_2 cs pI=>
    rw [pI] at hx
    simp only [V.R] at hx
    obtain ⟨g,off,hg,_⟩:=hx
    exact ⟨_,hg⟩
   case h_1 b off pI=>
    rw [pI] at hx
    simp only [V.R] at hx
    obtain ⟨g,_,hg⟩:=hx
    exact ⟨_,hg⟩
  obtain ⟨ad,hg⟩:=key
  simp only [hg,Instr.loadAt,Instr.sureAddr,Sem.run_bind,Sem.run_pure,Result.andThen_ok] at hr
  simp only [hg,asAddr,Sem.run_bind,Sem.run_pure,Result.andThen_ok]
  exact hr
theorem P0 {hp:Hp} {tm:Tm} {a:Act} {w:World} {Im:Nat->Prop} {μ:Mu} (jm:∀t,V.R P Im μ w (tm.get t) (a.tmps.getD t undef)) (hh:∀b blk,hp[b]?=some (some blk)->Holds P Im μ w b blk)
  (bA:lS P Im w) (hi:∀b c blk bG g,b≠c->hp[b]?=some (some blk)->hp[c]?=some (some bG)->μ.own b g->μ.own c g->False):∀ {rs:List ResultVar} {vs:List V},evResultL P hp tm rs=some vs ->
  ∃b9:List Value,(rs.mapM (BN a.tmps)).run P w= .ok b9 w/\V.RL P Im μ w vs b9
 | [],vs,h=>by cases h;exact ⟨[],rfl,by simp [V.RL]⟩
 | r::rs,vs,h=>by
  unfold evResultL at h
  split at h
  case h_2=>cases h
  case h_1 v cM h1 h2=>
  cases h
  obtain ⟨val,hr,hR⟩:=aG0 jm hh bA hi h1
  obtain ⟨b9,lB,WD⟩:=P0 jm hh bA hi h2
  refine ⟨val::b9,?_,by simp only [V.RL];exact ⟨_,_,rfl,hR,WD⟩⟩
  rw [List.mapM_cons,Sem.run_bind,hr]
  simp only [Result.andThen_ok,Sem.run_bind,lB,Sem.run_pure]
theorem aG1 {fn:Func} {hp:Hp} {tm:Tm} {a:Act} {w:World} {Im:Nat->Prop} {μ:Mu} (jm:∀t,V.R P Im μ w (tm.get t) (a.tmps.getD t undef)) (hh:∀b blk,hp[b]?=some (some blk)->Holds P Im μ w b blk)
  (bA:lS P Im w) (hi:∀b c blk bG g,b≠c->hp[b]?=some (some blk)->hp[c]?=some (some bG)->μ.own b g->μ.own c g->False) {vs:List V} (h:evResultL P hp tm fn.results.toList=some vs):
  ∃val,(results fn a.tmps).run P w= .ok val w/\V.R P Im μ w (oneOf vs) val:=by
 obtain ⟨b9,hr,hR⟩:=P0 jm hh bA hi h
 have hl:=hR.length
 have pG:(results fn a.tmps).run P w= .ok (if h:b9.toArray.size=1 then b9.toArray[0] else .tuple b9.toArray) w:=by
  have e:results fn a.tmps=(do let vs <- fn.results.mapM (BN a.tmps);pure (if h:vs.size=1 then vs[0] else .tuple vs)):=by
   unfold results
   first | rfl | (congr 1;congr 1;funext r;cases r <;> rfl) | (congr 1)
  rw [e,Sem.run_bind,Array.mapM_eq_mapM_toList]
  simp only [map_eq_pure_bind,Sem.run_bind,Sem.run_pure]
  rw [hr]
  simp only [Result.andThen_ok]
 refine ⟨_,pG,?_⟩
 match vs,b9,hR,hl with
 | [],[],_,_=>simp [oneOf,V.R,V.RL]
 | [v],[u],hR,_=>
  simp only [V.RL] at hR
  obtain ⟨u',us,e,h1,_⟩:=hR
  cases e
  simpa [oneOf] using h1
 | v1::v2::vs,u1::u2::us,hR,_=>simp only [oneOf];simp;simp only [V.R];exact ⟨_,rfl,by simpa using hR⟩
end
mutual
def V.fz (v:V):V:=match v with
 | .osl _ n o cs=> .dsl n false (match o with
  | true=>V.fzL cs
  | false=>cs)
 | v=>v
def V.fzL (l:List V):List V:=match l with
 | []=>[]
 | c::cs=>V.fz c::V.fzL cs
end
def fzS:Bool->List V->List V
 | true,c=>V.fzL c
 | false,c=>c
theorem Fi {T:TypeId} {n:Nat} {o:Bool} {cs:List V}:V.fz (.osl T n o cs)= .dsl n false (fzS o cs):=by
 cases o <;> simp [V.fz,fzS]
def frzSeg (f:V->V):List V->List V
 | []=>[]
 | x::t=>match x with
  | .aw c=>match t with
   | []=>c
   | _::_=>c++frzSeg f t
  | .cS c=>match t with
   | []=>V.fzL c
   | _::_=>V.fzL c++frzSeg f t
  | x=>f x::frzSeg f t
theorem We {f:V->V} {o:Bool} {c:List V}:∀ {t:List V},frzSeg f (mkS o c::t)=fzS o c++frzSeg f t
 | []=>by cases o <;> simp [frzSeg,mkS,fzS]
 | y::u=>by cases o <;> rfl
theorem Wd {f:V->V} {x:V} {t:List V} (hx:x.seals=none):frzSeg f (x::t)=f x::frzSeg f t:=by
 cases x <;> first | rfl | simp [V.seals] at hx
def frzIn (P:Program) (hp:Hp) (kept:List Nat) (m:Nat):Nat->V->V
 | 0,_=> .cw
 | n+1,v=>match v with
  | .sl b off k full=>if kept.contains b||decide (b<m) then .cw else
   match hp[b]? with
   | some (some blk)=>match dx blk.1 with
    | true=>if Nat.beq off 0 then .dsl k false (frzSeg (frzIn P hp kept m n) blk.1) else .cw
    | false=>match dA P blk.2 with
     | some s=>if ((blk.1.drop off).take (k*s)).length=k*s then .dsl k false (((blk.1.drop off).take (k*s)).map (frzIn P hp kept m n)) else .cw
     | none=> .cw
   | _=> .cw
  | .ptr _ _=> .cw
  | .agg cs=> .agg (cs.map (frzIn P hp kept m n))
  | .tup cs=> .tup (cs.map (frzIn P hp kept m n))
  | .fn f cs=> .fn f (cs.map (frzIn P hp kept m n))
  | .box f cs=> .box f (cs.map (frzIn P hp kept m n))
  | .dsl k _ cs=> .dsl k false cs
  | .osl _ k o cs=> .dsl k false (fzS o cs)
  | .eptr _ _ _=> .cw
  | v=>v
def frz (P:Program) (hp:Hp) (kept:List Nat) (m:Nat):Nat->V->V
 | 0,_=> .cw
 | n+1,v=>match v with
  | .sl b off k full=>match pos kept b with
   | some j=> .sl j off k full
   | none=>frzIn P hp kept m (n+1) (.sl b off k full)
  | .ptr b off=>match pos kept b with
   | some j=> .ptr j off
   | none=> .cw
  | .eptr b base rel=>match pos kept b with
   | some j=> .eptr j base rel
   | none=> .cw
  | .agg cs=> .agg (cs.map (frz P hp kept m n))
  | .tup cs=> .tup (cs.map (frz P hp kept m n))
  | .fn f cs=> .fn f (cs.map (frz P hp kept m n))
  | .box f cs=> .box f (cs.map (frz P hp kept m n))
  | v=>v
mutual
def V.can:V->V
 | .dsl n _ cs=> .dsl n false cs
 | .agg cs=> .agg (V.lZ cs)
 | .tup cs=> .tup (V.lZ cs)
 | .int k n=> .int k n
 | .bool b=> .bool b
 | .str s=> .str s
 | .jJ=> .jJ
 | .ptr b o=> .ptr b o
 | .sl b o n f=> .sl b o n f
 | .dptr cs=> .dptr cs
 | .aw cs=> .aw cs
 | .cS cs=> .cS cs
 | .eptr b o r=> .eptr b o r
 | .osl T n o cs=> .osl T n o cs
 | .fn f cs=> .fn f cs
 | .box f cs=> .box f cs
 | .kU=> .kU
 | .lit u=> .lit u
 | .cw=> .cw
def V.lZ:List V->List V
 | []=>[]
 | c::cs=>V.can c::V.lZ cs
end
def gL:List V->List V
 | []=>[]
 | x::t=>match x with
  | .aw c=>match t with
   | []=>c
   | _::_=>c++gL t
  | .cS c=>match t with
   | []=>c
   | _::_=>c++gL t
  | x=>V.can x::gL t
theorem K4 {o:Bool} {c:List V}:∀ {t:List V},gL (mkS o c::t)=c++gL t
 | []=>by cases o <;> simp [gL,mkS]
 | y::u=>by cases o <;> rfl
def aN3:List V->Bool
 | [x]=>match x with
  | .aw _=>true
  | .cS _=>true
  | _=>false
 | _=>false
def sealSt (m b:Nat) (s:St):St:=
 match s.hp[b]? with
 | some (some blk)=>match (Nat.ble m b||s.wr.contains b) && !(aN3 blk.1),V.refsL blk.1 with
  | true,[]=>⟨s.tm,s.hp.set b (some ([mkS (hasO blk.1) (gL blk.1)],blk.2)),s.wr⟩
  | _,_=>s
 | _=>s
def sealAll (m:Nat):List Nat->St->St
 | [],s=>s
 | b::bs,s=>sealAll m bs (sealSt m b s)
section
variable {P:Program} {callF:gv}
theorem Wl {c:V} (h:c.isO=false):V.fz c=c:=by
 cases c
 case osl=>simp [V.isO] at h
 all_goals (rw [V.fz];intro T n o cs e;cases e)
mutual
theorem Fj {I I':Nat->Prop} {w:World} (cm:Sub I I'):∀(c:V) (F:List Nat) (u:Value),(∀k∈F,I' k)->V.O P I w F c u->V.R P I' cf w (V.fz c) u
 | c,F,u,hF,h=>by
  cases hc:c.isO with
  | false=>
   rw [Wl hc]
   exact ((uc hc).1 h).2.keep (.refl w (fun _=>False)) cm (.refl _)
  | true=>
   cases c
   case osl T n o cs=>
    rw [Fi]
    simp only [V.R]
    rcases ub.1 h with ⟨rfl,rfl,a',rfl,dc⟩ | ⟨g,cap,i,cells,fr,F',rfl,rfl,h3,h4,h5,h6,h7,h8,h9,iH⟩
    ·exact ⟨a',0,rfl,Nat.le_refl _,fun _=>rfl,dc.imp (fun h=>⟨h,rfl⟩) id,.inr (.inl rfl)⟩
    ·have Lr:V.RL P I' cf w (fzS o cs) (cells.toList.take cs.length):=by
      cases o with
      | true=>exact Fh cm cs F' _ (fun k hk=>hF k (by simp [hk])) iH
      | false=>exact iH.2.keep (.refl w (fun _=>False)) cm (.refl _)
     have hl:=Lr.length
     have eh:(cells.toList.take cs.length).length=cs.length:=by rw [List.length_take];simp only [Array.length_toList];omega
     rw [eh] at hl
     exact ⟨_,cap,rfl,h3,by simp,.inr ⟨_,_,rfl⟩,.inr <| .inr ⟨g,0,rfl,hF g (by simp),cells,_,fr,h6,by rw [<- hl];exact Lr⟩⟩
   all_goals simp [V.isO] at hc
theorem Fh {I I':Nat->Prop} {w:World} (cm:Sub I I'):∀(cs:List V) (F:List Nat) (us:List Value),(∀k∈F,I' k)->V.OL P I w F cs us->V.RL P I' cf w (V.fzL cs) us
 | [],F,us,_,h=>by
  obtain ⟨_,rfl⟩:=lT.1 h
  rw [V.fzL];simp [V.RL]
 | c::cs,F,us,hF,h=>by
  obtain ⟨u,us',F1,F2,rfl,rfl,h1,h2⟩:=mD.1 h
  rw [V.fzL]
  simp only [V.RL]
  exact ⟨u,us',rfl,Fj cm c F1 u (fun k hk=>hF k (by simp [hk])) h1,Fh cm cs F2 us' (fun k hk=>hF k (by simp [hk])) h2⟩
end
theorem Wk {I I':Nat->Prop} {w:World} (cm:Sub I I') {o:Bool} {F:List Nat} {c:List V} {us:List Value} (hF:∀k∈F,I' k) (h:OS P I w o F c us):V.RL P I' cf w (fzS o c) us:=by
 cases o
 ·exact h.2.keep (.refl w (fun _=>False)) cm (.refl _)
 ·exact Fh cm c F us hF h
theorem AG {I I':Nat->Prop} {μ:Mu} {w:World} {f:V->V} (h:∀c F u,(∀k∈F,I' k)->OX P I μ w F c u->V.R P I' cf w (f c) u) (cm:Sub I I'):∀ {l:List V} {F:List Nat} {vs:List Value},(∀k∈F,I' k)->CR P I μ w F l vs->V.RL P I' cf w (frzSeg f l) vs
 | [],F,_,_,k=>by
  obtain ⟨_,rfl⟩:=CR.fP.1 k;simp [frzSeg,V.RL]
 | x::t,F,vs,hF,k=>by
  rcases gg x with ⟨o,c,rfl⟩ | hx
  ·obtain ⟨us,cM,F1,F2,rfl,rfl,h1,h2⟩:=CR.gC.1 k;rw [We];exact (Wk cm (fun k hk=>hF k (by simp [hk])) h1).append (AG h cm (fun k hk=>hF k (by simp [hk])) h2)
  ·obtain ⟨u,us,F1,F2,rfl,rfl,h1,h2⟩:=(CR.fl hx).1 k;rw [Wd hx];simp only [V.RL];exact ⟨u,us,rfl,h _ _ _ (fun k hk=>hF k (by simp [hk])) h1,AG h cm (fun k hk=>hF k (by simp [hk])) h2⟩
theorem Bh {I I':Nat->Prop} {μ μ':Mu} {w:World} {f:V->V} (h:∀c u,V.R P I μ w c u->V.R P I' μ' w (f c) u) (hf:∀c,c.isO=true->f c=c) (hs:∀o c,f (mkS o c)=mkS o c) (cm:Sub I I'):∀ {l:List V} {F:List Nat} {vs:List Value},CR P I μ w F l vs->CR P I' μ' w F (l.map f) vs
 | [],F,_,k=>CR.fP.2 (CR.fP.1 k)
 | x::t,F,vs,k=>by
  rw [List.map_cons];rcases gg x with ⟨o,c,rfl⟩ | hx
  ·obtain ⟨us,cM,F1,F2,rfl,rfl,h1,h2⟩:=CR.gC.1 k;rw [hs];exact CR.gC.2 ⟨us,cM,F1,F2,rfl,rfl,h1.keep (.refl w (fun _=>False)) cm (fun _ _ h=>h),Bh h hf hs cm h2⟩
  ·obtain ⟨u,us,F1,F2,rfl,rfl,h1,h2⟩:=(CR.fl hx).1 k;cases hc:x.isO with
   | true=>
    rw [hf x hc];unfold OX at h1;rw [hc] at h1;exact (CR.fl hx).2 ⟨u,us,F1,F2,rfl,rfl,zJ (V.O.keep (.refl w (fun _=>False)) cm x F1 u (fun _ _ h=>h) h1),Bh h hf hs cm h2⟩
   | false=>
    obtain ⟨rfl,jB⟩:=h1.plain hc;have h3:=h _ _ jB;exact (CR.fl (Dp h3)).2 ⟨u,us,[],F2,rfl,rfl,ua h3,Bh h hf hs cm h2⟩
mutual
theorem Dn {I:Nat->Prop} {μ:Mu} {w:World}:∀(v:V) (u:Value),V.R P I μ w v u->V.R P I μ w (V.can v) u
 | .int _ _,_,h=>by simpa only [V.can,V.R] using h
 | .bool _,_,h=>by simpa only [V.can,V.R] using h
 | .str _,_,h=>by simpa only [V.can,V.R] using h
 | .jJ,_,h=>by simpa only [V.can,V.R] using h
 | .ptr _ _,_,h=>by simpa only [V.can,V.R] using h
 | .sl _ _ _ _,_,h=>by simpa only [V.can,V.R] using h
 | .dsl _ _ _,_,h=>by
  simp only [V.can,V.R] at h ⊢
  obtain ⟨a,cap,h1,h2,_,h4,h5⟩:=h
  exact ⟨a,cap,h1,h2,by simp,h4,h5⟩
 | .dptr _,_,h=>by simpa only [V.can,V.R] using h
 | .aw _,_,h=>by simp [V.R] at h
 | .cS _,_,h=>by simp [V.R] at h
 | .eptr _ _ _,_,h=>by simpa only [V.can,V.R] using h
 | .osl _ _ _ _,_,h=>by simp [V.R] at h
 | .agg cs,_,h=>by
  simp only [V.can,V.R] at h ⊢
  obtain ⟨vs,h1,h2⟩:=h
  exact ⟨vs,h1,Dm cs _ h2⟩
 | .tup cs,_,h=>by
  simp only [V.can,V.R] at h ⊢
  obtain ⟨vs,h1,h2⟩:=h
  exact ⟨vs,h1,Dm cs _ h2⟩
 | .fn _ cs,_,h=>by simpa only [V.can,V.R] using h
 | .box _ cs,_,h=>by simpa only [V.can,V.R] using h
 | .kU,_,h=>by simpa only [V.can,V.R] using h
 | .lit _,_,h=>by simpa only [V.can,V.R] using h
 | .cw,_,_=>by simp [V.can,V.R]
theorem Dm {I:Nat->Prop} {μ:Mu} {w:World}:∀(cs:List V) (us:List Value),V.RL P I μ w cs us->V.RL P I μ w (V.lZ cs) us
 | [],_,h=>by simpa only [V.lZ,V.RL] using h
 | c::cs,_,h=>by
  simp only [V.lZ,V.RL] at h ⊢
  obtain ⟨u,us',h1,h2,h3⟩:=h
  exact ⟨u,us',h1,Dn c u h2,Dm cs us' h3⟩
end
theorem K3 {x:V} {t:List V} (hx:x.seals=none):gL (x::t)=V.can x::gL t:=by
 cases x <;> first | rfl | simp [V.seals] at hx
theorem Tn (x:V):(V.can x).isO=x.isO:=by cases x <;> first | rfl | (simp only [V.can];done)
theorem Tl {x:V} (h:x.isO=true):V.can x=x:=by cases x <;> first | (simp [V.isO] at h;done) | (simp only [V.can])
theorem CR.lZ {I:Nat->Prop} {μ:Mu} {w:World}:∀ {l:List V} {F:List Nat} {vs:List Value},V.refsL l=[]->CR P I μ w F l vs->OS P I w (hasO l) F (gL l) vs
 | [],F,_,_,h=>by
  obtain ⟨rfl,rfl⟩:=CR.fP.1 h;exact Dg
 | x::t,F,vs,hr,h=>by
  simp only [V.refsL,List.append_eq_nil_iff] at hr;have ht:∀ {F:List Nat} {vs:List Value},CR P I μ w F t vs->V.OL P I w F (gL t) vs:=fun h=>(CR.lZ hr.2 h).pY;have LI:hasO (x::t)=(hasO [x]||hasO t):=by simp [hasO]
  rcases gg x with ⟨o,c,rfl⟩ | hx
  ·obtain ⟨us,cM,F1,F2,rfl,rfl,h1,h2⟩:=CR.gC.1 h;rw [K4];have ho:hasO [mkS o c]=o:=by cases o <;> rfl
   rw [LI,ho];have ih:=CR.lZ hr.2 h2;cases o
   ·rw [Bool.false_or];obtain ⟨rfl,h1⟩:=h1;cases hq:hasO t with
    | false=>
     rw [hq] at ih;exact ⟨ih.1,h1.append ih.2⟩
    | true=>
     show V.OL P I w _ _ _;exact (Df h1).append ih.pY
   ·rw [Bool.true_or];show V.OL P I w _ _ _;exact h1.pY.append ih.pY
  ·obtain ⟨u,us,F1,F2,rfl,rfl,h1,h2⟩:=(CR.fl hx).1 h;rw [K3 hx];have ih:=CR.lZ hr.2 h2;rw [LI];cases hc:x.isO with
   | true=>
    have:hasO [x]=true:=by cases x <;> first | rfl | simp [V.isO] at hc
    rw [this,Bool.true_or,Tl hc];unfold OX at h1;rw [hc] at h1;show V.OL P I w _ _ _;exact mD.2 ⟨u,us,F1,F2,rfl,rfl,h1,ih.pY⟩
   | false=>
    obtain ⟨rfl,jB⟩:=h1.plain hc;have h3:=Dn x u (zO x u hr.1 jB);cases hq:(hasO [x]||hasO t) with
    | true=>
     show V.OL P I w _ _ _;exact mD.2 ⟨u,us,[],F2,rfl,rfl,(uc (by rw [Tn];exact hc)).2 ⟨rfl,h3⟩,ih.pY⟩
    | false=>
     rw [Bool.or_eq_false_iff] at hq;rw [hq.2] at ih;refine ⟨ih.1,?_⟩;simp only [V.RL];exact ⟨u,us,rfl,h3,ih.2⟩
theorem Wb {hp:Hp} {kept:List Nat} {m n:Nat} {x:V} (hx:x.seals=none):(frzIn P hp kept m n x).seals=none:=by
 cases n with
 | zero=>rfl
 | succ n=>
  cases x <;> first | (simp [V.seals] at hx;done) | skip
  all_goals (unfold frzIn;repeat' split)
  all_goals first | rfl | (rename_i h;cases h;rfl)
theorem Wf {hp:Hp} {kept:List Nat} {m n:Nat} {x:V} (hx:x.seals=none):(frz P hp kept m n x).seals=none:=by
 cases n with
 | zero=>rfl
 | succ n=>
  cases x <;> first | (simp [V.seals] at hx;done) | skip
  all_goals (unfold frz;repeat' split)
  all_goals first | rfl | (exact Wb rfl) | (rename_i h;cases h;rfl)
theorem Fa {f:V->V} (hs:∀o c,f (mkS o c)=mkS o c) (hf:∀x,x.seals=none->(f x).seals=none):∀l:List V,(flat (l.map f)).length=(flat l).length
 | []=>rfl
 | x::t=>by
  rw [List.map_cons];rcases gg x with ⟨o,c,rfl⟩ | hx
  ·rw [hs,iF,iF,List.length_append,List.length_append,Fa hs hf t]
  ·rw [fH hx,fH (hf x hx),List.length_cons,List.length_cons,Fa hs hf t]
structure mF (P:Program) (m:Nat) (s s':St):Prop where
 st:∀aW:Hp,aW.length=m->SR aW s->SR aW s'
 run:∀ {aW:Hp} {I0:Nat->Prop} {μ0:Mu} {w0:World},aW.length=m->∀ {a:Act} {w:World} {Im:Nat->Prop} {μ:Mu},CI P aW I0 μ0 w0 s a w Im μ->∃cZ μ',CI P aW I0 μ0 w0 s' a w cZ μ'
def normTm (P:Program) (hp:Hp) (perm:List Nat) (m:Nat) (tm:Tm):List Nat->Tm->Tm
 | [],t=>t
 | i::is,t=>normTm P hp perm m tm is (t.put i (frz P hp perm m 100 (tm.get i)))
def fQ (P:Program) (m:Nat) (keep perm:List Nat) (s:St):St:=
 ⟨normTm P s.hp perm m s.tm keep ⟨s.tm.n,Tr.mk0 11⟩,
  perm.map (fun b=>if decide (b<m) && !s.wr.contains b then s.hp.getD b none else (s.hp.getD b none).map fun blk=>(blk.1.map (frz P s.hp perm m 100),blk.2)),
  (s.wr.filter fun b=>decide (b<m)).eraseDups⟩
theorem N6 (hp:Hp) (perm:List Nat) (m:Nat) (tm:Tm) (t:Nat):∀(is:List Nat) (t0:Tm),(normTm P hp perm m tm is t0).get t=t0.get t\/(normTm P hp perm m tm is t0).get t= .cw\/(normTm P hp perm m tm is t0).get t=frz P hp perm m 100 (tm.get t)
 | [],_=> .inl rfl
 | i::is,t0=>by
  unfold normTm;rcases N6 hp perm m tm t is (t0.put i (frz P hp perm m 100 (tm.get i))) with h | h | h
  ·by_cases e:i=t
   ·subst e;rcases t0.get_eq i (frz P hp perm m 100 (tm.get i)) with h2 | h2
    ·right;right;rw [h,h2.1]
    ·right;left;rw [h,h2]
   ·left;rw [h,t0.qE _ e]
  ·exact .inr (.inl h)
  ·exact .inr (.inr h)
theorem N7 (hp:Hp) (perm:List Nat) (m:Nat) (tm:Tm):∀(is:List Nat) (t0:Tm),(normTm P hp perm m tm is t0).n=t0.n
 | [],_=>rfl
 | _::is,t0=>by unfold normTm;rw [N7 hp perm m tm is];rfl
def jq (m:Nat) (perm:List Nat):Bool:=(List.range m).all (fun j=>perm[j]?==some j)&&decide perm.Nodup
structure fG (P:Program) (m:Nat) (s s':St) (f:V->V):Prop where
 st:∀aW:Hp,aW.length=m->SR aW s->SR aW s'
 run:∀ {aW:Hp} {I0:Nat->Prop} {μ0:Mu} {w0:World},aW.length=m->∀ {a:Act} {w:World} {Im:Nat->Prop} {μ:Mu},CI P aW I0 μ0 w0 s a w Im μ->∃cZ μ',CI P aW I0 μ0 w0 s' a w cZ μ'/\∀v u,V.R P Im μ w v u->V.R P cZ μ' w (f v) u
theorem s7 {m:Nat} {keep ids:List Nat} {s:St} (hp:jq m ids=true):fG P m s (fQ P m keep ids s) (frz P s.hp ids m 100):=by
 unfold jq at hp;rw [Bool.and_eq_true,List.all_eq_true,decide_eq_true_eq] at hp;obtain ⟨XU,vn⟩:=hp;have AU:∀j,j<m->ids[j]?=some j:=fun j hj=>by simpa using XU j (by simpa using hj)
 have hlen:m<=ids.length:=by
  rcases Nat.lt_or_ge ids.length m with h | h
  ·have:=AU ids.length h;simp at this
  ·exact h
 constructor
 ·intro aW e cL;have qK:∀b,b<m->s.hp[b]?=some (s.hp.getD b none):=by
   intro b hb;have:b<s.hp.length:=by have:=cL.len;omega
   rw [List.getD_eq_getElem?_getD,List.getElem?_eq_getElem this];rfl
  refine ⟨by simp only [fQ,List.length_map];omega,fun b hb hn => ?_,fun b hb h => ?_⟩
  ·have fL:b∉s.wr:=fun h=>hn (by simp only [fQ,List.mem_eraseDups,List.mem_filter];exact ⟨h,by simpa using (show b<m by omega)⟩);simp only [fQ];rw [List.getElem?_map,AU b (by omega)];simp only [Option.map_some];rw [if_pos (by simp [fL,show b<m by omega]),<- qK b (by omega)];exact cL.frame b hb fL
  ·obtain ⟨blk,h⟩:=h;simp only [fQ] at h;rw [List.getElem?_map,AU b (by omega)] at h;simp only [Option.map_some,Option.some.injEq] at h;refine cL.alive b hb ?_;split at h
   ·exact ⟨blk,by rw [qK b (by omega),h]⟩
   ·obtain ⟨cb,h0,_⟩:=Option.map_eq_some_iff.1 h;exact ⟨cb,by rw [qK b (by omega),h0]⟩
 ·intro aW I0 μ0 w0 e a w Im μ C;subst e;have qL:∀j,j<aW.length->ids[j]?=some j:=by
   intro j hj;exact AU j hj
  have XE:∀j b,aW.length<=j->ids[j]?=some b->aW.length<=b:=by
   intro j b hj hb;rcases Nat.lt_or_ge b aW.length with h | h
   ·have h1:=m8 vn (qL b h);rw [m8 vn hb] at h1;cases h1;omega
   ·exact h
  let μr:Mu:=⟨fun j=>match ids[j]? with
   | some b=>μ b
   | none=>none,fun j=>match ids[j]? with
   | some b=>μ.ft b
   | none=>[]⟩
  have jF:∀j b,ids[j]?=some b->μr.ft j=μ.ft b:=by intro j b h;simp [μr,h]
  have gd:∀j b g,ids[j]?=some b->μr.own j g->μ.own b g:=by
   intro j b g h hg;rcases hg with hg | hg
   ·left;simpa [μr,h] using hg
   ·rw [jF j b h] at hg;exact .inr hg
  have vC:∀j b,ids[j]?=some b->μr j=μ b:=by intro j b h;simp [μr,h]
  have hρ:∀b b' g,pos ids b=some b'->μ b=some g->μr b'=some g:=by
   intro b b' g hb hg;rw [vC b' b (BA hb)];exact hg
  let Ir:Nat->Prop:=fun k=>Im k\/∃b,b∉ids/\aW.length<=b/\dU s.hp b/\μ.own b k
  have cm:Sub Im Ir:=fun k h=> .inl h;have AW:∀b blk g,b∈ids->s.hp[b]?=some (some blk)->μ.own b g->¬Ir g:=by
   rintro b blk g ib hb hg (h | ⟨c,jg,_,⟨bG,hc⟩,cg⟩)
   ·exact (C.holds b blk hb).kV hg h
   ·exact C.inj b c _ _ g (by rintro rfl;exact jg ib) hb hc hg cg
  have hE:cO Im w w (fun _=>False):= .refl _ _;have Wc:∀(n:Nat) (c:V) (u:Value),V.R P Im μ w c u->V.R P Ir cf w (frzIn P s.hp ids aW.length n c) u:=by
   intro n;induction n with
   | zero=>intro c u _;simp [frzIn,V.R]
   | succ n ih=>
    have kS:∀(cs:List V) (us:List Value),V.RL P Im μ w cs us->V.RL P Ir cf w (cs.map (frzIn P s.hp ids aW.length n)) us:=by
     intro cs;induction cs with
     | nil=>intro us h;simpa [V.RL] using h
     | cons c cs lF=>
      intro us h;simp only [V.RL] at h;obtain ⟨u,us',rfl,h1,h2⟩:=h;simp only [List.map_cons,V.RL];exact ⟨u,us',rfl,ih c u h1,lF us' h2⟩
    have xT:∀(c:V) (F:List Nat) (u:Value),(∀k∈F,Ir k)->OX P Im μ w F c u->V.R P Ir cf w (frzIn P s.hp ids aW.length n c) u:=by
     intro c F u hF h;cases hc:c.isO with
     | false=>exact ih c u (h.plain hc).2
     | true=>
      unfold OX at h;rw [hc] at h;cases n with
      | zero=>simp [frzIn,V.R]
      | succ n=>
       have:=Fj cm c F u hF h;cases c <;> first | (simp [V.isO] at hc;done) | (rw [Fi] at this;exact this)
    have Be:∀(cs:List V) (F:List Nat) (us:List Value),(∀k∈F,Ir k)->OXL P Im μ w F cs us->V.RL P Ir cf w (cs.map (frzIn P s.hp ids aW.length n)) us:=by
     intro cs;induction cs with
     | nil=>intro F us _ h;obtain ⟨_,rfl⟩:=h;simp [V.RL]
     | cons c cs lF=>
      intro F us hF h;obtain ⟨u,us',F1,F2,rfl,rfl,h1,h2⟩:=h;simp only [List.map_cons,V.RL];exact ⟨u,us',rfl,xT c F1 u (fun k hk=>hF k (by simp [hk])) h1,lF F2 us' (fun k hk=>hF k (by simp [hk])) h2⟩
    intro c u h;unfold frzIn;split
    ·rename_i b off k full;split
     ·simp [V.R]
     ·rename_i hc;simp only [Bool.or_eq_true,decide_eq_true_eq,not_or] at hc;split
      ·rename_i blk hb;split
       ·rename_i me;split
        ·rename_i kj;have FR:off=0:=by simpa using kj
         subst FR;simp only [V.R] at h ⊢;rcases h with ⟨g,cap,e,N,i,hg,rfl,h1,h2,h3,de,_⟩ | ⟨_,rfl,a',rfl,dc⟩
         ·obtain ⟨cs,fr,_,hw,_,⟨h4,h5⟩,_⟩:=(C.holds b blk hb).mr hg de;have hF:∀k∈μ.ft b,Ir k:=fun k hk=> .inr ⟨b,by simpa using hc.1,by omega,⟨blk,hb⟩,.inr hk⟩;have h6:=AG (f:=frzIn P s.hp ids aW.length n) xT cm hF h5;have h7:=h6.length;refine ⟨some ⟨g,0,none⟩,cap,rfl,h1,by simp,.inr ⟨_,_,rfl⟩,.inr <| .inr ⟨g,0,rfl,.inr ⟨b,by simpa using hc.1,by omega,⟨blk,hb⟩,.inl hg⟩,cs,_,fr,hw,?_⟩⟩;rw [List.drop_zero];rw [List.length_take,Nat.min_eq_left (by simpa using h4)] at h7;rw [<- h7];exact h6
         ·exact ⟨a',0,rfl,Nat.le_refl _,by simp,dc.imp (fun h=>⟨h,rfl⟩) id,.inr (.inl rfl)⟩
        ·simp [V.R]
       ·rename_i me;have iI:=jW me;split
        ·rename_i sz cQ;split
         ·rename_i hl;simp only [V.R] at h ⊢;rcases h with ⟨g,cap,e,N,i,hg,rfl,h1,h2,h3,de,_⟩ | ⟨_,rfl,a',rfl,dc⟩
          ·obtain ⟨cs,fr,_,hw,_,⟨h4,h5⟩,_⟩:=(C.holds b blk hb).mr hg de;have hF:∀k∈μ.ft b,Ir k:=fun k hk=> .inr ⟨b,by simpa using hc.1,by omega,⟨blk,hb⟩,.inr hk⟩;have h5:=h5.mw;rw [iI] at h4 h5;refine ⟨some ⟨g,off,none⟩,cap,rfl,h1,by simp,.inr ⟨_,_,rfl⟩,.inr <| .inr ⟨g,off,rfl,.inr ⟨b,by simpa using hc.1,by omega,⟨blk,hb⟩,.inl hg⟩,cs,_,fr,hw,?_⟩⟩;obtain ⟨F1,F2,xm,_,h6⟩:=h5.split off;obtain ⟨F3,F4,Fp,h6,_⟩:=h6.split (k*sz);rw [List.length_map,hl];have e1:(cs.toList.drop off).take (k*sz)=((cs.toList.take blk.1.length).drop off).take (k*sz):=by
            simp only [List.length_take,List.length_drop] at hl;rw [List.drop_take,List.take_take,Nat.min_eq_left (by omega)]
           rw [e1];exact Be _ F3 _ (fun k hk=>hF k (by rw [xm,Fp];simp [hk])) h6
          ·exact ⟨a',0,rfl,Nat.le_refl _,by simp,dc.imp (fun h=>⟨h,rfl⟩) id,.inr (.inl rfl)⟩
         ·simp [V.R]
        ·simp [V.R]
      ·simp [V.R]
    ·simp [V.R]
    ·simp only [V.R] at h ⊢;obtain ⟨vs,h1,h2⟩:=h;exact ⟨vs,h1,kS _ _ h2⟩
    ·simp only [V.R] at h ⊢;obtain ⟨vs,h1,h2⟩:=h;exact ⟨vs,h1,kS _ _ h2⟩
    ·simp only [V.R] at h ⊢;obtain ⟨vs,h1,h2⟩:=h;exact ⟨vs,h1,kS _ _ h2⟩
    ·simp only [V.R] at h ⊢;obtain ⟨vs,h1,h2⟩:=h;exact ⟨vs,h1,kS _ _ h2⟩
    ·simp only [V.R] at h ⊢;obtain ⟨a,cap,h1,h2,_,h4,h5⟩:=h;refine ⟨a,cap,h1,h2,by simp,h4,?_⟩;rcases h5 with h5 | h5 | ⟨g,off,k1,k2,k3⟩
     ·exact .inl h5
     ·exact .inr (.inl h5)
     ·obtain ⟨cells,e,fr,k4,k5⟩:=k3;exact .inr <| .inr ⟨g,off,k1,cm _ k2,cells,e,fr,k4,k5.keep hE cm (dE.refl _)⟩
    ·simp [V.R] at h
    ·simp [V.R]
    ·rename_i h1 h2 h3 h4 h5 h7 h6 h8 h9;cases c
     case osl=>exact absurd rfl (h8 _ _ _ _)
     case eptr=>exact absurd rfl (h9 _ _ _)
     case ptr=>exact absurd rfl (h2 _ _)
     case sl=>exact absurd rfl (h1 _ _ _ _)
     case agg=>exact absurd rfl (h3 _)
     case tup=>exact absurd rfl (h4 _)
     case fn=>exact absurd rfl (h5 _ _)
     case box=>exact absurd rfl (h7 _ _)
     case dsl=>exact absurd rfl (h6 _ _ _)
     case dptr=>exact (h.keep hE cm (dE.refl _):V.R P Ir μ w _ u) |> (fun h=>by simpa only [V.R] using h)
     all_goals (first | (simp only [V.R] at h;done) | (simp only [V.R];done) | (simp only [V.R] at h ⊢;exact h))
  have Ff:∀(n:Nat) (c:V) (u:Value),V.R P Im μ w c u->V.R P Ir μr w (frz P s.hp ids aW.length n c) u:=by
   intro n;induction n with
   | zero=>intro c u _;simp [frz,V.R]
   | succ n ih=>
    have kS:∀(cs:List V) (us:List Value),V.RL P Im μ w cs us->V.RL P Ir μr w (cs.map (frz P s.hp ids aW.length n)) us:=by
     intro cs;induction cs with
     | nil=>intro us h;simpa [V.RL] using h
     | cons c cs lF=>
      intro us h;simp only [V.RL] at h;obtain ⟨u,us',rfl,h1,h2⟩:=h;simp only [List.map_cons,V.RL];exact ⟨u,us',rfl,ih c u h1,lF us' h2⟩
    intro c u h;unfold frz;split
    ·rename_i b off k full;split
     ·rename_i j hj;simp only [V.R] at h ⊢;rcases h with ⟨g,cap,e,N,i,hg,r⟩ | h
      ·exact .inl ⟨g,cap,e,N,i,hρ b j g hj hg,r⟩
      ·exact .inr h
     ·exact ud (Wc (n+1) _ u h)
    ·rename_i b off;split
     ·rename_i j hj;simp only [V.R] at h ⊢;obtain ⟨g,hg,r⟩:=h;exact ⟨g,hρ b j g hj hg,r⟩
     ·simp [V.R]
    ·rename_i b base rel;split
     ·rename_i j hj;simp only [V.R] at h ⊢;obtain ⟨g,hg,r⟩:=h;exact ⟨g,hρ b j g hj hg,r⟩
     ·simp [V.R]
    ·simp only [V.R] at h ⊢;obtain ⟨vs,h1,h2⟩:=h;exact ⟨vs,h1,kS _ _ h2⟩
    ·simp only [V.R] at h ⊢;obtain ⟨vs,h1,h2⟩:=h;exact ⟨vs,h1,kS _ _ h2⟩
    ·simp only [V.R] at h ⊢;obtain ⟨vs,h1,h2⟩:=h;exact ⟨vs,h1,kS _ _ h2⟩
    ·simp only [V.R] at h ⊢;obtain ⟨vs,h1,h2⟩:=h;exact ⟨vs,h1,kS _ _ h2⟩
    ·rename_i h1 h2 h7 h3 h4 h5 h6;cases c
     case eptr=>exact absurd rfl (h7 _ _ _)
     case ptr=>exact absurd rfl (h2 _ _)
     case sl=>exact absurd rfl (h1 _ _ _ _)
     case agg=>exact absurd rfl (h3 _)
     case tup=>exact absurd rfl (h4 _)
     case fn=>exact absurd rfl (h5 _ _)
     case box=>exact absurd rfl (h6 _ _)
     case dsl=>exact (h.keep hE cm (dE.refl _):V.R P Ir μ w _ u) |> (fun h=>by simpa only [V.R] using h)
     case dptr=>exact (h.keep hE cm (dE.refl _):V.R P Ir μ w _ u) |> (fun h=>by simpa only [V.R] using h)
     all_goals (first | (simp only [V.R] at h;done) | (simp only [V.R];done) | (simp only [V.R] at h ⊢;exact h))
  have hle:dE μ0 μr:=by
   intro b g hg;rw [vC b b (qL b (C.oT.cP b g hg))];exact C.le b g hg
  have gR:∀b,b∈((s.wr.filter fun b=>decide (b<aW.length)).eraseDups)↔b∈s.wr/\b<aW.length:=by intro b;simp
  have aD:∀(j:Nat) (blk:bM),(fQ P aW.length keep ids s).hp[j]?=some (some blk)->∃b,ids[j]?=some b/\((b<aW.length/\b∉s.wr/\s.hp[b]?=some (some blk))\/∃cb:bM,s.hp[b]?=some (some cb)/\blk=(cb.1.map (frz P s.hp ids aW.length 100),cb.2)):=by
   intro j blk h;simp only [fQ] at h;rw [List.getElem?_map] at h;obtain ⟨b,hb,h⟩:=Option.map_eq_some_iff.1 h;refine ⟨b,hb,?_⟩;have qK:∀x:bM,s.hp.getD b none=some x->s.hp[b]?=some (some x):=by
    intro x hx;rw [List.getD_eq_getElem?_getD] at hx;cases hq:s.hp[b]? with
    | none=>rw [hq] at hx;cases hx
    | some y=>rw [hq] at hx;simp at hx;rw [hx]
   split at h
   ·rename_i hc;simp only [Bool.and_eq_true,decide_eq_true_eq,Bool.not_eq_true'] at hc;exact .inl ⟨hc.1,by simpa using hc.2,qK _ h⟩
   ·obtain ⟨cb,h0,rfl⟩:=Option.map_eq_some_iff.1 h;exact .inr ⟨cb,qK _ h0,rfl⟩
  have cB:∀(j:Nat) (blk:bM),(fQ P aW.length keep ids s).hp[j]?=some (some blk)->∃(b:Nat) (cb:bM),ids[j]?=some b/\s.hp[b]?=some (some cb):=by
   intro j blk h;obtain ⟨b,hb,h⟩:=aD j blk h;rcases h with ⟨_,_,h⟩ | ⟨cb,h,_⟩
   ·exact ⟨b,_,hb,h⟩
   ·exact ⟨b,_,hb,h⟩
  have qK:∀b,b<aW.length->s.hp[b]?=some (s.hp.getD b none):=by
   intro b hb;have:b<s.hp.length:=by have:=C.len;omega
   rw [List.getD_eq_getElem?_getD,List.getElem?_eq_getElem this];rfl
  refine ⟨Ir,μr,?_,fun v u h=>Ff 100 v u h⟩;have Xy:∀c:V,c.isO=true->frz P s.hp ids aW.length 100 c=c:=by
   intro c hc;cases c <;> first | (simp [V.isO] at hc;done) | rfl
  have Md:∀j b,ids[j]?=some b->μ b=none->μr j=none:=fun j b h h0=>by rw [vC j b h];exact h0
  refine ⟨fun t => ?_,?_,C.defers,fun j blk h => ?_,fun j k b1 b2 g bc h1 h2 g1 g2 => ?_,fun j g hg => ?_,fun j g hg hj => ?_,fun j hj hn => ?_,?_,hle,fun j hj blk h g hg => ?_,?_,fun b hb hn => ?_,fun b hb h => ?_,fun b hb fg => ?_,fun k h=> .inl (C.dI k h),fun k hk => ?_,C.dB.step (.refl w (fun _=>False)) (fun _ h=> .inl h) fun k hk => ?_,C.oT⟩
  ·show V.R P Ir μr w ((normTm P s.hp ids aW.length s.tm keep ⟨s.tm.n,Tr.mk0 11⟩).get t) _;have h0:(⟨s.tm.n,Tr.mk0 11⟩:Tm).get t= .cw:=by
    unfold Tm.get;cases Nat.blt t s.tm.n
    ·rfl
    ·exact Tr.Bi _ _
   rcases N6 (P:=P) s.hp ids aW.length s.tm t keep ⟨s.tm.n,Tr.mk0 11⟩ with h | h | h
   ·rw [h,h0];simp [V.R]
   ·rw [h];simp [V.R]
   ·rw [h];exact Ff 100 _ _ (C.tm t)
  ·show a.tmps.size=(normTm P s.hp ids aW.length s.tm keep ⟨s.tm.n,Tr.mk0 11⟩).n;rw [N7];exact C.size
  ·obtain ⟨b,hb,h⟩:=aD j blk h;rcases h with ⟨bO,fL,h⟩ | ⟨cb,h0,rfl⟩
   ·have hj:j=b:=by
     have h1:=m8 vn (qL b bO);rw [m8 vn hb] at h1;cases h1;rfl
    subst hj;have h0:aW[j]?=some (some blk):=by rw [<- C.frame j bO fL];exact h
    have LQ:μ.ft j=μ0.ft j:=C.dj j bO fL;refine (C.oT.holds j blk h0).keep C.cJ (fun k h=> .inl (C.dI k h)) hle (fun hn=>Md j j hb ?_) ((jF j j hb).trans LQ) (fun g hg hx => ?_) (fun g hg=>AW j blk g (List.mem_of_getElem? hb) h ?_)
    ·cases hq:μ j with
     | none=>rfl
     | some g=>rw [C.mI j g hq bO] at hn;cases hn
    ·obtain ⟨c,cr,cd,cg⟩:=hx;obtain ⟨bG,b6⟩:=C.wA c cr cd;exact C.oT.inj j c _ _ g (by rintro rfl;exact fL cr) h0 b6 hg cg
    ·rcases hg with hg | hg
     ·exact .inl (C.le j g hg)
     ·rw [<- LQ] at hg;exact .inr hg
   ·have h6:∀ {F:List Nat} {vs:List Value},CR P Im μ w F cb.1 vs->CR P Ir μr w F (cb.1.map (frz P s.hp ids aW.length 100)) vs:=fun h=>Bh (f:=frz P s.hp ids aW.length 100) (fun c u h=>Ff 100 c u h) Xy (fun o c=>by cases o <;> rfl) cm h;have h7:(flat (cb.1.map (frz P s.hp ids aW.length 100))).length=(flat cb.1).length:=by
     exact Fa (fun o c=>by cases o <;> rfl) (fun x hx=>Wf hx) cb.1
    rcases C.holds b cb h0 with ⟨g,cs,fr,hg,Mf,hw,h3,⟨h4,h5⟩,h8,h9⟩ | ⟨k1,k3⟩ | ⟨g,es,ck,c,hg,Mf,hw,rfl,h4,h5⟩
    ·refine .inl ⟨g,cs,fr,by rw [vC j b hb];exact hg,AW b cb g (List.mem_of_getElem? hb) h0 (.inl hg),hw,h3,⟨?_,?_⟩,by rw [jF j b hb];exact h8,fun k hk => ?_⟩
     ·show (flat (cb.1.map (frz P s.hp ids aW.length 100))).length<=_;rw [h7];exact h4
     ·show CR P Ir μr w (μr.ft j) (cb.1.map (frz P s.hp ids aW.length 100)) (List.take (flat (cb.1.map (frz P s.hp ids aW.length 100))).length _);rw [h7,jF j b hb];exact h6 h5
     ·rw [jF j b hb] at hk;exact ⟨AW b cb k (List.mem_of_getElem? hb) h0 (.inr hk),(h9 k hk).2⟩
    ·exact .inr (.inl ⟨Md j b hb k1,by rw [jF j b hb];exact k3⟩)
    ·exact .inr (.inr ⟨g,es,ck,c,by rw [vC j b hb];exact hg,AW b _ g (List.mem_of_getElem? hb) h0 (.inl hg),hw,rfl,h4.keep (.refl w (fun _=>False)) cm,by rw [jF j b hb];exact h5⟩)
  ·obtain ⟨b,cb,hb,h0⟩:=cB j b1 h1;obtain ⟨c,qg,hc,h1⟩:=cB k b2 h2;refine C.inj b c _ _ g (fun e=>bc ?_) h0 h1 (gd j b g hb g1) (gd k c g hc g2);subst e;have h3:=m8 vn hb;rw [m8 vn hc] at h3;cases h3;rfl
  ·cases hq:ids[j]? with
   | none=>simp [μr,hq] at hg
   | some b=>simpa [fQ] using (List.getElem?_eq_some_iff.1 hq).1
  ·rw [vC j j (qL j hj)] at hg;exact C.mI j g hg hj
  ·rw [jF j j (qL j hj)];exact C.dj j hj fun h=>hn ((gR j).2 ⟨h,hj⟩)
  ·refine C.cJ.mono fun k hk => ?_;obtain ⟨b,hb,bO,hg⟩:=hk;exact ⟨b,(gR b).2 ⟨hb,bO⟩,bO,hg⟩
  ·obtain ⟨b,cb,hb,h0⟩:=cB j blk h;have vg:aW.length<=b\/b∈s.wr:=by
    rcases hj with hj | hj
    ·exact .inl (XE j b hj hb)
    ·have h3:=(gR j).1 hj;rw [qL j h3.2] at hb;cases hb;exact .inr h3.1
   rcases C.er b vg cb h0 g (gd j b g hb hg) with h | ⟨c,cr,cd,cg,b6⟩
   ·exact .inl h
   ·exact .inr ⟨c,(gR c).2 ⟨cr,cd⟩,cd,cg,b6⟩
  ·simp only [fQ,List.length_map];exact hlen
  ·have fL:b∉s.wr:=fun h=>hn ((gR b).2 ⟨h,hb⟩);simp only [fQ];rw [List.getElem?_map,qL b hb];simp only [Option.map_some];rw [if_pos (by simp [fL,hb]),<- qK b hb];exact C.frame b hb fL
  ·obtain ⟨blk,h⟩:=h;obtain ⟨c,cb,hc,h0⟩:=cB b blk h;rw [qL b hb] at hc;cases hc;exact C.alive b hb ⟨cb,h0⟩
  ·exact C.wA b ((gR b).1 hb).1 fg
  ·rcases hk with h | ⟨b,ib,bO,⟨blk,hb⟩,hg⟩
   ·rcases C.eY k h with h | h | ⟨c,cr,cd,cg,b6⟩
    ·exact .inl h
    ·exact .inr (.inl h)
    ·exact .inr (.inr ⟨c,(gR c).2 ⟨cr,cd⟩,cd,cg,b6⟩)
   ·rcases C.er b (.inl bO) blk hb k hg with h | ⟨c,cr,cd,cg,b6⟩
    ·exact .inr (.inl h)
    ·exact .inr (.inr ⟨c,(gR c).2 ⟨cr,cd⟩,cd,cg,b6⟩)
  ·rcases hk with h | ⟨b,_,_,⟨blk,hb⟩,hg⟩
   ·exact C.dB k h
   ·exact (C.holds b blk hb).lt hg
theorem as5 {m:Nat} {keep ids:List Nat} {s:St} (hp:jq m ids=true):mF P m s (fQ P m keep ids s):=
 ⟨(s7 hp).st,fun e _ _ _ _ C=>by
   obtain ⟨I',μ',h,_⟩:=(s7 (keep:=keep) hp).run e C;exact ⟨I',μ',h⟩⟩
theorem mF.trans {m:Nat} {a b c:St} (h:mF P m a b) (k:mF P m b c):mF P m a c:=
 ⟨fun aW e hs=>k.st aW e (h.st aW e hs),fun e _ _ _ _ C=>by
  obtain ⟨_,_,C'⟩:=h.run e C;exact k.run e C'⟩
structure mG (P:Program) (m:Nat) (s s':St):Prop where
 st:∀aW:Hp,aW.length=m->SR aW s->SR aW s'
 run:∀ {aW:Hp} {I0:Nat->Prop} {μ0:Mu} {w0:World},aW.length=m->∀ {a:Act} {w:World} {Im:Nat->Prop} {μ:Mu},CI P aW I0 μ0 w0 s a w Im μ->CI P aW I0 μ0 w0 s' a w Im μ
theorem mG.refl (m:Nat) (s:St):mG P m s s:=⟨fun _ _ h=>h,fun _ _ _ _ _ C=>C⟩
theorem mG.trans {m:Nat} {a b c:St} (h:mG P m a b) (k:mG P m b c):mG P m a c:=⟨fun aW e hs=>k.st aW e (h.st aW e hs),fun e _ _ _ _ C=>k.run e (h.run e C)⟩
theorem mG.CD {m:Nat} {a b:St} (h:mG P m a b):mF P m a b:=⟨h.st,fun e _ _ _ _ C=>⟨_,_,h.run e C⟩⟩
theorem Az:∀l:List V,(gL l).length=(flat l).length
 | []=>rfl
 | x::t=>by
  rcases gg x with ⟨o,c,rfl⟩ | hx
  ·rw [K4,iF,List.length_append,List.length_append,Az t]
  ·rw [K3 hx,fH hx,List.length_cons,List.length_cons,Az t]
theorem qC (o:Bool) (c:List V):flat [mkS o c]=c:=by rw [iF];simp [flat]
theorem Holds.Tk {I:Nat->Prop} {μ:Mu} {w:World} {b:Nat} {blk:bM} (h:Holds P I μ w b blk) (hr:V.refsL blk.1=[]):Holds P I μ w b ([mkS (hasO blk.1) (gL blk.1)],blk.2):=by
 have hl:=Az blk.1;rcases h with ⟨g,cs,fr,h1,h2,h3,h4,⟨h5,h6⟩,h7,h8⟩ | ⟨h1,h3⟩ | ⟨g,es,ck,c,h1,h2,h3,rfl,h4,h5⟩
 ·refine .inl ⟨g,cs,fr,h1,h2,h3,h4,⟨?_,?_⟩,h7,h8⟩
  ·show (flat [_]).length<=_;rw [qC,hl];exact h5
  ·show CR P I μ w _ [_] (List.take (flat [_]).length _);rw [qC,hl];exact CR.tq (h6.lZ hr)
 ·exact .inr (.inl ⟨h1,h3⟩)
 ·exact .inr (.inr ⟨g,es,ck,c,h1,h2,h3,rfl,h4,h5⟩)
theorem aK6 {m b:Nat} {s:St}:mG P m s (sealSt m b s):=by
 generalize h:sealSt m b s=s';unfold sealSt at h;split at h;case h_2=>subst h;exact .refl m s
 case h_1 blk hb=>
 split at h;case h_2=>subst h;exact .refl m s
 case h_1 hm h2=>
 subst h;have hm':m<=b\/b∈s.wr:=by
  simp only [Bool.and_eq_true,Bool.or_eq_true] at hm;rcases hm.1 with h | h
  ·exact .inl (Nat.le_of_ble_eq_true h)
  ·exact .inr (by simpa using h)
 have bO:b<s.hp.length:=fk hb;have aD:∀(k:Nat) (bG:bM),(s.hp.set b (some ([mkS (hasO blk.1) (gL blk.1)],blk.2)))[k]?=some (some bG)->(k=b/\bG=([mkS (hasO blk.1) (gL blk.1)],blk.2))\/(k≠b/\s.hp[k]?=some (some bG)):=by
  intro k bG h;rw [List.getElem?_set] at h;split at h
  ·rename_i e;cases h;exact .inl ⟨e.symm,rfl⟩
  ·rename_i e;exact .inr ⟨fun x=>e x.symm,h⟩
 have cB:∀(k:Nat) (bG:bM),(s.hp.set b (some ([mkS (hasO blk.1) (gL blk.1)],blk.2)))[k]?=some (some bG)->∃cb,s.hp[k]?=some (some cb):=by
  intro k bG h;rcases aD k bG h with ⟨rfl,_⟩ | ⟨_,h⟩
  ·exact ⟨_,hb⟩
  ·exact ⟨_,h⟩
 have bc:∀k,k<m->k∉s.wr->(s.hp.set b (some ([mkS (hasO blk.1) (gL blk.1)],blk.2)))[k]?=s.hp[k]?:=fun k hk hn=>by
  rw [List.getElem?_set,if_neg];rintro rfl;rcases hm' with h | h
  ·omega
  ·exact hn h
 constructor
 ·intro aW e hs;subst e;refine ⟨by simpa using hs.len,fun k hk hn=>by show (s.hp.set b _)[k]?=_;rw [bc k hk hn];exact hs.frame k hk hn,fun k hk ⟨bG,dX⟩=>hs.alive k hk (cB k bG dX)⟩
 ·intro aW I0 μ0 w0 e a w Im μ C;subst e;refine ⟨C.tm,C.size,C.defers,fun k bG h => ?_,fun k j b1 b2 g XN h1 h2 g1 g2 => ?_,fun k g hg=>by simpa using C.cP k g hg,C.mI,C.dj,C.cJ,C.le,fun k hk bG h g hg => ?_,by simpa using C.len,fun k hk hn=>by show (s.hp.set b _)[k]?=_;rw [bc k hk hn];exact C.frame k hk hn,fun k hk ⟨bG,dX⟩=>C.alive k hk (cB k bG dX),C.wA,C.dI,C.eY,C.dB,C.oT⟩
  ·rcases aD k bG h with ⟨rfl,rfl⟩ | ⟨_,h⟩
   ·exact (C.holds k blk hb).Tk h2
   ·exact C.holds k bG h
  ·obtain ⟨_,k1⟩:=cB k b1 h1;obtain ⟨_,k2⟩:=cB j b2 h2;exact C.inj k j _ _ g XN k1 k2 g1 g2
  ·obtain ⟨_,k1⟩:=cB k bG h;exact C.er k hk _ k1 g hg
theorem BR {m:Nat}:∀(bs:List Nat) (s:St),mG P m s (sealAll m bs s)
 | [],s=> .refl m s
 | b::bs,s=>aK6.trans (BR bs _)
theorem aK4 {m:Nat} (bs:List Nat) (s:St):mF P m s (sealAll m bs s):=(BR bs s).CD
mutual
def V.BB:V->List Nat
 | .ptr b _=>[b]
 | .agg cs=>V.vL cs
 | .tup cs=>V.vL cs
 | .fn _ cs=>V.refsL cs
 | .box _ cs=>V.refsL cs
 | _=>[]
def V.vL:List V->List Nat
 | []=>[]
 | c::cs=>V.BB c++V.vL cs
end
structure Kp where
 keep:List Nat
 perm:Option (List Nat×List Nat):=none
 wr:List Nat:=[]
 pk:Option (TypeId->Nat->Option TypeId):=none
 eu:List Nat:=[]
 GJ:List (Nat×TypeId):=[]
 rk:Bool:=false
 lI:List (Nat×Nat):=[]
 yn:List Nat:=[]
def Kp.ids (k:Kp) (m:Nat) (s:St):List Nat:=match k.perm with
 | some p=>p.1
 | none=>match k.pk with
  | none=>match k.rk with
   | false=>reach s.hp 100000 (k.keep.flatMap fun i=>(s.tm.get i).refs) (List.range m)
   | true=>(List.range m++(k.keep.flatMap fun i=>(s.tm.get i).refs).filter fun b=>Nat.ble m b).eraseDups
  | some _=>(List.range m++(k.keep.flatMap fun i=>(s.tm.get i).refs).filter fun b=>Nat.ble m b).eraseDups
def Kp.seals (k:Kp) (m:Nat) (s:St):List Nat:=match k.perm with
 | some p=>p.2
 | none=>(List.range (k.ids m s).length).filter fun j=>Nat.ble m j && !((k.keep.flatMap fun i=>(s.tm.get i).BB)++(k.ids m s).flatMap fun b=>match s.hp.getD b none with | some blk=>V.vL blk.1 | none=>[]).contains ((k.ids m s).getD j 0)
def wrS (m:Nat) (ws:List Nat) (s:St):St:=match ws with
 | []=>s
 | _::_=>match (ws.all fun b=>decide (b<m)&&(match s.hp[b]? with | some (some _)=>true | _=>false))&&s.wr.all fun b=>ws.contains b with
  | true=>⟨s.tm,s.hp,ws⟩
  | false=>s
theorem aV3 {m:Nat} {ws:List Nat} {s:St}:mG P m s (wrS m ws s):=by
 unfold wrS;split
 ·exact .refl m s
 split;case h_2=>exact .refl m s
 rename_i hc;rw [Bool.and_eq_true,List.all_eq_true,List.all_eq_true] at hc;obtain ⟨h1,h2⟩:=hc;have cm:∀b∈s.wr,b∈_:=fun b hb=>by simpa only [List.contains_iff_mem] using h2 b hb
 constructor
 ·intro aW e C;exact ⟨C.len,fun b hb hn=>C.frame b hb fun h=>hn (cm b h),C.alive⟩
 ·intro aW I0 μ0 w0 e a w Im μ C;subst e;refine ⟨C.tm,C.size,C.defers,C.holds,C.inj,C.cP,C.mI,fun b hb hn=>C.dj b hb fun h=>hn (cm b h),C.cJ.mono fun k ⟨b,hb,hg⟩=>⟨b,cm b hb,hg⟩,C.le,fun b hb blk hk g hg => ?_,C.len,fun b hb hn=>C.frame b hb fun h=>hn (cm b h),C.alive,fun b hb hl => ?_,C.dI,fun k hk => ?_,C.dB,C.oT⟩
  ·by_cases bT:aW.length<=b\/b∈s.wr
   ·rcases C.er b bT blk hk g hg with h | ⟨c,k1,k2⟩
    ·exact .inl h
    ·exact .inr ⟨c,cm c k1,k2⟩
   ·simp only [not_or,Nat.not_le] at bT;have fy:=hb.resolve_left ag;refine .inr ⟨b,fy,bT.1,?_,C.alive b bT.1 ⟨_,hk⟩⟩;rcases hg with hg | hg
    ·exact .inl (C.mI b g hg bT.1)
    ·rw [C.dj b bT.1 bT.2] at hg;exact .inr hg
  ·have:=h1 b hb;rw [Bool.and_eq_true] at this;refine C.alive b hl ?_;have h3:=this.2;split at h3
   ·rename_i blk hb;exact ⟨blk,hb⟩
   ·cases h3
  ·rcases C.eY k hk with h | h | ⟨c,k1,k2⟩
   ·exact .inl h
   ·exact .inr (.inl h)
   ·exact .inr (.inr ⟨c,cm c k1,k2⟩)
def gc (P:Program) (m:Nat) (ids seals:List Nat) (v:V) (s:St):aF:=⟨V.can (frz P s.hp ids m 100 v),(sealAll m seals (fQ P m [] ids s)).hp,(sealAll m seals (fQ P m [] ids s)).wr⟩
theorem Qn {m:Nat}:∀(bs:List Nat) (s:St),(sealAll m bs s).wr=s.wr
 | [],s=>rfl
 | b::bs,s=>by
  unfold sealAll;rw [Qn bs];unfold sealSt;split
  ·split <;> rfl
  ·rfl
theorem CI.ke {aW:Hp} {I0 Ir:Nat->Prop} {μ0 μr:Mu} {w0 w:World} {s':St} {a:Act} (C':CI P aW I0 μ0 w0 s' a w Ir μr):
  ∃μ2,dE μr μ2/\Good P I0 Ir μ0 μ2 w0 w aW s'.hp (List.range aW.length) s'.wr:=by
 let μ2:Mu:=⟨μr.nm,fun b=>if b<s'.hp.length then μr.ft b else μ0.ft b⟩
 have hle:dE μr μ2:=fun _ _ h=>h;have jF:∀b,b<s'.hp.length->μ2.ft b=μr.ft b:=fun b h=>by simp [μ2,h]
 have bQ:∀b blk,s'.hp[b]?=some (some blk)->b<s'.hp.length:=fun b blk h=>(List.getElem?_eq_some_iff.1 h).1;have gd:∀b g,b<s'.hp.length->μ2.own b g->μr.own b g:=fun b g h hg=>by
  rcases hg with hg | hg
  ·exact .inl hg
  ·rw [jF b h] at hg;exact .inr hg
 have hlen:aW.length<=s'.hp.length:=C'.len;refine ⟨μ2,hle,⟨C'.dI,fun k hk => ?_,C'.cJ.mono fun k ⟨b,hb,_,hg⟩=>⟨b,hb,hg⟩,fun b g h=>C'.le b g h,fun b g hg => ?_,fun b hb hn => ?_,fun b _ blk h => ?_,fun b hb blk h g hg => ?_,fun b c b1 b2 g bc _ _ h1 h2 g1 g2=>C'.inj b c b1 b2 g bc h1 h2 (gd b g (bQ b b1 h1) g1) (gd c g (bQ c b2 h2) g2)⟩⟩
 ·rcases C'.eY k hk with h | h | ⟨c,cr,cd,cg,b6⟩
  ·exact .inl h
  ·exact .inr (.inl ⟨h,C'.dB k hk⟩)
  ·exact .inr (.inr ⟨c,cr,cg,b6⟩)
 ·by_cases hb:b<aW.length
  ·exact .inl (C'.mI b g hg hb)
  ·exact .inr ⟨ag,C'.cP b g hg⟩
 ·by_cases hl:b<s'.hp.length
  ·rw [jF b hl];exact C'.dj b ag hb
  ·simp [μ2,hl]
 ·exact (C'.holds b blk h).keep (.refl w (fun _=>False)) (.refl _) hle (fun h=>h) (jF b (bQ b blk h)) (fun _ _ h=>h) (fun g hg=>(C'.holds b blk h).kV hg)
 ·rcases C'.er b hb blk h g (gd b g (bQ b blk h) hg) with h | ⟨c,cr,cd,cg,b6⟩
  ·exact .inl h
  ·exact .inr ⟨c,cr,cg,b6⟩
theorem Wo {aW:Hp} {I0 Im:Nat->Prop} {μ0 μ:Mu} {w0 w:World} {s:St} {a:Act} {v:V} {val:Value} {ids seals:List Nat} (hp:jq aW.length ids=true) (C:CI P aW I0 μ0 w0 s a w Im μ) (hv:V.R P Im μ w v val):
  ∃μr Ir,V.R P Ir μr w (gc P aW.length ids seals v s).v val/\Good P I0 Ir μ0 μr w0 w aW (gc P aW.length ids seals v s).hp (List.range aW.length) (gc P aW.length ids seals v s).wr:=by
 obtain ⟨Ir,μr,C1,hV⟩:=(s7 (keep:=[]) hp).run rfl C;obtain ⟨μ2,hle,G⟩:=((BR (P:=P) seals (fQ P aW.length [] ids s)).run rfl C1).ke;exact ⟨μ2,Ir,(Dn _ _ (hV _ _ hv)).keep (.refl w (fun _=>False)) (.refl _) hle,G⟩
theorem Wp {aW:Hp} {s:St} {v:V} {ids seals:List Nat} (hp:jq aW.length ids=true) (C:SR aW s):zH aW (gc P aW.length ids seals v s):=by
 have C':=(BR (P:=P) seals (fQ P aW.length [] ids s)).st aW rfl ((s7 (P:=P) (keep:=[]) hp).st aW rfl C);exact ⟨C'.len,fun b hb hn=>C'.frame b hb hn,fun b hb=>by simp only [gc,Qn,fQ,List.mem_eraseDups,List.mem_filter,decide_eq_true_eq] at hb;exact hb.2,C'.alive⟩
end
structure fu (P:Program) (hp br:Hp) (bs:List Nat):Prop where
 tidy:Tidy hp br bs bs
 run:∀ {I:Nat->Prop} {μ:Mu} {w:World} {acc:List Nat},cV P I μ w hp acc br.length->(∀b∈bs,b∈acc)->∃μ1,Good P I I μ μ1 w w hp br acc bs
section
variable {P:Program} {hp br dY:Hp} {bs DH DI:List Nat}
theorem Good.back {I I':Nat->Prop} {μ μ1:Mu} {w w1:World} {acc wr:List Nat} (G:Good P I I' μ μ1 w w1 hp br acc wr) (gR:∀b∈wr,b<hp.length) (ht:∀b,b<hp.length->b∉wr->br[b]?=hp[b]?) {c:Nat} {blk:bM} (hc:br[c]?=some (some blk)) {g:Nat} (hg:μ1.own c g):
  w.heap.size<=g\/∃d,(d∈wr\/d=c)/\d<hp.length/\μ.own d g/\∃blk,hp[d]?=some (some blk):=by
 by_cases h:hp.length<=c\/c∈wr
 ·rcases G.er c h blk hc g hg with h | ⟨d,h1,h2,h3⟩
  ·exact .inl h
  ·exact .inr ⟨d,.inl h1,gR d h1,h2,h3⟩
 ·simp only [not_or,Nat.not_le] at h;refine .inr ⟨c,.inr rfl,h.1,?_,blk,by rw [<- ht c h.1 h.2];exact hc⟩;rcases hg with hg | hg
  ·rcases G.cP c g hg with h' | ⟨h',_⟩
   ·exact .inl h'
   ·omega
  ·rw [G.dj c h.2 ag] at hg;exact .inr hg
def lG (hp:Hp) (l:List Nat):List Nat:=l.filter fun b=>decide (b<hp.length)
theorem fO {b:Nat} {l:List Nat}:b∈lG hp l↔b∈l/\b<hp.length:=by simp [lG]
theorem Tidy.comp {lu eM:List Nat} (h:Tidy hp br bs bs) (k:Tidy br dY lu eM):Tidy hp dY (lG hp (bs++lu)) (lG hp (bs++eM)):=by
 refine ⟨Nat.le_trans h.len k.len,fun b hb hn => ?_,fun b hb => ?_,fun b hb=>(fO.1 hb).2,fun b hb => ?_⟩
 ·have h1:b∉bs:=fun h1=>hn (fO.2 ⟨by simp [h1],hb⟩);have h2:b∉eM:=fun h1=>hn (fO.2 ⟨by simp [h1],hb⟩);rw [k.frame b (Nat.lt_of_lt_of_le hb h.len) h2,h.frame b hb h1]
 ·obtain ⟨h1,h2⟩:=fO.1 hb;refine fO.2 ⟨?_,h2⟩;rcases List.mem_append.1 h1 with h1 | h1
  ·exact List.mem_append.2 (.inl h1)
  ·exact List.mem_append.2 (.inr (k.lj b h1))
 ·obtain ⟨h1,h2⟩:=fO.1 hb;by_cases h3:b∈bs
  ·exact h.lh b h3
  ·rcases List.mem_append.1 h1 with h1 | h1
   ·exact absurd h1 h3
   ·obtain ⟨blk,bz⟩:=k.lh b h1;exact ⟨blk,by rw [<- h.frame b h2 h3];exact bz⟩
theorem Good.comp {I I':Nat->Prop} {μ μ1 μ2:Mu} {w w2:World} {acc lu Du eM:List Nat} {top:Nat} (t1:Tidy hp br bs bs) (pre:cV P I μ w hp acc top) (G1:Good P I I μ μ1 w w hp br acc bs) (t2:Tidy br dY Du eM) (m1:∀b∈eM,b∈lu)
  (ha:∀b,b<hp.length->b∈acc->b∈lu\/∀blk,br[b]?≠some (some blk)) (hn:∀b,hp.length<=b->b<br.length->b∈lu) (hb:∀b∈bs,b∈acc) (YO:∀b∈eM,b<hp.length->b∈acc)
  (G2:Good P I I' μ1 μ2 w w2 br dY lu eM):Good P I I' μ μ2 w w2 hp dY acc (lG hp (bs++eM)):=by
 have hh:∀b,(b∈acc\/hp.length<=b)->∀blk,br[b]?=some (some blk)->b∈lu\/br.length<=b:=by
  intro b h blk bz
  have hl:=(List.getElem?_eq_some_iff.1 bz).1
  rcases Nat.lt_or_ge b hp.length with h1 | h1
  ·rcases h with h | h
   ·rcases ha b h1 h with h2 | h2
    ·exact .inl h2
    ·exact absurd bz (h2 blk)
   ·omega
  ·exact .inl (hn b h1 hl)
 have back:∀c,c∈eM->∀g,μ1.own c g->(∃blk,br[c]?=some (some blk))->∃d∈lG hp (bs++eM),μ.own d g/\∃blk,hp[d]?=some (some blk):=by
  rintro c hc g hg ⟨blk,bz⟩
  have bQ:g<w.heap.size:=by
   have eC:c∈acc\/hp.length<=c:=by
    rcases Nat.lt_or_ge c hp.length with h | h
    ·exact .inl (YO c hc h)
    ·exact .inr h
   exact (G1.holds c eC blk bz).lt hg
  rcases G1.back (fun b bT=>t1.jx b bT) t1.frame bz hg with h | ⟨d,h1,h2,h3,h4⟩
  ·omega
  ·refine ⟨d,fO.2 ⟨?_,h2⟩,h3,h4⟩
   rcases h1 with h1 | rfl
   ·simp [h1]
   ·simp [hc]
 have dead:∀b,b<br.length->b∉eM->∀blk,dY[b]?=some (some blk)->br[b]?=some (some blk):=by
  intro b h1 h2 blk h3;rw [<- t2.frame b h1 h2];exact h3
 have FF:∀b,(b∈acc\/hp.length<=b)->∀blk,dY[b]?=some (some blk)->b∈lu\/br.length<=b:=by
  intro b h blk bz
  rcases Nat.lt_or_ge b br.length with h1 | h1
  ·by_cases h2:b∈eM
   ·exact .inl (m1 b h2)
   ·exact hh b h blk (dead b h1 h2 blk bz)
  ·exact .inr h1
 refine ⟨G2.dI,fun k hk => ?_,?_,G1.le.trans G2.le,fun b g h => ?_,fun b h1 h2 => ?_,fun b h blk bz=>G2.holds b (FF b h blk bz) blk bz,fun b h blk bz g hg => ?_,fun b c b1 b2 g bc h1 h2 h3 h4=>G2.inj b c b1 b2 g bc (FF b h1 b1 h3) (FF c h2 b2 h4) h3 h4⟩
 ·rcases G2.eY k hk with h | h | ⟨c,h1,h2,h3⟩
  ·exact .inl h
  ·exact .inr (.inl h)
  ·exact .inr (.inr (back c h1 k h2 h3))
 ·refine G2.cJ.mono fun k ⟨c,h1,h2⟩ => ?_
  obtain ⟨d,h3,h4,_⟩:=back c h1 k h2 (t2.lh c h1)
  exact ⟨d,h3,h4⟩
 ·rcases G2.cP b g h with h | ⟨h1,h2⟩
  ·rcases G1.cP b g h with h | ⟨h1,h2⟩
   ·exact .inl h
   ·exact .inr ⟨h1,Nat.lt_of_lt_of_le h2 t2.len⟩
  ·exact .inr ⟨Nat.le_trans t1.len h1,h2⟩
 ·have h3:b∉eM:=by
   intro h3
   rcases Nat.lt_or_ge b hp.length with h4 | h4
   ·exact h1 (fO.2 ⟨by simp [h3],h4⟩)
   ·exact h2 ⟨h4,Nat.lt_of_lt_of_le (t2.jx b (t2.lj b h3)) t2.len⟩
  have h4:b∉bs:=fun h4=>h1 (fO.2 ⟨by simp [h4],t1.jx b h4⟩)
  rw [G2.dj b h3 (fun h=>h2 ⟨Nat.le_trans t1.len h.1,h.2⟩),G1.dj b h4 (fun h=>h2 ⟨h.1,Nat.lt_of_lt_of_le h.2 t2.len⟩)]
 ·by_cases h1:br.length<=b\/b∈eM
  ·rcases G2.er b h1 blk bz g hg with h | ⟨c,h2,h3,h4⟩
   ·exact .inl h
   ·exact .inr (back c h2 g h3 h4)
  ·simp only [not_or,Nat.not_le] at h1
   have W3:=dead b h1.1 h1.2 blk bz
   have u6:μ1.own b g:=by
    rcases hg with hg | hg
    ·rcases G2.cP b g hg with h | ⟨h,_⟩
     ·exact .inl h
     ·omega
    ·rw [G2.dj b h1.2 ag] at hg;exact .inr hg
   have bT:hp.length<=b\/b∈bs:=by
    rcases h with h | h
    ·exact .inl h
    ·rcases List.mem_append.1 (fO.1 h).1 with h | h
     ·exact .inr h
     ·exact absurd h h1.2
   rcases G1.er b bT blk W3 g u6 with h | ⟨c,h2,h3,h4⟩
   ·exact .inl h
   ·exact .inr ⟨c,fO.2 ⟨by simp [h2],t1.jx c h2⟩,h3,h4⟩
theorem cV.after {I:Nat->Prop} {μ μ1:Mu} {w:World} {acc lu:List Nat} {top:Nat} (pre:cV P I μ w hp acc top) (t1:Tidy hp br bs bs) (G:Good P I I μ μ1 w w hp br acc bs) (ha:∀b∈lu,b<hp.length->b∈acc):cV P I μ1 w br lu top:=by
 have hh:∀b∈lu,b∈acc\/hp.length<=b:=by
  intro b hb;rcases Nat.lt_or_ge b hp.length with h | h
  ·exact .inl (ha b hb h)
  ·exact .inr h
 refine ⟨pre.dB,fun b hb blk bz=>G.holds b (hh b hb) blk bz,fun b hb c hc b1 b2 g bc h1 h2 g1 g2=>G.inj b c b1 b2 g bc (hh b hb) (hh c hc) h1 h2 g1 g2,fun b h1 h2 => ?_⟩;cases h:μ1 b with
 | none=>rfl
 | some g=>
  rcases G.cP b g h with h | ⟨_,h3⟩
  ·rw [pre.fresh b (Nat.le_trans t1.len h1) h2] at h;cases h
  ·omega
theorem Good.frame {I I':Nat->Prop} {μ μ':Mu} {w w':World} {acc acc' Du wr:List Nat} {top:Nat} (pre:cV P I μ w hp acc' top) (cm:∀b∈acc,b∈acc') (t:Tidy hp br Du wr) (hw:∀b∈wr,b∈acc) (G:Good P I I' μ μ' w w' hp br acc wr):Good P I I' μ μ' w w' hp br acc' wr:=by
 have bQ:∀b∈wr,b<hp.length:=fun b hb=>by
  obtain ⟨blk,h⟩:=t.lh b hb;exact (List.getElem?_eq_some_iff.1 h).1
 have bJ:∀b,b∈acc'->¬(b∈acc\/hp.length<=b)->∀blk,br[b]?=some (some blk)->hp[b]?=some (some blk)/\(∀g,μ'.own b g->μ.own b g):=by
  intro b hb hn blk bz;simp only [not_or,Nat.not_le] at hn;have fL:b∉wr:=fun h=>hn.1 (hw b h);refine ⟨by rw [<- t.frame b hn.2 fL];exact bz,fun g hg => ?_⟩;rcases hg with hg | hg
  ·rcases G.cP b g hg with h | ⟨h,_⟩
   ·exact .inl h
   ·omega
  ·rw [G.dj b fL ag] at hg;exact .inr hg
 have other:∀b c blk bG g,b∈acc'->¬(b∈acc\/hp.length<=b)->(c∈acc\/hp.length<=c)->br[b]?=some (some blk)->br[c]?=some (some bG)->μ'.own b g->μ'.own c g->False:=by
  intro b c blk bG g hb hn hc h1 h2 g1 g2;obtain ⟨jB,gd⟩:=bJ b hb hn blk h1;have g1':=gd g g1;have n9:=(pre.holds b hb blk jB).lt g1';simp only [not_or,Nat.not_le] at hn;rcases G.back bQ t.frame h2 g2 with h | ⟨d,h3,h4,h5,fw,h6⟩
  ·omega
  ·have hd:d∈acc:=by
    rcases h3 with h3 | rfl
    ·exact hw d h3
    ·rcases hc with hc | hc
     ·exact hc
     ·omega
   exact pre.inj b hb d (cm d hd) _ _ g (by rintro rfl;exact hn.1 hd) jB h6 g1' h5
 refine ⟨G.dI,G.eY,G.cJ,G.le,G.cP,G.dj,fun b hb blk bz => ?_,fun b hb=>G.er b hb,fun b c b1 b2 g bc hb hc h1 h2 g1 g2 => ?_⟩
 ·by_cases hn:b∈acc\/hp.length<=b
  ·exact G.holds b hn blk bz
  ·have bT:b∈acc':=by rcases hb with h | h;exact h;exact absurd (.inr h) hn
   obtain ⟨h1,gd⟩:=bJ b bT hn blk bz;simp only [not_or,Nat.not_le] at hn;have fL:b∉wr:=fun h=>hn.1 (hw b h);refine (pre.holds b bT blk h1).keep G.cJ G.dI G.le (fun h0 => ?_) (G.dj b fL ag) (fun g hg hx => ?_) (fun g hg hi => ?_)
   ·cases hm:μ' b with
    | none=>rfl
    | some g=>
     rcases G.cP b g hm with h | ⟨h,_⟩
     ·rw [h] at h0;cases h0
     ·omega
   ·obtain ⟨c,cr,cg⟩:=hx;obtain ⟨bG,cW⟩:=t.lh c cr;exact pre.inj b bT c (cm c (hw c cr)) _ _ g (by rintro rfl;exact fL cr) h1 cW hg cg
   ·rcases G.eY g hi with h | ⟨h,_⟩ | ⟨c,cr,cg,bG,cW⟩
    ·exact (pre.holds b bT blk h1).kV hg h
    ·have:=(pre.holds b bT blk h1).lt hg;omega
    ·exact pre.inj b bT c (cm c (hw c cr)) _ _ g (by rintro rfl;exact fL cr) h1 cW hg cg
 ·by_cases xH:b∈acc\/hp.length<=b
  ·by_cases pA:c∈acc\/hp.length<=c
   ·exact G.inj b c b1 b2 g bc xH pA h1 h2 g1 g2
   ·have cW:c∈acc':=by rcases hc with h | h;exact h;exact absurd (.inr h) pA
    exact other c b b2 b1 g cW pA xH h2 h1 g2 g1
  ·have bT:b∈acc':=by rcases hb with h | h;exact h;exact absurd (.inr h) xH
   by_cases pA:c∈acc\/hp.length<=c
   ·exact other b c b1 b2 g bT xH pA h1 h2 g1 g2
   ·have cW:c∈acc':=by rcases hc with h | h;exact h;exact absurd (.inr h) pA
    obtain ⟨jB,o1⟩:=bJ b bT xH b1 h1;obtain ⟨jX,o2⟩:=bJ c cW pA b2 h2;exact pre.inj b bT c cW _ _ g bc jB jX (o1 g g1) (o2 g g2)
theorem cV.top {I:Nat->Prop} {μ:Mu} {w:World} {acc:List Nat} {top top':Nat} (pre:cV P I μ w hp acc top) (h:top'<=top):cV P I μ w hp acc top':=⟨pre.dB,pre.holds,pre.inj,fun b h1 h2=>pre.fresh b h1 (Nat.lt_of_lt_of_le h2 h)⟩
def ug (hp br:Hp) (acc:List Nat):List Nat:=acc++List.range' hp.length (br.length - hp.length)
theorem qQ {acc:List Nat} {b:Nat}:b∈ug hp br acc↔b∈acc\/(hp.length<=b/\b<br.length):=by
 unfold ug;rw [List.mem_append,List.mem_range'_1];constructor
 ·rintro (h | h)
  ·exact .inl h
  ·exact .inr ⟨h.1,ag⟩
 ·rintro (h | h)
  ·exact .inl h
  ·exact .inr ⟨h.1,ag⟩
theorem fu.trans (h:fu P hp br DH) (k:fu P br dY DI):fu P hp dY (lG hp (DH++DI)):=by
 refine ⟨h.tidy.comp k.tidy,fun {I μ w acc} pre hb => ?_⟩
 have eO:∀b∈DH,b∈acc:=fun b eO=>hb b (fO.2 ⟨by simp [eO],h.tidy.jx b eO⟩)
 obtain ⟨μ1,G1⟩:=h.run (pre.top k.tidy.len) eO
 have je:∀b∈DI,b∈ug hp br acc:=by
  intro b je
  rw [qQ]
  rcases Nat.lt_or_ge b hp.length with h1 | h1
  ·exact .inl (hb b (fO.2 ⟨by simp [je],h1⟩))
  ·exact .inr ⟨h1,k.tidy.jx b je⟩
 have ku:cV P I μ1 w br (ug hp br acc) dY.length:=pre.after h.tidy G1 fun b hb h1=>by
  rcases qQ.1 hb with h2 | h2
  ·exact h2
  ·omega
 obtain ⟨μ2,G2⟩:=k.run ku je
 exact ⟨μ2,Good.comp h.tidy pre G1 k.tidy je (fun b h1 h2=> .inl (qQ.2 (.inl h2))) (fun b h1 h2=>qQ.2 (.inr ⟨h1,h2⟩)) eO (fun b h1 h2=>hb b (fO.2 ⟨by simp [h1],h2⟩)) G2⟩
theorem gw.Pf {e:Operand->V} {op:Op} {out:Out} (h:fu P hp br bs) (k:gw P e br op out):gw P e hp op ⟨out.v,out.hp,lG hp (bs++out.acc),lG hp (bs++out.wr)⟩:=by
 refine ⟨h.tidy.comp k.tidy,fun {I μ w oper a K Q} ho bX pre hK => ?_⟩
 have eO:∀b∈bs,b∈lG hp (bs++out.acc):=fun b eO=>fO.2 ⟨by simp [eO],h.tidy.jx b eO⟩
 obtain ⟨μ1,G1⟩:=h.run (pre.top k.tidy.len) eO
 have ku:cV P I μ1 w br (ug hp br (lG hp (bs++out.acc))) out.hp.length:=pre.after h.tidy G1 fun b hb h1=>by
  rcases qQ.1 hb with h2 | h2
  ·exact h2
  ·omega
 have kf:∀b∈out.acc,b∈ug hp br (lG hp (bs++out.acc)):=by
  intro b hb
  rw [qQ]
  rcases Nat.lt_or_ge b hp.length with h1 | h1
  ·exact .inl (fO.2 ⟨by simp [hb],h1⟩)
  ·exact .inr ⟨h1,k.tidy.jx b hb⟩
 have aC0:cV P I μ1 w br out.acc out.hp.length:=⟨ku.dB,fun b hb=>ku.holds b (kf b hb),fun b hb c hc=>ku.inj b (kf b hb) c (kf c hc),ku.fresh⟩
 refine k.wp ho (fun x hx=>(bX x hx).keep (.refl w (fun _=>False)) (.refl I) G1.le) aC0 fun val w' μ' I' hR G2=>hK val w' μ' I' hR ?_
 have SA:=G2.frame ku kf k.tidy k.tidy.lj
 exact Good.comp h.tidy pre G1 k.tidy (fun b hb=>kf b (k.tidy.lj b hb)) (fun b h1 h2=> .inl (qQ.2 (.inl h2))) (fun b h1 h2=>qQ.2 (.inr ⟨h1,h2⟩)) eO (fun b h1 h2=>fO.2 ⟨by simp [k.tidy.lj b h1],h2⟩) SA
theorem fu.of (t:Tidy hp br bs bs) (h:∀ {I:Nat->Prop} {μ:Mu} {w:World},cV P I μ w hp bs br.length->∃μ1,Good P I I μ μ1 w w hp br bs bs):fu P hp br bs:=by
 refine ⟨t,fun {I μ w acc} pre hb => ?_⟩;obtain ⟨μ1,G⟩:=h ⟨pre.dB,fun b bT=>pre.holds b (hb b bT),fun b h1 c h2=>pre.inj b (hb b h1) c (hb c h2),pre.fresh⟩;exact ⟨μ1,G.frame pre hb t t.lj⟩
theorem ya {b:Nat} {blk:bM} (hb:hp[b]?=some (some blk)) (x:Option bM) (news:Hp):Tidy hp (hp.set b x++news) [b] [b]:=by
 have hl:=(List.getElem?_eq_some_iff.1 hb).1;refine ⟨by simp,fun c hc hn => ?_,by simp,by simpa using hl,fun c hc=>⟨blk,by rw [List.mem_singleton] at hc;rw [hc];exact hb⟩⟩;have bc:¬b=c:=fun e=>hn (by simp [e]);rw [List.getElem?_append_left (by simpa using hc),List.getElem?_set,if_neg bc]
theorem x8 {b:Nat} {l l':List V} {T:TypeId} (hb:hp[b]?=some (some (l,T))) (hm:eL T=true\/∀c,l=[.aw c]->l'=[.aw c]) (hlen:(flat l').length=(flat l).length)
  (jh:∀ {I:Nat->Prop} {μ:Mu} {w:World} {F:List Nat} {vs:List Value},CR P I μ w F l vs->∃F',F'.Sublist F/\CR P I μ w F' l' vs):fu P hp (hp.set b (some (l',T))) [b]:=by
 have t:=ya hb (some (l',T)) [];rw [List.append_nil] at t;refine .of t fun {I μ w} pre => ?_;have hH:=pre.holds b (by simp) _ hb;have A2:l'=l->∃μ1,Good P I I μ μ1 w w hp (hp.set b (some (l',T))) [b] [b]:=by
  rintro rfl;have e:hp.set b (some (l',T))=hp:=by
   apply List.ext_getElem?;intro j;rw [List.getElem?_set];split
   ·rename_i e;subst e;rw [hb,if_pos (List.getElem?_eq_some_iff.1 hb).1]
   ·rfl
  rw [e];have G:=Good.same hp (pre.top (by simp));refine ⟨μ,G.dI,fun k hk=> .inl hk,.refl _ _,.refl _,fun _ _ h=> .inl h,fun _ _ _=>rfl,G.holds,fun c hc blk h g hg => ?_,G.inj⟩;rcases hc with hc | hc
  ·rw [List.getElem?_eq_none hc] at h;cases h
  ·exact .inr ⟨c,hc,hg,_,h⟩
 rcases hH with ⟨g,cs,fr,h1,h2,h3,h4,⟨h5,h6⟩,h7,h8⟩ | ⟨h1,h2⟩ | ⟨g,es,ck,c,h1,h2,h3,he,h4,h5⟩;rotate_right
 ·cases he
  rcases hm with hm | hm
  ·simp [eL,mm] at hm
  ·exact A2 (hm _ rfl)
 ·obtain ⟨F',hF,hc⟩:=jh h6;have G:=Good.rF (bG:=(l',T)) (cs:=cs) (pre.top (by simp)) (by simp) hb h1 h3 rfl rfl h4 hF ⟨by simp only;rw [hlen];exact h5,by simp only;rw [hlen];exact hc⟩;rw [setRow_self w g cs T fr h3] at G;exact ⟨_,G⟩
 ·refine ⟨μ,.refl _,fun _ h=> .inl h,.refl _ _,.refl _,fun _ _ h=> .inl h,fun _ _ _=>rfl,fun c hc blk bz => ?_,fun c hc blk bz g hg => ?_,fun c d b1 b2 g bc hc hd e1 e2 g1 g2 => ?_⟩
  ·rcases vY bz with ⟨rfl,rfl⟩ | ⟨eV,h⟩
   ·exact .inr (.inl ⟨h1,h2⟩)
   ·rcases hc with hc | hc
    ·exact absurd (by simpa using hc) eV
    ·rw [List.getElem?_eq_none hc] at h;cases h
  ·have eV:c=b:=by
    rcases hc with hc | hc
    ·have:=(List.getElem?_eq_some_iff.1 bz).1;simp at this;omega
    ·simpa using hc
   subst eV;rcases hg with hg | hg
   ·rw [h1] at hg;cases hg
   ·rw [h2] at hg;cases hg
  ·have key:∀(c:Nat) (b1:bM),(c∈[b]\/hp.length<=c)->(hp.set b (some (l',T)))[c]?=some (some b1)->c=b:=by
    intro c b1 hc e1;rcases hc with hc | hc
    ·simpa using hc
    ·have:=(List.getElem?_eq_some_iff.1 e1).1;simp at this;omega
   exact bc ((key c b1 hc e1).trans (key d b2 hd e2).symm)
theorem aC4 {b:Nat} {pr po cs:List V} {T E:TypeId} {n:Nat} {o:Bool} (hb:hp[b]?=some (some (pr ++ .osl E n o cs::po,T))):
  fu P hp (hp.set b (some (pr ++ .sl hp.length 0 n false::po,T))++[some ([mkS o cs],E)]) [b]:=by
 have bO:=(List.getElem?_eq_some_iff.1 hb).1
 refine .of (ya hb _ _) fun {I μ w} pre => ?_
 have hH:=pre.holds b (by simp) _ hb
 have kh:μ hp.length=none:=pre.fresh _ (Nat.le_refl _) (by simp)
 have aD:∀c blk,(hp.set b (some (pr ++ .sl hp.length 0 n false::po,T))++[some ([mkS o cs],E)])[c]?=some (some blk)->(c∈[b]\/hp.length<=c)->(c=b/\blk=(pr ++ .sl hp.length 0 n false::po,T))\/(c=hp.length/\blk=([mkS o cs],E)):=by
  intro c blk h hc
  rcases lW h with ⟨h1,h⟩ | ⟨h1,h⟩
  ·simp only [List.length_set] at h1
   have eV:c=b:=by
    rcases hc with hc | hc
    ·simpa using hc
    ·omega
   rcases vY h with ⟨_,h⟩ | ⟨h2,_⟩
   ·exact .inl ⟨eV,h⟩
   ·exact absurd eV h2
  ·simp only [List.length_set] at h1
   exact .inr ⟨h1,h⟩
 have fin:∀μ1:Mu,dE μ μ1->(∀c g,μ1 c=some g->μ c=some g\/c=hp.length)->(∀c,c≠b->c≠hp.length->μ1.ft c=μ.ft c) ->
   Holds P I μ1 w b (pr ++ .sl hp.length 0 n false::po,T)->Holds P I μ1 w hp.length ([mkS o cs],E)->(∀g,μ1.own b g->μ.own b g)->(∀g,μ1.own hp.length g->μ.own b g)->(∀g,μ1.own b g->μ1.own hp.length g->False) ->
   ∃μ1,Good P I I μ μ1 w w hp (hp.set b (some (pr ++ .sl hp.length 0 n false::po,T))++[some ([mkS o cs],E)]) [b] [b]:=by
  intro μ1 hle dN jF hB hN ob oN u5
  refine ⟨μ1,.refl _,fun _ h=> .inl h,.refl _ _,hle,fun c g h => ?_,fun c hc hn => ?_,fun c hc blk bz => ?_,fun c hc blk bz g hg => ?_,fun c d b1 b2 g bc hc hd e1 e2 g1 g2 => ?_⟩
  ·rcases dN c g h with h | h
   ·exact .inl h
   ·right;simp;omega
  ·exact jF c (by simpa using hc) (fun e=>hn ⟨ag,by simp;omega⟩)
  ·rcases aD c blk bz hc with ⟨rfl,rfl⟩ | ⟨rfl,rfl⟩
   ·exact hB
   ·exact hN
  ·have cW:c∈[b]\/hp.length<=c:=hc.symm
   right
   refine ⟨b,by simp,?_,_,hb⟩
   rcases aD c blk bz cW with ⟨rfl,rfl⟩ | ⟨rfl,rfl⟩
   ·exact ob g hg
   ·exact oN g hg
  ·rcases aD c b1 e1 hc with ⟨rfl,_⟩ | ⟨rfl,_⟩
   ·rcases aD d b2 e2 hd with ⟨rfl,_⟩ | ⟨rfl,_⟩
    ·exact bc rfl
    ·exact u5 g g1 g2
   ·rcases aD d b2 e2 hd with ⟨rfl,_⟩ | ⟨rfl,_⟩
    ·exact u5 g g2 g1
    ·exact bc rfl
 have nZ:b≠hp.length:=ag
 rcases hH with ⟨g,row,fr,h1,h2,h3,h4,⟨h5,h6⟩,h7,h8⟩ | ⟨h1,h2⟩ | ⟨_,_,_,_,_,_,_,he,_⟩
 rotate_right
 ·have sN:=congrArg Prod.fst he
  simp only at sN
  cases pr with
  | nil=>cases sN
  | cons x pr=>have:=congrArg List.length sN;simp at this
 ·obtain ⟨F1,F2,us,us',iL,hF,k1,k2⟩:=CR.append_iff.1 h6
  obtain ⟨u,jv,Fo,F3,rfl,rfl,k3,k4⟩:=(CR.fl rfl).1 k2
  have k5:V.O P I w Fo (.osl E n o cs) u:=k3
  have eP:=h7
  rw [hF,List.nodup_cons] at eP
  obtain ⟨FO,eP⟩:=eP
  have hlen:(flat (pr ++ .sl hp.length 0 n false::po)).length=(flat (pr ++ .osl E n o cs::po)).length:=by
   rw [gz,gz,fH rfl,fH rfl];simp
  have cm:(F1++F3).Sublist (μ.ft b):=by
   rw [hF];exact (List.Sublist.refl F1).append (List.sublist_append_right Fo F3)
  rcases ub.1 k5 with ⟨rfl,rfl,xI⟩ | ⟨g2,cap,i,cells,Fc,F',hu,rfl,q3,q4,q5,q6,q7,q8,q9,bK⟩
  ·-- it has no room
   refine fin ((μ.eQ b (F1++F3)).eQ hp.length []) (fun _ _ h=>h) (fun _ _ h=> .inl h) (fun c hc jf=>by rw [Mu.kA _ _ jf,Mu.kA _ _ hc]) ?_ (.inr (.inl ⟨kh,by rw [Mu.gD]⟩)) ?_ ?_ ?_
   ·refine .inl ⟨g,row,fr,h1,h2,h3,h4,⟨by rw [hlen];exact h5,?_⟩,?_,?_⟩
    ·rw [Mu.kA _ _ nZ,Mu.gD,hlen,iL]
     have hle:dE μ ((μ.eQ b (F1++F3)).eQ hp.length []):=fun _ _ h=>h
     have hx:V.R P I ((μ.eQ b (F1++F3)).eQ hp.length []) w (.sl hp.length 0 0 false) u:=by
      simp only [V.R]
      exact .inr ⟨a8,a8,xI⟩
     have hc:=CR.append_iff.2 ⟨F1,_,us,_,rfl,rfl,k1.keep (.refl w (fun _=>False)) (.refl I) hle (fun _ _ h=>h),(CR.fl rfl).2 ⟨u,jv,[],F3,rfl,rfl,ua hx,k4.keep (.refl w (fun _=>False)) (.refl I) hle (fun _ _ h=>h)⟩⟩
     rwa [List.nil_append] at hc
    ·rw [Mu.kA _ _ nZ,Mu.gD,List.nodup_cons]
     exact ⟨fun h=>FO (by rw [<- hF];exact cm.subset h),eP.sublist (by rw [<- hF];exact cm)⟩
    ·intro k hk
     rw [Mu.kA _ _ nZ,Mu.gD] at hk
     exact h8 k (cm.subset hk)
   ·rintro k (hk | hk)
    ·exact .inl hk
    ·rw [Mu.kA _ _ nZ,Mu.gD] at hk;exact .inr (cm.subset hk)
   ·rintro k (hk | hk)
    ·have dO:μ hp.length=some k:=hk
     rw [kh] at dO;cases dO
    ·rw [Mu.gD] at hk;cases hk
   ·rintro k _ (hk | hk)
    ·have dO:μ hp.length=some k:=hk
     rw [kh] at dO;cases dO
    ·rw [Mu.gD] at hk;cases hk
  ·have py:∀k,k∈g2::F'->k∈μ.ft b:=by
    intro k hk;rw [hF];simp only [List.mem_append];exact .inr (.inl hk)
   have hle:dE μ ((μ.eQ b (F1++F3)).put hp.length g2 F'):=(Mu.tr b _).trans (Mu.Hh (by exact kh))
   have X6:∀k,k∈g2::F'->k∉F1++F3:=by
    intro k hk FG
    rw [List.nodup_append] at eP
    obtain ⟨n1,n2,n3⟩:=eP
    rw [List.nodup_append] at n2
    rcases List.mem_append.1 FG with h | h
    ·exact n3 k h k (List.mem_append.2 (.inl hk)) rfl
    ·exact n2.2.2 k hk k h rfl
   have X4:(g2::F').Nodup:=by
    rw [List.nodup_append] at eP
    have:=eP.2.1
    rw [List.nodup_append] at this
    exact this.1
   have GL:((μ.eQ b (F1++F3)).put hp.length g2 F') b=some g:=by rw [Mu.qZ _ _ _ nZ];exact h1
   have xj:((μ.eQ b (F1++F3)).put hp.length g2 F').ft b=F1++F3:=by rw [Mu.tf _ _ _ nZ,Mu.gD]
   refine fin ((μ.eQ b (F1++F3)).put hp.length g2 F') hle (fun c k h => ?_) (fun c hc jf=>by rw [Mu.tf _ _ _ jf,Mu.kA _ _ hc]) ?_ (.inl ⟨g2,cells,Fc,Mu.kX _ _ _ _,(h8 g2 (py g2 (by simp))).1,q6,q7,⟨by rw [qC];exact q9,?_⟩,?_,?_⟩) ?_ ?_ ?_
   ·by_cases hc:c=hp.length
    ·exact .inr hc
    ·rw [Mu.qZ _ _ _ hc] at h;exact .inl h
   ·refine .inl ⟨g,row,fr,GL,h2,h3,h4,⟨by rw [hlen];exact h5,?_⟩,?_,?_⟩
    ·rw [xj,hlen,iL]
     have hx:V.R P I ((μ.eQ b (F1++F3)).put hp.length g2 F') w (.sl hp.length 0 n false) u:=by
      simp only [V.R]
      exact .inl ⟨g2,cap,E,cells.size,i,Mu.kX _ _ _ _,hu,q3,q4,by simp,oD q6,q5,ag⟩
     have hc:=CR.append_iff.2 ⟨F1,_,us,_,rfl,rfl,k1.keep (.refl w (fun _=>False)) (.refl I) hle (fun _ _ h=>h),(CR.fl rfl).2 ⟨u,jv,[],F3,rfl,rfl,ua hx,k4.keep (.refl w (fun _=>False)) (.refl I) hle (fun _ _ h=>h)⟩⟩
     rwa [List.nil_append] at hc
    ·rw [xj,List.nodup_cons]
     exact ⟨fun h=>FO (by rw [<- hF];exact cm.subset h),eP.sublist (by rw [<- hF];exact cm)⟩
    ·intro k hk
     rw [xj] at hk
     exact h8 k (cm.subset hk)
   ·rw [Mu.oB,qC];exact CR.tq bK
   ·rw [Mu.oB];exact X4
   ·intro k hk
    rw [Mu.oB] at hk
    exact h8 k (py k (by simp [hk]))
   ·rintro k (hk | hk)
    ·rw [GL] at hk;cases hk;exact .inl h1
    ·rw [xj] at hk;exact .inr (cm.subset hk)
   ·intro k hk
    exact .inr (py k (by rcases Mu.ta _ hk with rfl | h;simp;simp [h]))
   ·intro k AR FG
    have L4:k∈g2::F':=by rcases Mu.ta _ FG with rfl | h;simp;simp [h]
    rcases AR with hk | hk
    ·rw [GL] at hk;cases hk
     exact FO (by rw [<- hF];exact py g L4)
    ·rw [xj] at hk;exact X6 k L4 hk
 ·-- the block aW8 is Iy of a slice Iy is nil
  refine fin (μ.eQ hp.length []) (fun _ _ h=>h) (fun _ _ h=> .inl h) (fun c hc jf=>by rw [Mu.kA _ _ jf]) (.inr (.inl ⟨h1,by rw [Mu.kA _ _ nZ];exact h2⟩)) (.inr (.inl ⟨kh,by rw [Mu.gD]⟩)) ?_ ?_ ?_
  ·rintro k (hk | hk)
   ·exact .inl hk
   ·rw [Mu.kA _ _ nZ] at hk;exact .inr hk
  ·rintro k (hk | hk)
   ·have dO:μ hp.length=some k:=hk
    rw [kh] at dO;cases dO
   ·rw [Mu.gD] at hk;cases hk
  ·rintro k _ (hk | hk)
   ·have dO:μ hp.length=some k:=hk
    rw [kh] at dO;cases dO
   ·rw [Mu.gD] at hk;cases hk
theorem aC6 {b c:Nat} {pr po l2:List V} {T E:TypeId} {n:Nat} {f:Bool} (bc:b≠c) (hb:hp[b]?=some (some (pr ++ .sl c 0 n f::po,T))) (hc:hp[c]?=some (some (l2,E))) (hr:V.refsL l2=[]):
  fu P hp ((hp.set b (some (pr ++ .osl E n (hasO l2) (flat l2)::po,T))).set c none) [b,c]:=by
 have bO:=(List.getElem?_eq_some_iff.1 hb).1;have cd:=(List.getElem?_eq_some_iff.1 hc).1;refine .of ⟨by simp,fun d hd hn => ?_,by simp,fun d hd => ?_,fun d hd => ?_⟩ fun {I μ w} pre => ?_
 ·simp only [List.mem_cons,List.not_mem_nil,or_false,not_or] at hn;rw [List.getElem?_set,if_neg (fun e=>hn.2 e.symm),List.getElem?_set,if_neg (fun e=>hn.1 e.symm)]
 ·simp only [List.mem_cons,List.not_mem_nil,or_false] at hd;rcases hd with rfl | rfl <;> assumption
 ·simp only [List.mem_cons,List.not_mem_nil,or_false] at hd;rcases hd with rfl | rfl
  ·exact ⟨_,hb⟩
  ·exact ⟨_,hc⟩
 have hH:=pre.holds b (by simp) _ hb;have hC:=pre.holds c (by simp) _ hc;have aD:∀d blk,((hp.set b (some (pr ++ .osl E n (hasO l2) (flat l2)::po,T))).set c none)[d]?=some (some blk)->(d∈[b,c]\/hp.length<=d)->d=b/\blk=(pr ++ .osl E n (hasO l2) (flat l2)::po,T):=by
  intro d blk h hd;obtain ⟨h1,h⟩:=vZ h;have qH:d=b:=by
   rcases hd with hd | hd
   ·simp only [List.mem_cons,List.not_mem_nil,or_false] at hd;exact hd.resolve_right h1
   ·have:=(List.getElem?_eq_some_iff.1 h).1;simp at this;omega
  rcases vY h with ⟨_,h⟩ | ⟨h2,_⟩
  ·exact ⟨qH,h⟩
  ·exact absurd qH h2
 have fin:∀F:List Nat,Holds P I (μ.eQ b F) w b (pr ++ .osl E n (hasO l2) (flat l2)::po,T)->(∀g∈F,μ.own b g\/μ.own c g)->∃μ1,Good P I I μ μ1 w w hp ((hp.set b (some (pr ++ .osl E n (hasO l2) (flat l2)::po,T))).set c none) [b,c] [b,c]:=by
  intro F hB hF;refine ⟨μ.eQ b F,.refl _,fun _ h=> .inl h,.refl _ _,Mu.tr b F,fun _ _ h=> .inl h,fun d hd _=>Mu.kA _ _ (by rintro rfl;simp at hd),fun d hd blk bz => ?_,fun d hd blk bz g hg => ?_,fun d e b1 b2 g bc hd he e1 e2 g1 g2 => ?_⟩
  ·obtain ⟨rfl,rfl⟩:=aD d blk bz hd;exact hB
  ·obtain ⟨rfl,rfl⟩:=aD d blk bz hd.symm;right;rcases hg with hg | hg
   ·exact ⟨d,by simp,.inl hg,_,hb⟩
   ·rw [Mu.gD] at hg;rcases hF g hg with h | h
    ·exact ⟨d,by simp,h,_,hb⟩
    ·exact ⟨c,by simp,h,_,hc⟩
  ·exact bc ((aD d b1 e1 hd).1.trans (aD e b2 e2 he).1.symm)
 rcases hH with ⟨g,row,fr,h1,h2,h3,h4,⟨h5,h6⟩,h7,h8⟩ | ⟨h1,h2⟩ | ⟨_,_,_,_,_,_,_,he,_⟩;rotate_right
 ·have sN:=congrArg Prod.fst he;simp only at sN;cases pr with
  | nil=>cases sN
  | cons x pr=>have:=congrArg List.length sN;simp at this
 ·obtain ⟨F1,F2,us,us',iL,hF,k1,k2⟩:=CR.append_iff.1 h6;obtain ⟨u,jv,Fo,F3,rfl,rfl,k3,k4⟩:=(CR.fl rfl).1 k2;obtain ⟨rfl,k5⟩:=k3.plain rfl;rw [List.nil_append] at hF;have hlen:(flat (pr ++ .osl E n (hasO l2) (flat l2)::po)).length=(flat (pr ++ .sl c 0 n f::po)).length:=by
   rw [gz,gz,fH rfl,fH rfl];simp
  have key:∀Fo:List Nat,V.O P I w Fo (.osl E n (hasO l2) (flat l2)) u->(g::(F1++(Fo++F3))).Nodup->(∀k∈Fo,¬I k/\k<w.heap.size/\(μ.own b k\/μ.own c k))->∃μ1,Good P I I μ μ1 w w hp ((hp.set b (some (pr ++ .osl E n (hasO l2) (flat l2)::po,T))).set c none) [b,c] [b,c]:=by
   intro Fo hO eP qF;have hle:dE μ (μ.eQ b (F1++(Fo++F3))):=Mu.tr b _;refine fin (F1++(Fo++F3)) (.inl ⟨g,row,fr,h1,h2,h3,h4,⟨by rw [hlen];exact h5,?_⟩,by rw [Mu.gD];exact eP,fun k hk => ?_⟩) fun k hk => ?_
   ·rw [Mu.gD,hlen,iL];exact CR.append_iff.2 ⟨F1,_,us,_,rfl,rfl,k1.keep (.refl w (fun _=>False)) (.refl I) hle (fun _ _ h=>h),(CR.fl rfl).2 ⟨u,jv,Fo,F3,rfl,rfl,zJ hO,k4.keep (.refl w (fun _=>False)) (.refl I) hle (fun _ _ h=>h)⟩⟩
   ·rw [Mu.gD] at hk;rcases List.mem_append.1 hk with h | h
    ·exact h8 k (by rw [hF];simp [h])
    ·rcases List.mem_append.1 h with h | h
     ·exact ⟨(qF k h).1,(qF k h).2.1⟩
     ·exact h8 k (by rw [hF];simp [h])
   ·rcases List.mem_append.1 hk with h | h
    ·exact .inl (.inr (by rw [hF];simp [h]))
    ·rcases List.mem_append.1 h with h | h
     ·exact (qF k h).2.2
     ·exact .inl (.inr (by rw [hF];simp [h]))
  simp only [V.R] at k5;rcases k5 with ⟨g2,cap,e,N,i,FE,rfl,q1,q2,_,q4,q5,q6⟩ | ⟨_,rfl,xI⟩
  ·obtain ⟨aH3,Fc,r1,r2,r3,⟨r4,r5⟩,r6,r7⟩:=hC.mr FE q4;have de:=oD r2;rw [q4] at de;cases de
   refine key (g2::μ.ft c) (ub.2 (.inr ⟨g2,cap,i,aH3,Fc,μ.ft c,rfl,rfl,q1,q2,q5,r2,r3,ag,r4,r5.N2 hr⟩)) ?_ fun k hk => ?_
   ·have u5:∀k,μ.own b k->k∈g2::μ.ft c->False:=by
     intro k h1 h2;refine pre.inj b (by simp) c (by simp) _ _ k bc hb hc h1 ?_;rcases List.mem_cons.1 h2 with rfl | h2
     ·exact .inl FE
     ·exact .inr h2
    rw [List.nodup_cons,hF] at h7;have xG:=h7.2;rw [List.nodup_append] at xG;obtain ⟨n1,n3,n13⟩:=xG;rw [List.nodup_cons];refine ⟨fun h => ?_,?_⟩
    ·rcases List.mem_append.1 h with h | h
     ·exact h7.1 (by simp [h])
     ·rcases List.mem_append.1 h with h | h
      ·exact u5 g (.inl h1) h
      ·exact h7.1 (by simp [h])
    ·rw [List.nodup_append];refine ⟨n1,?_,fun a ha k hk e => ?_⟩
     ·rw [List.nodup_append];exact ⟨r6,n3,fun a ha k hk e=>u5 k (.inr (by rw [hF];simp [hk])) (by rw [<- e];exact ha)⟩
     ·subst e;rcases List.mem_append.1 hk with h | h
      ·exact u5 a (.inr (by rw [hF];simp [ha])) h
      ·exact n13 a ha a h rfl
   ·rcases List.mem_cons.1 hk with rfl | hk
    ·exact ⟨r1,(Array.getElem?_eq_some_iff.1 r2).1,.inr (.inl FE)⟩
    ·exact ⟨(r7 k hk).1,(r7 k hk).2,.inr (.inr hk)⟩
  ·refine key [] (ub.2 (.inl ⟨rfl,rfl,xI⟩)) (by rw [List.nil_append,<- hF];exact h7) (by simp)
 ·refine fin (μ.ft b) (.inr (.inl ⟨h1,by rw [Mu.gD];exact h2⟩)) (fun k hk=> .inl (.inr hk))
theorem aC9 {b:Nat} {l:List V} {T:TypeId} (hb:hp[b]?=some (some (l,T))) (hr:V.refsL l=[]) (hT:eL T=true):fu P hp (hp.set b (some ([.cS (gL l)],T))) [b]:=
 x8 hb (.inl hT) (by rw [show V.cS (gL l)=mkS true (gL l) from rfl,qC,Az]) fun h=>⟨_,.refl _,CR.tq (o:=true) (h.lZ hr).pY⟩
theorem OS.pieces {I:Nat->Prop} {μ:Mu} {w:World} {o:Bool} {F:List Nat} {v:List V} {vs:List Value} (h:OS P I w o F v vs):CR P I μ w F v vs:=by
 cases o
 ·obtain ⟨rfl,h⟩:=h;exact .of (zM h)
 ·have:=Dh (μ:=μ) h;exact .x4 (GN this) this
theorem aD0 {b:Nat} {o:Bool} {c v:List V} {T:TypeId} {base es:Nat} (hb:hp[b]?=some (some ([mkS o c],T))) (hv:(c.drop base).take es=v) (hs:dx v=false) (hl:base+es<=c.length) (hT:eL T=true):
  fu P hp (hp.set b (some ([mkS o (c.take base)]++v++[mkS o (c.drop (base+es))],T))) [b]:=by
 refine x8 hb (.inl hT) ?_ fun {I μ w F vs} h => ?_
 ·rw [gz,gz,qC,qC,qC,jW hs,<- hv];simp only [List.length_append,List.length_take,List.length_drop];omega
 ·obtain ⟨us,cM,F1,F2,rfl,rfl,h1,h2⟩:=CR.gC.1 h;obtain ⟨rfl,rfl⟩:=CR.fP.1 h2;obtain ⟨G1,G2,hG,k1,k2⟩:=h1.split base;obtain ⟨G3,G4,WB,k3,k4⟩:=k2.split es;simp only [List.drop_drop] at k4;rw [hv] at k3;refine ⟨G1++(G3++G4),by rw [hG,WB];simp,?_⟩;have iL:us++[]=us.take base++((us.drop base).take es++us.drop (base+es)):=by
   rw [<- List.drop_drop,List.take_append_drop,List.take_append_drop,List.append_nil]
  rw [iL,List.append_assoc];exact (CR.tq k1).append (k3.pieces.append (CR.tq k4))
def V.nilish:V->Bool
 | .dsl 0 true _=>true
 | .lit (.slice none 0 0)=>true
 | .sl _ _ 0 true=>true
 | _=>false
theorem NW {I:Nat->Prop} {μ:Mu} {w:World} {c:V} {u:Value} (h:c.nilish=true) (hR:V.R P I μ w c u):wM u:=by
 unfold V.nilish at h;split at h
 ·simp only [V.R] at hR;obtain ⟨a,cap,rfl,_,hf,ha,_⟩:=hR;obtain rfl:cap=0:=hf trivial;exact ⟨a,rfl,ha.imp (fun h=>h.1) id⟩
 ·simp only [V.R] at hR;exact ⟨none,hR,.inl rfl⟩
 ·simp only [V.R] at hR;rcases hR with ⟨g,cap,e,N,i,_,rfl,_,_,hf,_⟩ | ⟨_,_,h⟩
  ·obtain rfl:cap=0:=hf trivial;exact ⟨_,rfl,.inr ⟨_,_,rfl⟩⟩
  ·exact h
 ·cases h
theorem aC3 {b:Nat} {pr po:List V} {c:V} {T E:TypeId} (hc:c.nilish=true) (hb:hp[b]?=some (some (pr++c::po,T))):fu P hp (hp.set b (some (pr ++ .osl E 0 false []::po,T))) [b]:=by
 have ga:c.seals=none:=by unfold V.nilish at hc;split at hc <;> first | rfl | cases hc
 have oc:c.isO=false:=by unfold V.nilish at hc;split at hc <;> first | rfl | cases hc
 refine x8 hb (.inr fun x e => ?_) ?_ fun {I μ w F vs} h => ?_
 ·cases pr with
  | nil=>rw [List.nil_append] at e;cases e;cases ga
  | cons y pr=>have:=congrArg List.length e;simp at this
 ·rw [gz,gz,fH ga,fH rfl];simp
 ·obtain ⟨F1,F2,us,us',rfl,rfl,k1,k2⟩:=CR.append_iff.1 h;obtain ⟨u,jv,Fo,F3,rfl,rfl,k3,k4⟩:=(CR.fl ga).1 k2;obtain ⟨rfl,k5⟩:=k3.plain oc;exact ⟨_,.refl _,CR.append_iff.2 ⟨F1,_,us,_,rfl,rfl,k1,(CR.fl rfl).2 ⟨u,jv,[],F3,rfl,rfl,zJ (ub.2 (.inl ⟨rfl,rfl,NW hc k5⟩)),k4⟩⟩⟩
theorem aC8 {b c:Nat} {pr po:List V} {off n:Nat} {f:Bool} {T:TypeId} (hb:hp[b]?=some (some (pr ++ .sl c off n f::po,T))):fu P hp (hp.set b (some (pr ++ .sl c off n false::po,T))) [b]:=by
 refine x8 hb (.inr fun x e => ?_) ?_ fun {I μ w F vs} h => ?_
 ·cases pr with
  | nil=>cases e
  | cons y pr=>have:=congrArg List.length e;simp at this
 ·rw [gz,gz,fH rfl,fH rfl];simp
 ·obtain ⟨F1,F2,us,us',rfl,rfl,k1,k2⟩:=CR.append_iff.1 h;obtain ⟨u,jv,Fo,F3,rfl,rfl,k3,k4⟩:=(CR.fl rfl).1 k2;obtain ⟨rfl,k5⟩:=k3.plain rfl;refine ⟨_,.refl _,CR.append_iff.2 ⟨F1,_,us,_,rfl,rfl,k1,(CR.fl rfl).2 ⟨u,jv,[],F3,rfl,rfl,ua ?_,k4⟩⟩⟩;simp only [V.R] at k5 ⊢;rcases k5 with ⟨g,cap,e,N,i,q1,q2,q3,q4,_,q5⟩ | h
  ·exact .inl ⟨g,cap,e,N,i,q1,q2,q3,q4,by simp,q5⟩
  ·exact .inr h
end
section
variable {P:Program} {m:Nat} {s:St} {br:Hp} {bs:List Nat}
theorem fu.zn (h:fu P s.hp br bs):fG P m s ⟨s.tm,br,s.wr++bs⟩ id:=by
 constructor
 ·intro aW e C;refine ⟨Nat.le_trans C.len h.tidy.len,fun b hb hn => ?_,fun b hb dX => ?_⟩
  ·simp only [List.mem_append,not_or] at hn;show br[b]?=_;rw [h.tidy.frame b (Nat.lt_of_lt_of_le hb C.len) hn.2];exact C.frame b hb hn.1
  ·by_cases n9:b∈bs
   ·exact C.alive b hb (h.tidy.lh b n9)
   ·obtain ⟨blk,dX⟩:=dX;exact C.alive b hb ⟨blk,by rw [<- h.tidy.frame b (Nat.lt_of_lt_of_le hb C.len) n9];exact dX⟩
 ·intro aW I0 μ0 w0 e a w Im μ C;subst e;have hl:=C.len;have eg:∀b,br.length<=b->μ b=none:=by
   intro b hb;cases hq:μ b with
   | none=>rfl
   | some g=>have:=C.cP b g hq;have:=h.tidy.len;omega
  obtain ⟨μ1,G⟩:=h.run (I:=Im) (μ:=μ) (w:=w) (acc:=List.range s.hp.length) ⟨C.dB,fun b _ blk hb=>C.holds b blk hb,fun b _ c _ b1 b2 g bc h1 h2=>C.inj b c b1 b2 g bc h1 h2,fun b h1 h2=>by
   cases hq:μ b with
   | none=>rfl
   | some g=>have:=C.cP b g hq;omega⟩ (fun b hb=>by simpa using h.tidy.jx b hb)
  have dp:∀b,b∈List.range s.hp.length\/s.hp.length<=b:=fun b=>by rw [List.mem_range];omega
  have back:∀c blk,br[c]?=some (some blk)->∀g,μ1.own c g->(aW.length<=c\/c∈s.wr++bs)->w0.heap.size<=g\/∃d∈s.wr++bs,d<aW.length/\μ0.own d g/\dU aW d:=by
   intro c blk hc g hg eC;rcases G.back h.tidy.jx h.tidy.frame hc hg with h1 | ⟨d,h1,h2,h3,h4⟩
   ·exact .inl (Nat.le_trans C.cJ.size h1)
   ·obtain ⟨bG,h4⟩:=h4;by_cases hd:aW.length<=d\/d∈s.wr
    ·rcases C.er d hd bG h4 g h3 with h5 | ⟨f,k1,k2,k3,k4⟩
     ·exact .inl h5
     ·exact .inr ⟨f,by simp [k1],k2,k3,k4⟩
    ·simp only [not_or,Nat.not_le] at hd;have qH:d∈s.wr++bs:=by
      rcases h1 with h1 | rfl
      ·simp [h1]
      ·rcases eC with h5 | h5
       ·omega
       ·exact h5
     refine .inr ⟨d,qH,hd.1,?_,C.alive d hd.1 ⟨bG,h4⟩⟩;rcases h3 with h3 | h3
     ·exact .inl (C.mI d g h3 hd.1)
     ·rw [C.dj d hd.1 hd.2] at h3;exact .inr h3
  refine ⟨Im,μ1,⟨fun t=>(C.tm t).keep (.refl w (fun _=>False)) (.refl _) G.le,C.size,C.defers,fun b blk hb=>G.holds b (dp b) blk hb,fun b c b1 b2 g bc h1 h2=>G.inj b c b1 b2 g bc (dp b) (dp c) h1 h2,fun b g hg => ?_,fun b g hg hb => ?_,fun b hb hn => ?_,C.cJ.mono fun k ⟨b,hb,h2⟩=>⟨b,by simp [hb],h2⟩,C.le.trans G.le,fun b hb blk bz g hg=>back b blk bz g hg hb,Nat.le_trans hl h.tidy.len,fun b hb hn => ?_,fun b hb dX => ?_,fun b hb hl => ?_,C.dI,fun k hk => ?_,C.dB,C.oT⟩,fun v u hR=>hR.keep (.refl w (fun _=>False)) (.refl _) G.le⟩
  ·rcases G.cP b g hg with h1 | h1
   ·exact Nat.lt_of_lt_of_le (C.cP b g h1) h.tidy.len
   ·exact h1.2
  ·rcases G.cP b g hg with h1 | h1
   ·exact C.mI b g h1 hb
   ·omega
  ·simp only [List.mem_append,not_or] at hn;rw [G.dj b hn.2 ag];exact C.dj b hb hn.1
  ·simp only [List.mem_append,not_or] at hn;show br[b]?=_;rw [h.tidy.frame b (Nat.lt_of_lt_of_le hb hl) hn.2];exact C.frame b hb hn.1
  ·by_cases n9:b∈bs
   ·exact C.alive b hb (h.tidy.lh b n9)
   ·obtain ⟨blk,dX⟩:=dX;exact C.alive b hb ⟨blk,by rw [<- h.tidy.frame b (Nat.lt_of_lt_of_le hb hl) n9];exact dX⟩
  ·rcases List.mem_append.1 hb with hb | hb
   ·exact C.wA b hb hl
   ·exact C.alive b hl (h.tidy.lh b hb)
  ·rcases C.eY k hk with h1 | h1 | ⟨c,h1,h2⟩
   ·exact .inl h1
   ·exact .inr (.inl h1)
   ·exact .inr (.inr ⟨c,by simp [h1],h2⟩)
theorem fG.trans {a b c:St} {f g:V->V} (h:fG P m a b f) (k:fG P m b c g):fG P m a c (g ∘ f):=
 ⟨fun aW e hs=>k.st aW e (h.st aW e hs),fun e _ _ _ _ C=>by
  obtain ⟨_,_,C1,h1⟩:=h.run e C;obtain ⟨_,_,C2,h2⟩:=k.run e C1;exact ⟨_,_,C2,fun v u hR=>h2 _ _ (h1 _ _ hR)⟩⟩
theorem fG.trans' {a b c:St} (h:fG P m a b id) (k:fG P m b c id):fG P m a c id:=h.trans k
theorem fG.refl (a:St):fG P m a a id:=⟨fun _ _ h=>h,fun _ _ _ _ _ C=>⟨_,_,C,fun _ _ h=>h⟩⟩
theorem fG.CD {a b:St} {f:V->V} (h:fG P m a b f):mF P m a b:=⟨h.st,fun e _ _ _ _ C=>by
 obtain ⟨_,_,C1,_⟩:=h.run e C;exact ⟨_,_,C1⟩⟩
end
abbrev iU:=TypeId->Nat->Option TypeId
def GW (l:List V) (j:Nat):Nat:=(l.take j).foldl (fun k x=>match x.seals with | some _=>0 | none=>k+1) 0
def ownRefs (ow:iU) (blk:bM):List Nat:=blk.1.zipIdx.flatMap fun x=>match x.1 with
 | .sl c _ _ _=>match ow blk.2 (GW blk.1 x.2) with
  | some _=>[c]
  | none=>[]
 | c=>V.refs c
def reachO (ow:iU) (hp:Hp):Nat->List Nat->List Nat->List Nat
 | 0,_,seen=>seen
 | _+1,[],seen=>seen
 | n+1,b::t,seen=>
  if seen.contains b then reachO ow hp n t seen else
  match hp[b]? with
  | some (some blk)=>reachO ow hp n (t++ownRefs ow blk) (seen++[b])
  | _=>reachO ow hp n t seen
def V.noRoom:V->Bool
 | .dsl n full _=>full&&Nat.beq n 0
 | .lit (.slice none 0 0)=>true
 | _=>false
theorem N1 {c:V} (h:c.noRoom=true):c.nilish=true:=by
 unfold V.noRoom at h;split at h
 ·rw [Bool.and_eq_true] at h;obtain ⟨h1,h⟩:=h;have:=Nat.eq_of_beq_eq_true h;subst this;subst h1;rfl
 ·rfl
 ·cases h
def packAt (ow:iU) (m:Nat) (roots:List Nat) (b j:Nat) (s:St):St:=
 match s.hp[b]? with
 | some (some blk)=>match blk.1[j]? with
  | some (.sl c 0 n f)=>
   match (ow blk.2 (GW blk.1 j)).isSome&&Nat.ble m c && !roots.contains c && !(Nat.beq b c),s.hp[c]? with
   | true,some (some jU)=>match V.refsL jU.1 with
    | []=>⟨s.tm,(s.hp.set b (some (blk.1.take j ++ .osl jU.2 n (hasO jU.1) (flat jU.1)::blk.1.drop (j+1),blk.2))).set c none,s.wr++[b,c]⟩
    | _=>s
   | _,_=>s
  | some c=>match ow blk.2 (GW blk.1 j) with
   | some E=>match c.noRoom with
    | true=>⟨s.tm,s.hp.set b (some (blk.1.take j ++ .osl E 0 false []::blk.1.drop (j+1),blk.2)),s.wr++[b]⟩
    | false=>s
   | none=>s
  | none=>s
 | _=>s
def tc (hp:Hp) (b:Nat):List (Nat×Nat×Bool):=match hp[b]? with
 | some (some blk)=>(List.range blk.1.length).map fun j=>(b,j,true)
 | _=>[]
def packL (ow:iU) (m:Nat) (roots:List Nat):Nat->List (Nat×Nat×Bool)->St->St
 | 0,_,s=>s
 | _+1,[],s=>s
 | k+1,(b,j,first)::t,s=>
  match first,s.hp[b]? with
  | true,some (some blk)=>match blk.1[j]? with
   | some (.sl c 0 n f)=>packL ow m roots k (tc s.hp c++(b,j,false)::t) s
   | _=>packL ow m roots k t (packAt ow m roots b j s)
  | _,_=>packL ow m roots k t (packAt ow m roots b j s)
section
variable {P:Program} {m:Nat}
theorem Iu {α:Type} {l:List α} {j:Nat} {x:α} (h:l[j]?=some x):l=l.take j++x::l.drop (j+1):=by
 have hl:=(List.getElem?_eq_some_iff.1 h).1;conv=>lhs;rw [<- List.take_append_drop j l]
 rw [List.drop_eq_getElem_cons hl];rw [List.getElem?_eq_getElem hl] at h;rw [Option.some.inj h]
theorem O0 (ow:iU) (roots:List Nat) (b j:Nat) (s:St):fG P m s (packAt ow m roots b j s) id:=by
 unfold packAt;split;case h_2=>exact .refl s
 rename_i blk hb;split
 ·rename_i c n f hj;split
  ·rename_i jU eC hc;split
   ·rename_i hr;have bc:b≠c:=by
     simp only [Bool.and_eq_true,Bool.not_eq_true'] at eC;intro e;subst e;simp at eC
    exact (aC6 (P:=P) (hp:=s.hp) (b:=b) (c:=c) (pr:=blk.1.take j) (po:=blk.1.drop (j+1)) (n:=n) (f:=f) (T:=blk.2) (E:=jU.2) (l2:=jU.1) bc (by rw [hb,<- Iu hj]) (by rw [hc]) hr).zn
   ·exact .refl s
  ·exact .refl s
 ·rename_i c _ hj;split;case h_2=>exact .refl s
  rename_i E _;split
  ·rename_i hn;exact (aC3 (P:=P) (hp:=s.hp) (b:=b) (c:=c) (pr:=blk.1.take j) (po:=blk.1.drop (j+1)) (T:=blk.2) (E:=E) (N1 hn) (by rw [hb,<- Iu hj])).zn
  ·exact .refl s
 ·exact .refl s
theorem Bv (ow:iU) (roots:List Nat):∀(k:Nat) (l:List (Nat×Nat×Bool)) (s:St),fG P m s (packL ow m roots k l s) id
 | 0,_,s=> .refl s
 | _+1,[],s=> .refl s
 | k+1,(b,j,first)::t,s=>by
  unfold packL;split
  ·split
   ·exact Bv ow roots k _ s
   ·exact (O0 ow roots b j s).trans' (Bv ow roots k t _)
  ·exact (O0 ow roots b j s).trans' (Bv ow roots k t _)
end
def roomTm:List Nat->St->St
 | [],s=>s
 | t::ts,s=>match s.tm.get t with
  | .sl b o n true=>roomTm ts ⟨s.tm.put t (.sl b o n false),s.hp,s.wr⟩
  | _=>roomTm ts s
def roomBl:List (Nat×Nat)->St->St
 | [],s=>s
 | (b,j)::t,s=>match s.hp[b]? with
  | some (some blk)=>match blk.1[j]? with
   | some (.sl c o n true)=>roomBl t ⟨s.tm,s.hp.set b (some (blk.1.take j ++ .sl c o n false::blk.1.drop (j+1),blk.2)),s.wr++[b]⟩
   | _=>roomBl t s
  | _=>roomBl t s
def sloBl:List Nat->St->St
 | [],s=>s
 | b::t,s=>match s.hp[b]? with
  | some (some blk)=>match V.refsL blk.1,eL blk.2 with
   | [],true=>sloBl t ⟨s.tm,s.hp.set b (some ([.cS (gL blk.1)],blk.2)),s.wr++[b]⟩
   | _,_=>sloBl t s
  | _=>sloBl t s
def nilTm:List (Nat×TypeId)->St->St
 | [],s=>s
 | (t,E)::ts,s=>match (s.tm.get t).noRoom with
  | true=>nilTm ts ⟨s.tm.put t (.sl s.hp.length 0 0 false),s.hp++[some ([],E)],s.wr⟩
  | false=>nilTm ts s
def O3 (ow:iU) (m:Nat) (roots:List Nat) (s:St):St:=
 packL ow m roots 10000 (((reach s.hp 100000 roots (List.range m)).filter fun b=>Nat.ble m b||s.wr.contains b).flatMap fun b=>tc s.hp b) s
def oo (ow:iU) (m:Nat) (roots:List Nat) (s:St):List Nat:=
 (List.range m++(reachO ow s.hp 100000 (roots++((List.range m).flatMap fun b=>match s.hp[b]? with | some (some blk)=>ownRefs ow blk | _=>[])) []).filter fun b=>Nat.ble m b).eraseDups
def packF (P:Program) (ow:Option iU) (m:Nat) (keep:List Nat) (v:V) (s:St):V->V:=match ow with
 | some ow=>match jq m (oo ow m (v.refs++keep.flatMap fun i=>(s.tm.get i).refs) s) with
  | true=>frz P s.hp (oo ow m (v.refs++keep.flatMap fun i=>(s.tm.get i).refs) s) m 100
  | false=>id
 | none=>id
def qV (P:Program) (ow:Option iU) (m:Nat) (keep:List Nat) (v:V) (s:St):St:=match ow with
 | some ow=>match jq m (oo ow m (v.refs++keep.flatMap fun i=>(s.tm.get i).refs) s) with
  | true=>
   O3 ow m ((frz P s.hp (oo ow m (v.refs++keep.flatMap fun i=>(s.tm.get i).refs) s) m 100 v).refs++keep.flatMap fun i=>((fQ P m keep (oo ow m (v.refs++keep.flatMap fun i=>(s.tm.get i).refs) s) s).tm.get i).refs)
    (fQ P m keep (oo ow m (v.refs++keep.flatMap fun i=>(s.tm.get i).refs) s) s)
  | false=>s
 | none=>s
def x9 (P:Program) (m:Nat) (k:Kp) (s:St):St:=qV P k.pk m k.keep .jJ (sloBl k.yn (roomBl k.lI (nilTm k.GJ (roomTm k.eu s))))
def as4 (P:Program) (m:Nat) (k:Kp) (s:St):St:=wrS m k.wr (sealAll m (k.seals m s) (fQ P m k.keep (k.ids m s) s))
def GP (P:Program) (m:Nat) (k:Kp) (s:St):St:=as4 P m k (x9 P m k s)
def Hd (P:Program) (m:Nat) (k:Kp) (s:St):Bool:=jq m (k.ids m (x9 P m k s))
section
variable {P:Program} {m:Nat}
theorem aC7 {hp:Hp} (E:TypeId):fu P hp (hp++[some ([],E)]) []:=by
 refine .of (.new hp _ (by simp)) fun {I μ w} pre => ?_;have kh:μ hp.length=none:=pre.fresh _ (Nat.le_refl _) (by simp);have aD:∀c blk,(hp++[some (([]:List V),E)])[c]?=some (some blk)->hp.length<=c->c=hp.length/\blk=([],E):=by
  intro c blk h hc;rcases lW h with ⟨h1,_⟩ | h
  ·omega
  ·exact h
 have gA:∀k,¬(μ.eQ hp.length []).own hp.length k:=by
  rintro k (hk | hk)
  ·have dO:μ hp.length=some k:=hk;rw [kh] at dO;cases dO
  ·rw [Mu.gD] at hk;cases hk
 refine ⟨μ.eQ hp.length [],.refl _,fun _ h=> .inl h,.refl _ _,Mu.tr _ _,fun _ _ h=> .inl h,fun c _ hn=>Mu.kA _ _ (by rintro rfl;exact hn ⟨Nat.le_refl _,by simp⟩),fun c hc blk h => ?_,fun c hc blk h g hg => ?_,fun c d b1 b2 g bc hc hd h1 h2 g1 g2 => ?_⟩
 ·rcases hc with hc | hc
  ·cases hc
  ·obtain ⟨rfl,rfl⟩:=aD c blk h hc;exact .inr (.inl ⟨kh,by rw [Mu.gD]⟩)
 ·rcases hc with hc | hc
  ·obtain ⟨rfl,rfl⟩:=aD c blk h hc;exact (gA g hg).elim
  ·cases hc
 ·rcases hc with hc | hc
  ·cases hc
  ·obtain ⟨rfl,_⟩:=aD c b1 h1 hc;exact (gA g g1).elim
theorem Pm {s:St} {t:Nat} {v:V} (h:∀ {I:Nat->Prop} {μ:Mu} {w:World} {u:Value},V.R P I μ w (s.tm.get t) u->V.R P I μ w v u):fG P m s ⟨s.tm.put t v,s.hp,s.wr⟩ id:=by
 refine ⟨fun aW e C=>⟨C.len,C.frame,C.alive⟩,fun {aW I0 μ0 w0} e {a w Im μ} C=>⟨Im,μ,⟨fun i => ?_,C.size,C.defers,C.holds,C.inj,C.cP,C.mI,C.dj,C.cJ,C.le,C.er,C.len,C.frame,C.alive,C.wA,C.dI,C.eY,C.dB,C.oT⟩,fun _ _ h=>h⟩⟩;show V.R P Im μ w ((s.tm.put t v).get i) _;by_cases hi:t=i
 ·subst hi;rcases s.tm.get_eq t v with h2 | h2
  ·rw [h2.1];exact h (C.tm t)
  ·rw [h2];simp [V.R]
 ·rw [s.tm.qE v hi];exact C.tm i
theorem Hv:∀(l:List Nat) (s:St),fG P m s (roomTm l s) id
 | [],s=> .refl s
 | t::ts,s=>by
  unfold roomTm;split
  ·rename_i b o n ht;refine (Pm (fun {I μ w u} h => ?_)).trans' (Hv ts _);rw [ht] at h;simp only [V.R] at h ⊢;rcases h with ⟨g,cap,e,N,i,q1,q2,q3,q4,_,q5⟩ | h
   ·exact .inl ⟨g,cap,e,N,i,q1,q2,q3,q4,by simp,q5⟩
   ·exact .inr h
  ·exact Hv ts s
theorem as2 {I:Nat->Prop} {μ:Mu} {w:World} {c:V} {u:Value} (h:c.noRoom=true) (hR:V.R P I μ w c u):wM u:=
 NW (P:=P) (I:=I) (μ:=μ) (w:=w) (c:=c) (N1 h) hR
theorem GI:∀(l:List (Nat×TypeId)) (s:St),fG P m s (nilTm l s) id
 | [],s=> .refl s
 | (t,E)::ts,s=>by
  unfold nilTm;split
  ·rename_i ht;have h1:=(aC7 (P:=P) (hp:=s.hp) E).zn (m:=m) (s:=s);rw [List.append_nil] at h1;have h2:fG P m (⟨s.tm,s.hp++[some ([],E)],s.wr⟩:St) ⟨s.tm.put t (.sl s.hp.length 0 0 false),s.hp++[some ([],E)],s.wr⟩ id:=Pm (fun {I μ w u} h=>by
    simp only [V.R];exact .inr ⟨a8,a8,as2 ht h⟩)
   exact (h1.trans' h2).trans' (GI ts _)
  ·exact GI ts s
theorem BO:∀(l:List (Nat×Nat)) (s:St),fG P m s (roomBl l s) id
 | [],s=> .refl s
 | (b,j)::t,s=>by
  unfold roomBl;split
  ·rename_i blk hb;split
   ·rename_i c o n hj;exact (aC8 (P:=P) (hp:=s.hp) (b:=b) (c:=c) (pr:=blk.1.take j) (po:=blk.1.drop (j+1)) (off:=o) (n:=n) (f:=true) (T:=blk.2) (by rw [hb,<- Iu hj])).zn.trans' (BO t _)
   ·exact BO t s
  ·exact BO t s
theorem BV:∀(l:List Nat) (s:St),fG P m s (sloBl l s) id
 | [],s=> .refl s
 | b::t,s=>by
  unfold sloBl;split
  ·rename_i blk hb;split
   ·rename_i h1 h2;exact (aC9 (P:=P) (hp:=s.hp) (b:=b) (l:=blk.1) (T:=blk.2) hb h1 h2).zn.trans' (BV t _)
   ·exact BV t s
  ·exact BV t s
theorem O2 (ow:Option iU) (keep:List Nat) (v:V) (s:St):fG P m s (qV P ow m keep v s) (packF P ow m keep v s):=by
 unfold qV packF;split
 ·split
  ·rename_i hp;have h1:=s7 (P:=P) (m:=m) (keep:=keep) (s:=s) hp;exact h1.trans (Bv (P:=P) (m:=m) _ _ _ _ _)
  ·exact .refl s
 ·exact .refl s
theorem aC2 (k:Kp) (s:St):∃f,fG P m s (x9 P m k s) f:=⟨_,((((Hv _ _).trans' (GI _ _)).trans' (BO _ _)).trans' (BV _ _)).trans (O2 _ _ _ _)⟩
theorem Bq {k:Kp} {s:St} (hp:Hd P m k s=true):mF P m s (GP P m k s):=(aC2 k s).choose_spec.CD.trans (((as5 hp).trans (aK4 _ _)).trans aV3.CD)
end
section
variable {β:Type _}
def Ld (n:Nat) (k:Nat->β):β:=match n with
 | 0=>k 0
 | n+1=>k (n+1)
theorem V5 (n:Nat) (k:Nat->β):Ld n k=k n:=by cases n <;> rfl
def forceNs (l:List Nat) (k:List Nat->β):β:=match l with
 | []=>k []
 | x::xs=>Ld x fun y=>forceNs xs fun ys=>k (y::ys)
theorem uV:∀(l:List Nat) (k:List Nat->β),forceNs l k=k l
 | [],_=>rfl
 | x::xs,k=>by unfold forceNs;rw [V5,uV xs]
def forceVs (l:List V) (k:List V->β):β:=match l with
 | []=>k []
 | x::xs=>nW x fun y=>forceVs xs fun ys=>k (y::ys)
theorem Lf:∀(l:List V) (k:List V->β),forceVs l k=k l
 | [],_=>rfl
 | x::xs,k=>by unfold forceVs;rw [sA,Lf xs]
def forceB (full:Bool) (b:Option bM) (k:Option bM->β):β:=match b with
 | none=>k none
 | some (l,t)=>match full with
  | true=>forceVs l fun l=>k (some (l,t))
  | false=>k (some (l,t))
theorem V4 (full:Bool) (b:Option bM) (k:Option bM->β):forceB full b k=k b:=by
 cases b with
 | none=>rfl
 | some b=>cases full <;> simp only [forceB,Lf]
def forceH (p:Nat->Bool):Nat->Hp->(Hp->β)->β
 | _,[],k=>k []
 | i,b::bs,k=>forceB (p i) b fun c=>forceH p (i+1) bs fun cs=>k (c::cs)
theorem Lc (p:Nat->Bool):∀(l:Hp) (i:Nat) (k:Hp->β),forceH p i l k=k l
 | [],_,_=>rfl
 | b::bs,i,k=>by unfold forceH;rw [V4,Lc p bs]
def sy (m:Nat) (s:St) (k:St->β):β:=forceNs s.wr fun wr=>forceH (fun i=>Nat.ble m i||wr.contains i) 0 s.hp fun hp=>k ⟨s.tm,hp,wr⟩
theorem xi (m:Nat) (s:St) (k:St->β):sy m s k=k s:=by unfold sy;rw [uV,Lc]
def normTmC (P:Program) (hp:Hp) (perm:List Nat) (m:Nat) (tm:Tm):List Nat->Tm->(Tm->β)->β
 | [],t,k=>k t
 | i::is,t,k=>nW (frz P hp perm m 100 (tm.get i)) fun v=>m9 t (some i) v fun t=>normTmC P hp perm m tm is t k
theorem N5 (P:Program) (hp:Hp) (perm:List Nat) (m:Nat) (tm:Tm):∀(is:List Nat) (t:Tm) (k:Tm->β),normTmC P hp perm m tm is t k=k (normTm P hp perm m tm is t)
 | [],_,_=>rfl
 | i::is,t,k=>by unfold normTmC normTm;rw [sA,vM,N5 P hp perm m tm is];rfl
def Br (P:Program) (m:Nat) (keep perm:List Nat) (s:St) (k:St->β):β:=
 normTmC P s.hp perm m s.tm keep ⟨s.tm.n,Tr.mk0 11⟩ fun tm=>
 sy m ⟨tm,perm.map (fun b=>if decide (b<m) && !s.wr.contains b then s.hp.getD b none else (s.hp.getD b none).map fun blk=>(blk.1.map (frz P s.hp perm m 100),blk.2)),(s.wr.filter fun b=>decide (b<m)).eraseDups⟩ k
theorem N4 (P:Program) (m:Nat) (keep perm:List Nat) (s:St) (k:St->β):Br P m keep perm s k=k (fQ P m keep perm s):=by
 unfold Br fQ;rw [N5,xi]
def packLC (ow:iU) (m:Nat) (roots:List Nat):Nat->List (Nat×Nat×Bool)->St->(St->β)->β
 | 0,_,s,k=>k s
 | _+1,[],s,k=>k s
 | n+1,(b,j,first)::t,s,k=>
  match first,s.hp[b]? with
  | true,some (some blk)=>match blk.1[j]? with
   | some (.sl c 0 _ _)=>packLC ow m roots n (tc s.hp c++(b,j,false)::t) s k
   | _=>sy m (packAt ow m roots b j s) fun s=>packLC ow m roots n t s k
  | _,_=>sy m (packAt ow m roots b j s) fun s=>packLC ow m roots n t s k
theorem Bu (ow:iU) (m:Nat) (roots:List Nat):∀(n:Nat) (l:List (Nat×Nat×Bool)) (s:St) (k:St->β),packLC ow m roots n l s k=k (packL ow m roots n l s)
 | 0,_,_,_=>rfl
 | _+1,[],_,_=>rfl
 | n+1,(b,j,first)::t,s,k=>by
  unfold packLC packL;split
  ·split
   ·exact Bu ow m roots n _ s k
   ·rw [xi];exact Bu ow m roots n _ _ k
  ·rw [xi];exact Bu ow m roots n _ _ k
def O4 (ow:iU) (m:Nat) (roots:List Nat) (s:St) (k:St->β):β:=
 packLC ow m roots 10000 (((reach s.hp 100000 roots (List.range m)).filter fun b=>Nat.ble m b||s.wr.contains b).flatMap fun b=>tc s.hp b) s k
theorem az9 (ow:iU) (m:Nat) (roots:List Nat) (s:St) (k:St->β):O4 ow m roots s k=k (O3 ow m roots s):=Bu ow m roots _ _ s k
def Bt (P:Program) (ow:iU) (m:Nat) (keep:List Nat) (v:V) (s:St) (k:Option (List Nat)->St->β):β:=
 sy m s fun s=>forceNs (oo ow m (v.refs++keep.flatMap fun i=>(s.tm.get i).refs) s) fun ids=>match jq m ids with
  | true=>Br P m keep ids s fun s1=>forceNs ((frz P s.hp ids m 100 v).refs++keep.flatMap fun i=>(s1.tm.get i).refs) fun roots=>O4 ow m roots s1 fun s2=>k (some ids) s2
  | false=>k none s
theorem O1 (P:Program) (ow:iU) (m:Nat) (keep:List Nat) (v:V) (s:St) (k:Option (List Nat)->St->β):
  Bt P ow m keep v s k=k (match jq m (oo ow m (v.refs++keep.flatMap fun i=>(s.tm.get i).refs) s) with | true=>some (oo ow m (v.refs++keep.flatMap fun i=>(s.tm.get i).refs) s) | false=>none) (qV P (some ow) m keep v s):=by
 unfold Bt qV;rw [xi,uV];dsimp only;cases jq m (oo ow m (v.refs++keep.flatMap fun i=>(s.tm.get i).refs) s)
 ·rfl
 ·dsimp only;rw [N4,uV,az9]
def normC (P:Program) (m:Nat) (kp:Kp) (s:St) (k:Bool->St->β):β:=match kp.pk with
 | none=>k (Hd P m kp s) (GP P m kp s)
 | some ow=>Bt P ow m kp.keep .jJ (sloBl kp.yn (roomBl kp.lI (nilTm kp.GJ (roomTm kp.eu s)))) fun _ s1=>forceNs (kp.ids m s1) fun ids=>forceNs (kp.seals m s1) fun seals=>
  Br P m kp.keep ids s1 fun s2=>sy m (sealAll m seals s2) fun s3=>k (jq m ids) (wrS m kp.wr s3)
theorem N3 (P:Program) (m:Nat) (kp:Kp) (s:St) (k:Bool->St->β):normC P m kp s k=k (Hd P m kp s) (GP P m kp s):=by
 unfold normC;split
 ·rfl
 ·rename_i ow h;rw [O1,uV,uV,N4,xi];have e:qV P (some ow) m kp.keep .jJ (sloBl kp.yn (roomBl kp.lI (nilTm kp.GJ (roomTm kp.eu s))))=x9 P m kp s:=by unfold x9;rw [h]
  rw [e];rfl
end
def All:List Prop->Prop
 | []=>True
 | p::ps=>p/\All ps
theorem All.append:∀ {ps qs:List Prop},All (ps++qs)->All ps/\All qs
 | [],_,h=>⟨a8,h⟩
 | _::_,_,h=>⟨⟨h.1,(All.append h.2).1⟩,(All.append h.2).2⟩
section
variable {P:Program}
structure aN (P:Program) (m:Nat) (c:Code) (s:St) (ex:Ex) (s':St):Prop where
 st:∀aW:Hp,aW.length=m->SR aW s->SR aW s'
 run:∀ {aW:Hp} {I0:Nat->Prop} {μ0:Mu} {w0:World},aW.length=m->∀ {a:Act} {w:World} {Im:Nat->Prop} {μ:Mu},CI P aW I0 μ0 w0 s a w Im μ ->
  ∀ {Q:Exit->Act->World->Prop},(∀a' w' μ' cZ,CI P aW I0 μ0 w0 s' a' w' cZ μ'->Q ex.toExit a' w')->c.wp P Q a w
theorem aN.skip {m:Nat} {s:St}:aN P m .skip s .normal s:=⟨fun _ _ h=>h,fun _ _ _ _ _ C _ hQ=>wp_skip (hQ _ _ _ _ C)⟩
theorem aN.exit {m id:Nat} {s:St}:aN P m (.exit id) s (.exit id) s:=⟨fun _ _ h=>h,fun _ _ _ _ _ C _ hQ=>wp_exit (hQ _ _ _ _ C)⟩
theorem aN.ret {m:Nat} {s:St}:aN P m .ret s .ret s:=⟨fun _ _ h=>h,fun _ _ _ _ _ C _ hQ=>wp_ret (hQ _ _ _ _ C)⟩
theorem aN.region (hm:P.follows .mixedOrders=true) (hn:ee P) {ops:Array Oper} {m id:Nat} {draw:Bool} {s s':St} {l:List Rec} (hl:nD P ops ops.toList s l s') (hd:draw=true->uq ops l s'=true):aN P m (.region id ops draw) s .normal s':=
 ⟨fun _ _ h=>aE2 hl h,fun _ _ _ _ _ C _ hQ=>aE1 hm hn hl hd C hQ⟩
theorem aN.seq {m:Nat} {x y:Code} {s s1 s2:St} {ex:Ex} (h:aN P m x s .normal s1) (k:aN P m y s1 ex s2):aN P m (.seq x y) s ex s2:=
 ⟨fun aW e hs=>k.st aW e (h.st aW e hs),fun e _ _ _ _ C _ hQ=>wp_seq (h.run e C fun _ _ _ _ C'=>k.run e C' hQ)⟩
theorem aN.BT {m:Nat} {x y:Code} {s s1:St} {ex:Ex} (h:aN P m x s ex s1) (bc:ex≠ .normal):aN P m (.seq x y) s ex s1:=
 ⟨h.st,fun e _ _ _ _ C _ hQ=>wp_seq (h.run e C fun a' w' μ' cZ C'=>by
  have:=hQ a' w' μ' cZ C';cases ex with
  | normal=>exact absurd rfl bc
  | exit _=>exact this
  | ret=>exact this)⟩
theorem aN.Ta {m id:Nat} {c:Code} {s s1:St} (h:aN P m c s (.exit id) s1):aN P m (.block id c) s .normal s1:=
 ⟨h.st,fun e _ _ _ _ C _ hQ=>wp_block (h.run e C fun a' w' μ' cZ C'=>by
  simp only [Ex.toExit,Exit.inBlock,if_true];exact hQ a' w' μ' cZ C')⟩
theorem aN.DF {m id:Nat} {c:Code} {s s1:St} {ex:Ex} (h:aN P m c s ex s1) (bc:ex≠ .exit id):aN P m (.block id c) s ex s1:=
 ⟨h.st,fun e _ _ _ _ C _ hQ=>wp_block (h.run e C fun a' w' μ' cZ C'=>by
  have:=hQ a' w' μ' cZ C';cases ex with
  | normal=>exact this
  | exit i=>
   simp only [Ex.toExit,Exit.inBlock];rw [if_neg (fun e=>bc (by rw [e]))];exact this
  | ret=>exact this)⟩
theorem aN.pre {m:Nat} {c:Code} {s s0 s':St} {ex:Ex} (h:mF P m s s0) (k:aN P m c s0 ex s'):aN P m c s ex s':=
 ⟨fun aW e hs=>k.st aW e (h.st aW e hs),fun e _ _ _ _ C _ hQ=>by
  obtain ⟨_,_,C'⟩:=h.run e C;exact k.run e C' hQ⟩
theorem aN.post {m:Nat} {c:Code} {s s0 s':St} {ex:Ex} (k:aN P m c s ex s0) (h:mF P m s0 s'):aN P m c s ex s':=
 ⟨fun aW e hs=>h.st aW e (k.st aW e hs),fun e _ _ _ _ C _ hQ=>k.run e C fun a' w' _ _ C'=>by
  obtain ⟨_,_,RQ⟩:=h.run e C';exact hQ a' w' _ _ RQ⟩
inductive aT (P:Program) (m:Nat) (body:Code):St->Ex->St->Prop where
 | done {s s':St} {ex:Ex} (h:aN P m body s ex s') (bc:ex≠ .normal):aT P m body s ex s'
 | step {s s1 s':St} {ex:Ex} (h:aN P m body s .normal s1) (k:aT P m body s1 ex s'):aT P m body s ex s'
theorem aN.aV {m:Nat} {body:Code} {s s':St} {ex:Ex} (h:aT P m body s ex s'):aN P m (.loop body) s ex s':=by
 have key:∃N,(∀aW:Hp,aW.length=m->SR aW s->SR aW s') /\
   ∀ {aW:Hp} {I0:Nat->Prop} {μ0:Mu} {w0:World},aW.length=m->∀ {a:Act} {w:World} {Im:Nat->Prop} {μ:Mu},CI P aW I0 μ0 w0 s a w Im μ ->
    ∀ {Q:Exit->Act->World->Prop},(∀a' w' μ' cZ,CI P aW I0 μ0 w0 s' a' w' cZ μ'->Q ex.toExit a' w')->Code.rounds P body Q N a w:=by
  induction h with
  | @done s s' ex h bc=>
   refine ⟨1,h.st,fun e _ _ _ _ C Q hQ => ?_⟩;rw [rounds_succ];refine h.run e C fun a' w' μ' cZ C' => ?_;have:=hQ a' w' μ' cZ C';cases ex with
   | normal=>exact absurd rfl bc
   | exit i=>exact this
   | ret=>exact this
  | @step s s1 s' ex h k ih=>
   obtain ⟨N,h1,h2⟩:=ih;refine ⟨N+1,fun aW e hs=>h1 aW e (h.st aW e hs),fun e _ _ _ _ C Q hQ => ?_⟩;rw [rounds_succ];exact h.run e C fun a' w' μ' cZ C'=>h2 e C' hQ
 obtain ⟨N,h1,h2⟩:=key;exact ⟨h1,fun e _ _ _ _ C _ hQ=>wp_loop_rounds N (h2 e C hQ)⟩
end
def Jw (P:Program) (f:FuncId):Code:=match P.funcs[f]? with
 | some fn=>match fn.body with
  | some c=>c
  | none=> .skip
 | none=> .skip
def qB (id:Nat):Code->Option Code
 | .seq x y=>match qB id x with
  | some c=>some c
  | none=>qB id y
 | .cond _ x y=>match qB id x with
  | some c=>some c
  | none=>qB id y
 | .block i c=>if Nat.beq i id then some c else qB id c
 | .loop c=>qB id c
 | _=>none
def lp (P:Program) (f:FuncId) (id:Nat):Code:=match qB id (Jw P f) with
 | some (.loop c)=>c
 | _=> .skip
def blk (P:Program) (f:FuncId) (id:Nat):Code:=match qB id (Jw P f) with
 | some c=>c
 | _=> .skip
def outEx (id:Nat):Ex->Ex
 | .exit i=>if i=id then .normal else .exit i
 | e=>e
def aj9 (P:Program):Bool:=P.funcs.toList.all fun fn=>fn.name != "runtime.NumGoroutine"
theorem ak1 {P:Program} (h:aj9 P=true):ee P:=by
 intro f fn hf;have:=List.all_eq_true.1 h fn (by
  obtain ⟨bQ,e⟩:=Array.getElem?_eq_some_iff.1 hf;rw [<- e];simp)
 simpa using this
section
variable {P:Program}
theorem aN.cond {m:Nat} {c:Operand} {x y:Code} {s s':St} {ex:Ex} {b:Bool} (hb:evalV s.tm c= .bool b) (h:aN P m (if b then x else y) s ex s'):aN P m (.cond c x y) s ex s':=by
 refine ⟨h.st,fun {aW I0 μ0 w0} e {a w Im μ} C {Q} hQ => ?_⟩;have hR:V.R P Im μ w (evalV s.tm c) (a.eval c):=by
  cases c with
  | tmp t=>exact C.tm t
  | const v=>exact Jp v
  | global g=>simp [evalV,V.R]
  | func f=>simp [evalV,Act.eval,V.R,V.RL]
 rw [hb] at hR;simp only [V.R] at hR;cases b with
 | true=>exact wp_cond_true hR (h.run e C hQ)
 | false=>exact wp_cond_false hR (h.run e C hQ)
theorem aN.block {m id:Nat} {c:Code} {s s1:St} {ex:Ex} (h:aN P m c s ex s1):aN P m (.block id c) s (outEx id ex) s1:=by
 cases ex with
 | normal=>exact h.DF (by simp)
 | ret=>exact h.DF (by simp)
 | exit i=>
  simp only [outEx];split
  ·rename_i e;subst e;exact h.Ta
  ·rename_i e;exact h.DF (by simpa using e)
theorem K7 {f:FuncId} {fn:Func} {c:Code} {vs:List V} {hp:Hp} {ex:Ex} {s:St} {v:List V} {r:aF} (ji:P.funcs[f]?=some fn) (hc:fn.body=some c)
  (h:aN P hp.length c ⟨Tm.start (vs.length+(fn.ntmps - vs.length)) vs,hp,[]⟩ ex s) (hex:ex= .normal\/ex= .ret) (xL:evResultL P s.hp s.tm fn.results.toList=some v)
  (ht:SR hp s->zH hp r)
  (hg:∀ {I Im:Nat->Prop} {μ μ':Mu} {w w':World} {a:Act} {val:Value},CI P hp I μ w s a w' Im μ'->V.R P Im μ' w' (oneOf v) val->∃μr Ir,V.R P Ir μr w' r.v val/\Good P I Ir μ μr w w' hp r.hp (List.range hp.length) r.wr):au P f vs hp r:=by
 have cL:SR hp s:=h.st hp rfl ⟨Nat.le_refl _,fun _ _ _=>rfl,fun _ _ h=>h⟩
 refine ⟨ht cL,fun I w μ b9 ko pre dN => ?_⟩
 have hh:∀b blk,hp[b]?=some (some blk)->Holds P I μ w b blk:=fun b blk hb=>pre.holds b (by simpa using fk hb) blk hb
 have L2:∀b c blk bG g,b≠c->hp[b]?=some (some blk)->hp[c]?=some (some bG)->μ.own b g->μ.own c g->False:=fun b c b1 b2 g bc hb hc=>pre.inj b (by simpa using fk hb) c (by simpa using fk hc) b1 b2 g bc hb hc
 have fN:=ko.length
 simp at fN
 have C0:CI P hp I μ w ⟨Tm.start (vs.length+(fn.ntmps - vs.length)) vs,hp,[]⟩ {tmps:=b9++Array.replicate (fn.ntmps - b9.size) undef,defers:=[]} w I μ:=by
  refine ⟨fun t => ?_,by simp [fN,Tm.start,Tm.K0],rfl,hh,L2,dN,fun b g hg _=>hg,fun _ _ _=>rfl,.refl _ _,.refl _,fun b hb blk bz => ?_,Nat.le_refl _,fun _ _ _=>rfl,fun _ _ h=>h,by simp,.refl _,fun k h=> .inl h,pre.dB,⟨hh,L2,dN⟩⟩
  ·rcases Tm.aO6 (vs.length+(fn.ntmps - vs.length)) vs t with e | e
   ·show V.R P I μ w ((Tm.start (vs.length+(fn.ntmps - vs.length)) vs).get t) _
    rw [e];simp [V.R]
   ·have ht:t<vs.length:=(List.getElem?_eq_some_iff.1 e).1
    obtain ⟨u,hu,hR⟩:=ko.get e
    rw [Array.getElem?_toList] at hu
    rw [Array.getD_eq_getD_getElem?,Array.getElem?_append,if_pos ag,hu]
    exact hR
  ·have:=fk (hp:=hp) bz
   rcases hb with hb | hb
   ·omega
   ·cases hb
 refine calls_of_wp ji hc ?_
 refine h.run rfl C0 fun a' w' μ' cZ C => ?_
 obtain ⟨val,hr,hR⟩:=aG1 (fn:=fn) C.tm C.holds C.dB C.inj xL
 obtain ⟨μr,Ir,Ly,hG⟩:=hg C hR
 rcases hex with rfl | rfl
 ·exact ⟨C.defers,val,hr,val,μr,Ir,rfl,Ly,hG⟩
 ·exact ⟨C.defers,val,hr,val,μr,Ir,rfl,Ly,hG⟩
theorem V0 {f:FuncId} {fn:Func} {c:Code} {vs:List V} {hp:Hp} {ex:Ex} {s:St} {v:List V} {r:aF} (ji:P.funcs[f]?=some fn) (hc:fn.body=some c)
  (h:aN P hp.length c ⟨Tm.start (vs.length+(fn.ntmps - vs.length)) vs,hp,[]⟩ ex s) (hex:ex= .normal\/ex= .ret) (xL:evResultL P s.hp s.tm fn.results.toList=some v)
  {s':St} {g:V->V} (hw:fG P hp.length s s' g) {ids seals:List Nat} (mV:jq hp.length ids=true) (hr:gc P hp.length ids seals (g (oneOf v)) s'=r):au P f vs hp r:=by
 subst hr
 refine K7 ji hc h hex xL (fun cL=>Wp mV (hw.st hp rfl cL)) fun C hR => ?_
 obtain ⟨Im2,μ2,C2,hV⟩:=hw.run rfl C
 exact Wo mV C2 (hV _ _ hR)
end
end Go.Proofs.YtlomaojlpodibaaGreat
namespace Go.Proofs.YtlomaojlpodibaaGreat
open Go.RowKit
set_option maxRecDepth 100000
def ae {α:Type} (enc:α->List V) (L:List α):List V:=L.flatMap enc
open Classical in
def af {α:Type} (enc:α->List V) (cs:List V):List α:=if h:∃L,ae enc L=cs then h.choose else []
abbrev Vw:=TypeId->List V->Nat->Option (List V)
inductive SO where
 | one (ps:List Prop) (o:Out)
 | two (c:Bool) (ps:List Prop) (o:Out) (qs:List Prop) (o':Out)
 | no
def SO.OK (r:Option Out):SO->Prop
 | .one ps o=>All ps->r=some o
 | .two c ps o qs o'=>(c=true->All ps->r=some o)/\(c=false->All qs->r=some o')
 | .no=>True
def il:Option Out->SO
 | some o=> .one [] o
 | none=> .no
theorem jL (r:Option Out):(il r).OK r:=by
 cases r with
 | none=>trivial
 | some o=>exact fun _=>rfl
def sIndexAddr (P:Program) (vw:Vw) (hp:Hp) (t:TypeId) (x i:V):SO:=
 match x,i,P.underlying t with
 | .dsl n _ cs,.int _ k,some (.slice el)=>match dA P el,vw el cs k.toNat with
  | some s,some v=> .one [0<=k/\k<n,(cs.drop (k.toNat*s)).take v.length=v] ⟨.dptr (v++cs.drop (k.toNat*s+v.length)),hp,[],[]⟩
  | some s,none=> .one [0<=k/\k<n] ⟨.dptr (cs.drop (k.toNat*s)),hp,[],[]⟩
  | _,_=> .no
 | .sl b off n _,.int _ k,some (.slice el)=>match dA P el with
  | some s=> .one [0<=k/\k<n] ⟨.eptr b (off+k.toNat*s) 0,hp,[],[]⟩
  | none=> .no
 | _,_,_=> .no
def sIndex (P:Program) (hp:Hp) (t:TypeId) (x i:V):SO:=
 match x,i,P.underlying t with
 | .str l,.int _ k,some .string=> .one [0<=k/\k<l.length] ⟨.int .u8 ((l.getD k.toNat 0).toNat:Nat),hp,[],[]⟩
 | _,_,_=> .no
def sBound (x:Option V) (d lim:Nat):Option (List Prop×Nat):=
 match x with
 | none=>some ([],d)
 | some (.int _ i)=>some ([0<=i/\i<=lim],i.toNat)
 | _=>none
def sSlice (P:Program) (hp:Hp) (t:TypeId) (x:V) (lo hi mx:Option V):SO:=
 match x,mx with
 | .str l,none=>
  match P.underlying t,sBound hi l.length l.length with
  | some .string,some (ps,h)=>match sBound lo 0 h with
   | some (qs,k)=> .one (ps++qs) ⟨.str ((l.take h).drop k),hp,[],[]⟩
   | none=> .no
  | _,_=> .no
 | .dsl n full cs,none=>
  match P.underlying t,sBound hi n n with
  | some (.slice e),some (ps,h)=>match sBound lo 0 h,dA P e with
   | some (qs,k),some s=> .one (ps++qs) ⟨.dsl (h - k) (full&&h==n) ((cs.take (h*s)).drop (k*s)),hp,[],[]⟩
   | _,_=> .no
  | _,_=> .no
 | .sl b off n full,none=>
  match P.underlying t,sBound hi n n,hp[b]? with
  | some (.slice e),some (ps,h),some (some blk)=>match sBound lo 0 h,dA P e,blk.2==e with
   | some (qs,k),some s,true=>
    match lo with
    | none=> .one (ps++qs) ⟨.sl b off h (full&&h==n),hp,[b],[]⟩
    | some _=> .two (decide (k<h)) (ps++qs) ⟨.sl b (off+k*s) (h - k) (full&&h==n),hp,[b],[]⟩ (ps++qs) ⟨.dsl 0 (full&&h==n) [],hp,[b],[]⟩
   | _,_,_=> .no
  | _,_,_=> .no
 | .dsl n _ cs,some m=>
  match P.underlying t,sBound (some m) 0 n,hi with
  | some (.slice e),some (ps,m),some hi=>match sBound (some hi) 0 m with
   | some (qs,h)=>match sBound lo 0 h,dA P e with
    | some (rs,k),some s=> .one (ps++qs++rs) ⟨.dsl (h - k) (m==h) ((cs.take (h*s)).drop (k*s)),hp,[],[]⟩
    | _,_=> .no
   | none=> .no
  | _,_,_=> .no
 | x,mx=>il (evSlice P hp t x lo hi mx)
def sSrc (hp:Hp) (size:Nat):V->Option (List Prop×List Nat×Nat×List V)
 | .dsl m _ cs=>some ([cs.length=m*size,cs.all V.one=true],[],m,[.aw cs])
 | .sl b off m full=>
  match hp[b]? with
  | some (some blk)=>match dx blk.1 with
   | true=>some ([off=0,(flat blk.1).length=m*size,(flat blk.1).all V.one=true],[b],m,blk.1)
   | false=>match srcV hp size (.sl b off m full) with
    | some (bs,m,news)=>some ([],bs,m,news)
    | none=>none
  | _=>none
 | _=>none
def sAppend (P:Program) (hp:Hp) (t t':TypeId) (s x:V):SO:=
 match P.underlying t with
 | some (.slice elem)=>
  match P.info? elem with
  | some i=>
   match i.zero,t==t' with
   | some z,true=>
    match decide (0<i.size/\z.cells.size=i.size),sSrc hp i.size x with
    | true,some (ps,bs,m,news)=>
     match s with
     | .sl b off n _=>
      match hp[b]? with
      | some (some blk)=>
       match blk.2==elem with
       | true=> .one (ps++[off=0,(flat blk.1).length=n*i.size,n+m<=maxLen,(n+m)*i.bytes<=140737488355328])
         ⟨.sl hp.length 0 (n+m) false,hp.set b none++[some (blk.1++news,elem)],b::bs,[b]⟩
       | false=> .no
      | _=> .no
     | .dsl n full cs=>
      .two (m==0) ps ⟨.dsl n full cs,hp,bs,[]⟩ (ps++[full=true,cs.length=n*i.size,n+m<=maxLen,(n+m)*i.bytes<=140737488355328])
       ⟨.sl hp.length 0 (n+m) false,hp++[some (.aw cs::news,elem)],bs,[]⟩
     | _=> .no
    | _,_=> .no
   | _,_=> .no
  | none=> .no
 | _=> .no
def sEqs (P:Program) (xs ys:List V):List Field->Option Bool
 | []=>some true
 | f::fs=>
  match f.name == "_", xs[f.offset]?,ys[f.offset]? with
  | false,some x,some y=>
   match flatEq P f x y,sEqs P xs ys fs with
   | some a,some b=>some (a&&b)
   | _,_=>none
  | _,_,_=>none
def sBin (P:Program) (hp:Hp) (op:BinOp) (t:TypeId) (x y:V):SO:=
 match x,y with
 | .str a,.str b=>match op with
  | .add=> .one [a.length+b.length<=4611686018427387904] ⟨.str (a++b),hp,[],[]⟩
  | op=>il ((evStr op a b).map fun v=>⟨v,hp,[],[]⟩)
 | .int k a,.int k' b=>match op with
  | .quo=>match decide (k=k') with
   | true=> .one [b≠0] ⟨.int k (k.wrap (a.tdiv b)),hp,[],[]⟩
   | false=> .no
  | .rem=>match decide (k=k') with
   | true=> .one [b≠0] ⟨.int k (a.tmod b),hp,[],[]⟩
   | false=> .no
  | op=>il ((evBin P op t (.int k a) (.int k' b)).map fun v=>⟨v,hp,[],[]⟩)
 | .agg xs,.agg ys=>match P.underlying t,P.stoodInHeld t,P.eqGuardType P.depth t,op with
  | some (.struct fs),false,false,.eql=>match sEqs P xs ys fs.toList with
   | some r=> .one [] ⟨.bool r,hp,[],[]⟩
   | none=> .no
  | some (.struct fs),false,false,.neq=>match sEqs P xs ys fs.toList with
   | some r=> .one [] ⟨.bool (!r),hp,[],[]⟩
   | none=> .no
  | _,_,_,_=> .no
 | x,y=>il ((evBin P op t x y).map fun v=>⟨v,hp,[],[]⟩)
def aP (b:UInt8):List V:=[.int .u8 (b.toNat:Nat)]
def iD (l:List UInt8):List V:=l.map fun b=>V.int .u8 (b.toNat:Nat)
def bytesSeg:List V->Option (List Prop×List UInt8)
 | []=>some ([],[])
 | x::t=>match x,bytesSeg t with
  | .aw c,some (ps,l)=>some ((c=iD (af aP c))::ps,af aP c++l)
  | .int .u8 n,some (ps,l)=>some ((0<=n/\n<256)::ps,UInt8.ofNat n.toNat::l)
  | _,_=>none
def sConv (P:Program) (hp:Hp) (s d:TypeId) (x:V):SO:=
 match x with
 | .dsl n _ cs=>match P.underlying s,P.underlying d with
  | some (.slice e),some .string=>match P.underlying e with
   | some (.int .u8)=> .one [cs=iD (af aP cs),(af aP cs).length=n] ⟨.str (af aP cs),hp,[],[]⟩
   | _=> .no
  | _,_=> .no
 | .sl b off n full=>match P.underlying s,P.underlying d with
  | some (.slice e),some .string=>match P.underlying e,hp[b]? with
   | some (.int .u8),some (some blk)=>match bytesSeg blk.1 with
    | some (ps,l)=> .one (ps++[off=0,l.length=n]) ⟨.str l,hp,[b],[]⟩
    | none=> .no
   | _,_=> .no
  | _,_=> .no
 | .str l=>match P.underlying s,P.underlying d with
  | some .string,some (.slice e)=>match P.underlying e,P.info? e with
   | some (.int .u8),some i=>match decide (i.size=1) with
    | true=> .one [l.length<=maxLen] ⟨.sl hp.length 0 l.length false,hp++[some ([.aw (iD l)],e)],[],[]⟩
    | false=> .no
   | _,_=> .no
  | _,_=>il (evConv P hp s d (.str l))
 | x=>il (evConv P hp s d x)
def sMake (P:Program) (hp:Hp) (t:TypeId) (l c:V):SO:=
 match l,c with
 | .int _ l,.int _ c=>
  match P.underlying t with
  | some (.slice elem)=>
   match P.info? elem with
   | some i=>
    match i.zero with
    | some z=>
     match decide (i.bytes<=1048576/\0<i.size/\z.cells.size=i.size) with
     | true=> .one [0<=l/\l<=c/\c<=1048576] ⟨.sl hp.length 0 l.toNat (l==c),hp++[some ([.aw (iy (z.cells.toList.map ofScalar) (c.toNat*i.size))],elem)],[],[]⟩
     | false=> .no
    | none=> .no
   | none=> .no
  | _=> .no
 | _,_=> .no
def sLoad (P:Program) (vw:Vw) (hp:Hp) (t:TypeId) (x:V):SO:=
 match x with
 | .ptr b o=>match hp[b]? with
  | some (some blk)=>match dx blk.1&&eL blk.2 with
   | true=>match P.underlying t,dA P t with
    | some d,some s=>match vw t (flat blk.1) (o / s) with
     | some v=>match v.length==s,kx d,v,jK v with
      | true,true,v,true=> .one [((flat blk.1).drop o).take s=v] ⟨.agg v,hp,[b],[]⟩
      | true,false,[c],true=> .one [((flat blk.1).drop o).take s=[c]] ⟨c,hp,[b],[]⟩
      | _,_,_,_=> .no
     | none=>il (evLoad P hp t (.ptr b o))
    | _,_=> .no
   | false=>il (evLoad P hp t (.ptr b o))
  | _=> .no
 | .eptr b base rel=>match hp[b]? with
  | some (some blk)=>match dx blk.1&&eL blk.2 with
   | true=>match P.underlying t,dA P t,dA P blk.2 with
    | some d,some s,some es=>match vw blk.2 (flat blk.1) (base / es) with
     | some v=>match v.length==es,kx d,(v.drop rel).take s with
      | true,true,u=>match u.length==s,jK u with
       | true,true=> .one [((flat blk.1).drop base).take es=v] ⟨.agg u,hp,[b],[]⟩
       | _,_=> .no
      | true,false,c::_=>match c.isO with
       | false=> .one [((flat blk.1).drop base).take es=v] ⟨c,hp,[b],[]⟩
       | true=> .no
      | _,_,_=> .no
     | none=>il (evLoad P hp t (.eptr b base rel))
    | _,_,_=> .no
   | false=>il (evLoad P hp t (.eptr b base rel))
  | _=> .no
 | x=>il (evLoad P hp t x)
def sStoreAt (P:Program) (hp:Hp) (t:TypeId) (x:V) (b o:Nat) (y:V):SO:=
 match hp[b]? with
  | some (some blk)=>match dx blk.1&&eL blk.2 with
   | true=>match dA P t with
    | some s=>match y.flat,decide ((cellsV y).length=s),(cellsV y).all V.one,V.refsL blk.1 with
     | true,true,true,[]=> .one [o+s<=(flat blk.1).length] ⟨.cw,hp.set b (some (mkS (hasO blk.1) ((flat blk.1).take o)::(cellsV y++[mkS (hasO blk.1) ((flat blk.1).drop (o+s))]),blk.2)),[b],[b]⟩
     | _,_,_,_=> .no
    | none=> .no
   | false=>il (evStore P hp t x y)
  | _=> .no
def HC (P:Program) (hp:Hp) (t:TypeId) (x y:V):SO:=
 match x with
 | .ptr b o=>sStoreAt P hp t (.ptr b o) b o y
 | .eptr b base rel=>offs base rel fun o=>sStoreAt P hp t (.eptr b base rel) b o y
 | x=>il (evStore P hp t x y)
def evOpS (P:Program) (vw:Vw) (e:Operand->V) (hp:Hp):Op->SO
 | .indexAddr t x i=>sIndexAddr P vw hp t (e x) (e i)
 | .index t x i=>sIndex P hp t (e x) (e i)
 | .slice t x lo hi mx=>sSlice P hp t (e x) (lo.map e) (hi.map e) (mx.map e)
 | .binOp op t x y _=>sBin P hp op t (e x) (e y)
 | .convert s d x=>sConv P hp s d (e x)
 | .makeSlice t l c=>sMake P hp t (e l) (e c)
 | .load t x=>sLoad P vw hp t (e x)
 | .store t x y=>HC P hp t (e x) (e y)
 | .pick c a b=>match e c with
  | .bool t=> .two t [] ⟨e a,hp,[],[]⟩ [] ⟨e b,hp,[],[]⟩
  | _=> .no
 | .call c=>match c.callee,c.args.toList,c.argTypes.toList with
  | .builtin .append,[s,x],[t,t']=>sAppend P hp t t' (e s) (e x)
  | _,_,_=>il (evPlain P e hp (.call c))
 | op=>il (evPlain P e hp op)
def sCopy (P:Program) (hp:Hp) (t:TypeId) (s x:V):SO:=
 match P.underlying t with
 | some (.slice elem)=>
  match P.info? elem,s with
  | some i,.sl b off n _=>
   match hp[b]?,srcV hp i.size x with
   | some (some blk),some (bs,m,news)=>
    match decide (0<m/\0<i.size),spliceV blk.1 off (m*i.size) (flat news) with
    | true,some l=> .one [m<=n,off+m*i.size<=(flat blk.1).length] ⟨.int .i64 m,hp.set b (some (l,blk.2)),b::bs,[b]⟩
    | _,_=> .no
   | _,_=> .no
  | _,_=> .no
 | _=> .no
def sArr (P:Program) (hp:Hp) (t:TypeId) (x i:V):SO:=
 match P.underlying t,x,i with
 | some (.array n el),.ptr b off,.int _ i=>match dA P el with
  | some s=> .one [0<=i/\i<n] ⟨.ptr b (off+i.toNat*s),hp,[],[]⟩
  | none=> .no
 | _,_,_=> .no
def sMore (P:Program) (e:Operand->V) (hp:Hp):Op->SO
 | .indexAddr t x i=>sArr P hp t (e x) (e i)
 | .call c=>match c.callee,c.args.toList,c.argTypes.toList with
  | .builtin .copy,[s,x],[t,_]=>sCopy P hp t (e s) (e x)
  | _,_,_=>il (evMore P e hp (.call c))
 | op=>il (evMore P e hp op)
section
variable {P:Program} {vw:Vw} {hp:Hp}
theorem take_len {α:Type} {cs v:List α} {k:Nat} (h:(cs.drop k).take v.length=v):cs.drop k=v++cs.drop (k+v.length):=by
 conv=>lhs;rw [<- List.take_append_drop v.length (cs.drop k)]
 rw [h,List.drop_drop]
theorem lJ {x:Option V} {d lim:Nat} {ps:List Prop} {k:Nat} (h:sBound x d lim=some (ps,k)) (ha:All ps):evBound x d lim=some k:=by
 unfold sBound at h;split at h
 ·cases h;rfl
 ·cases h
  simp only [evBound];rw [if_pos ha.1]
 ·cases h
theorem aJ0 {e:Operand->V} {t:TypeId} {x i:Operand}:(sIndexAddr P vw hp t (e x) (e i)).OK (evPlain P e hp (.indexAddr t x i)):=by
 generalize h:sIndexAddr P vw hp t (e x) (e i)=so;unfold sIndexAddr at h;split at h
 ·rename_i n full cs kk k el hx hi hu;split at h
  ·rename_i s v hs hv;subst h;intro ha;simp only [evPlain,hx,hi,hu,hs];rw [if_pos ha.1,take_len ha.2.1]
  ·rename_i s hs hv;subst h;intro ha;simp only [evPlain,hx,hi,hu,hs];rw [if_pos ha.1]
  ·subst h;trivial
 ·rename_i b off n full kk k el hx hi hu;split at h
  ·rename_i s hs;subst h;intro ha;simp only [evPlain,hx,hi,hu,hs];rw [if_pos ha.1]
  ·subst h;trivial
 ·subst h;trivial
theorem aJ1 {e:Operand->V} {t:TypeId} {x i:Operand}:(sIndex P hp t (e x) (e i)).OK (evPlain P e hp (.index t x i)):=by
 generalize h:sIndex P hp t (e x) (e i)=so;unfold sIndex at h;split at h
 ·rename_i l kk k hx hi hu;subst h;intro ha;obtain ⟨⟨h1,h2⟩,_⟩:=ha;simp only [evPlain,hx,hi,evIndex,hu];rw [if_pos h1,List.getElem?_eq_getElem ag];simp only [Option.map_some];rw [List.getD_eq_getElem?_getD,List.getElem?_eq_getElem ag];rfl
 ·subst h;trivial
theorem aJ5 {t:TypeId} {x:V} {lo hi mx:Option V}:(sSlice P hp t x lo hi mx).OK (evSlice P hp t x lo hi mx):=by
 generalize h:sSlice P hp t x lo hi mx=so;unfold sSlice at h;split at h
 ·split at h
  ·rename_i hu hh;split at h
   ·rename_i hk;subst h;intro ha;obtain ⟨h1,h2⟩:=All.append ha;simp only [evSlice,hu,lJ hh h1,lJ hk h2]
   ·subst h;trivial
  ·subst h;trivial
 ·split at h
  ·rename_i hu hh;split at h
   ·rename_i hk hs;subst h;intro ha;obtain ⟨h1,h2⟩:=All.append ha;simp only [evSlice,hu,lJ hh h1,lJ hk h2,hs]
   ·subst h;trivial
  ·subst h;trivial
 ·split at h
  ·rename_i hu hh hb;split at h
   ·rename_i hk hs he;split at h
    ·subst h;intro ha;obtain ⟨h1,h2⟩:=All.append ha;simp only [evSlice,hu,lJ hh h1,lJ hk h2,hs,hb,he]
    ·subst h;refine ⟨fun hc ha => ?_,fun hc ha => ?_⟩
     ·obtain ⟨h1,h2⟩:=All.append ha;simp only [evSlice,hu,lJ hh h1,lJ hk h2,hs,hb,he];rw [if_pos (by simpa using hc)]
     ·obtain ⟨h1,h2⟩:=All.append ha;simp only [evSlice,hu,lJ hh h1,lJ hk h2,hs,hb,he];rw [if_neg (by simpa using hc)]
   ·subst h;trivial
  ·subst h;trivial
 ·split at h
  ·rename_i hu hm;split at h
   ·rename_i hh;split at h
    ·rename_i hk hs;subst h;intro ha;obtain ⟨xk,h3⟩:=All.append ha;obtain ⟨h1,h2⟩:=All.append xk;simp only [evSlice,hu,lJ hm h1,lJ hh h2,lJ hk h3,hs]
    ·subst h;trivial
   ·subst h;trivial
  ·subst h;trivial
 ·subst h;exact jL _
theorem AD (c:List V):flat [.aw c]=c:=by simp [flat]
theorem HB {size:Nat} {x:V} {ps:List Prop} {bs:List Nat} {m:Nat} {news:List V} (h:sSrc hp size x=some (ps,bs,m,news)) (ha:All ps):srcV hp size x=some (bs,m,news):=by
 unfold sSrc at h;split at h
 ·cases h
  obtain ⟨h1,h2,_⟩:=ha;have e:∀cs:List V,cs.length=m*size->cs.take (m*size)=cs:=fun cs h=>List.take_of_length_le ag;simp only [srcV];rw [e _ h1,if_pos ⟨h1,h2⟩]
 ·rename_i b off m' full;split at h
  ·rename_i blk hb;split at h
   ·cases h
    obtain ⟨h1,h2,h3,_⟩:=ha;subst h1;unfold srcV;have e:((flat blk.1).drop 0).take (m*size)=flat blk.1:=by rw [List.drop_zero,List.take_of_length_le ag]
    simp only [hb];rw [e,if_pos ⟨h2,h3⟩];unfold fX;rw [if_pos ⟨rfl,h2⟩]
   ·split at h
    ·rename_i hs;cases h;exact hs
    ·cases h
  ·cases h
 ·cases h
theorem aI7 {t t':TypeId} {s x:V}:(sAppend P hp t t' s x).OK (evAppend P hp t t' s x):=by
 generalize h:sAppend P hp t t' s x=so;unfold sAppend at h;split at h
 ·rename_i elem hu;split at h
  ·rename_i i hi;split at h
   ·rename_i z hz ht;split at h
    ·rename_i ps bs m news hc hs;have cW:=of_decide_eq_true hc;split at h
     ·rename_i b off n full;split at h
      ·rename_i blk hb;split at h
       ·rename_i he;subst h;intro ha;obtain ⟨h1,h2⟩:=All.append ha;obtain ⟨h3,h4,h5,h6,_⟩:=h2;subst h3;unfold evAppend;simp only [hu,hi,hz,ht,HB hs h1,hb];have e:((flat blk.1).drop 0).take (n*i.size)=flat blk.1:=by rw [List.drop_zero,List.take_of_length_le ag]
        rw [if_pos cW,e,if_pos ⟨h4,h5,h6,eq_of_beq he,a8⟩];unfold fX;rw [if_pos ⟨rfl,h4⟩]
       ·subst h;trivial
      ·subst h;trivial
     ·rename_i n full cs;subst h;refine ⟨fun hm ha => ?_,fun hm ha => ?_⟩
      ·have hm':m=0:=by simpa using hm
       subst hm';unfold evAppend;simp only [hu,hi,hz,ht,HB hs ha];rw [if_pos cW]
      ·obtain ⟨h1,h2⟩:=All.append ha;obtain ⟨h3,h4,h5,h6,_⟩:=h2;have hm':m≠0:=by simpa using hm
       obtain ⟨m',rfl⟩:=Nat.exists_eq_succ_of_ne_zero hm';unfold evAppend;simp only [hu,hi,hz,ht,HB hs h1];have e:cs.take (n*i.size)=cs:=List.take_of_length_le ag;rw [if_pos cW,e,if_pos ⟨h3,h4,h5,h6⟩]
     ·subst h;trivial
    ·subst h;trivial
   ·subst h;trivial
  ·subst h;trivial
 ·subst h;trivial
theorem HA {xs ys:List V}:∀ {fs:List Field} {r:Bool},sEqs P xs ys fs=some r->flatEqs P xs ys fs=some r
 | [],_,h=>h
 | f::fs,r,h=>by
  unfold sEqs at h;split at h
  ·rename_i x y hn hx hy;split at h
   ·rename_i a b ha hb;cases h
    unfold flatEqs;have X2:f.name ≠ "_" := by simpa using hn
    rw [if_neg X2,hx,hy];simp only [ha];cases a with
    | true=>simpa using HA hb
    | false=>rfl
   ·cases h
  ·cases h
theorem aI8 {op:BinOp} {t:TypeId} {x y:V}:(sBin P hp op t x y).OK ((evBin P op t x y).map fun v=>⟨v,hp,[],[]⟩):=by
 generalize h:sBin P hp op t x y=so;unfold sBin at h;split at h
 ·split at h
  ·subst h;intro ha;simp only [evBin,evStr];rw [if_pos ha.1];rfl
  ·subst h;exact jL _
 ·split at h
  ·split at h
   ·rename_i hk;have dO:=of_decide_eq_true hk;subst h;intro ha;simp only [evBin,evInt];rw [if_pos dO,if_neg ha.1];rfl
   ·subst h;trivial
  ·split at h
   ·rename_i hk;have dO:=of_decide_eq_true hk;subst h;intro ha;simp only [evBin,evInt];rw [if_pos dO,if_neg ha.1];rfl
   ·subst h;trivial
  ·subst h;exact jL _
 ·split at h
  ·rename_i fs hu h1 h2;split at h
   ·rename_i r hr;subst h;intro _;simp only [evBin,hu,h1,h2,HA hr,Option.map_some]
   ·subst h;trivial
  ·rename_i fs hu h1 h2;split at h
   ·rename_i r hr;subst h;intro _;simp only [evBin,hu,h1,h2,HA hr,Option.map_some]
   ·subst h;trivial
  ·subst h;trivial
 ·subst h;exact jL _
theorem DK:∀l:List UInt8,bytesV (iD l)=some l
 | []=>rfl
 | b::l=>by
  have ih:=DK l;simp only [iD,List.map_cons,bytesV] at ih ⊢;rw [if_pos ⟨ag,by have:=b.toNat_lt;omega⟩,ih];simp
theorem DJ:∀ {l:List V} {ps:List Prop} {bs:List UInt8},bytesSeg l=some (ps,bs)->All ps->flat l=iD bs
 | [],_,_,h,_=>by cases h;rfl
 | x::t,_,_,h,ha=>by
  unfold bytesSeg at h;split at h
  ·rename_i c ps l ht;cases h
   rw [VX,DJ ht ha.2];have:=ha.1;rw [show iD (af aP c++l)=iD (af aP c)++iD l by simp [iD],<- this]
  ·rename_i n ps l ht;cases h
   rw [fH rfl,DJ ht ha.2];obtain ⟨h0,h1⟩:=ha.1;have e:((UInt8.ofNat n.toNat).toNat:Int)=n:=by
    rw [UInt8.toNat_ofNat'];omega
   simp only [iD,List.map_cons,e]
  ·cases h
theorem aI9 {s d:TypeId} {x:V}:(sConv P hp s d x).OK (evConv P hp s d x):=by
 generalize h:sConv P hp s d x=so;unfold sConv at h;split at h
 ·rename_i n full cs;split at h
  ·rename_i e hs hd;split at h
   ·rename_i he;subst h;intro ha;obtain ⟨h1,h2,_⟩:=ha;simp only [evConv,hs,hd,he];generalize hl:af aP cs=l at h1 h2;subst h1;have hlen:(iD l).length=n:=by simpa [iD] using h2
    have e1:(iD l).take n=iD l:=List.take_of_length_le ag;rw [e1,if_pos hlen,DK]
   ·subst h;trivial
  ·subst h;trivial
 ·rename_i b off n full;split at h
  ·rename_i e hs hd;split at h
   ·rename_i blk he hb;split at h
    ·rename_i ps l hl;subst h;intro ha;obtain ⟨h0,h1,h2,_⟩:=All.append ha;subst h1;have hf:=DJ hl h0;simp only [evConv,hs,hd,he,hb];have hlen:(iD l).length=n:=by simpa [iD] using h2
     rw [hf,List.drop_zero];have e1:(iD l).take n=iD l:=List.take_of_length_le ag;rw [e1,if_pos hlen,DK]
    ·subst h;trivial
   ·subst h;trivial
  ·subst h;trivial
 ·rename_i l;split at h
  ·rename_i e hs hd;split at h
   ·rename_i i he hi;split at h
    ·rename_i hz;subst h;intro ha;simp only [evConv,hs,hd,he,hi];rw [if_pos ⟨ha.1,of_decide_eq_true hz⟩];rfl
    ·subst h;trivial
   ·subst h;trivial
  ·subst h;exact jL _
 ·subst h;exact jL _
theorem aJ3 {t:TypeId} {l c:V}:(sMake P hp t l c).OK (evMakeSlice P hp t l c):=by
 generalize h:sMake P hp t l c=so;unfold sMake at h;split at h
 ·split at h
  ·rename_i elem hu;split at h
   ·rename_i i hi;split at h
    ·rename_i z hz;split at h
     ·rename_i hc;have cW:=of_decide_eq_true hc;subst h;intro ha;obtain ⟨⟨h1,h2,h3⟩,_⟩:=ha;simp only [evMakeSlice,hu,hi,hz];rw [if_pos ⟨h1,h2,h3,cW⟩]
     ·subst h;trivial
    ·subst h;trivial
   ·subst h;trivial
  ·subst h;trivial
 ·subst h;trivial
theorem aR3 {α:Type} {l v:List α} {base rel es:Nat} (h:(l.drop base).take es=v) (hl:v.length=es) (s:Nat) (hs:rel+s<=es):(l.drop (base+rel)).take s=(v.drop rel).take s:=by
 subst h;rw [List.drop_take,List.take_take,List.drop_drop,Nat.min_eq_left ag]
theorem aJ2 {t:TypeId} {x:V}:(sLoad P vw hp t x).OK (evLoad P hp t x):=by
 generalize h:sLoad P vw hp t x=so;unfold sLoad at h;split at h
 ·rename_i b o;split at h
  ·rename_i blk hb;split at h
   ·rename_i mf;rw [Bool.and_eq_true] at mf;have hT:=mf.2;have xn:Nat.beq blk.2 mm=false:=by simpa [eL] using hT
    split at h
    ·rename_i d s hu hs;split at h
     ·rename_i v hv;split at h
      ·rename_i hl hr hn;subst h;intro ha;obtain ⟨h1,_⟩:=ha;simp only [evLoad,V.asPtr,hb,hu,hs,hl];rw [h1,hn,Bool.or_true,hT,if_pos ⟨by simpa using hr,rfl⟩]
      ·rename_i c hl hr hn;subst h;intro ha;obtain ⟨h1,_⟩:=ha;have jj:1=s:=by simpa using hr
       subst jj;simp only [evLoad,V.asPtr,hb,hu,hs,hl];have:(flat blk.1)[o]?=some c:=by
        have h2:(((flat blk.1).drop o).take 1)[0]?=some c:=by rw [h1];rfl
        rw [List.getElem?_take,if_pos ag,List.getElem?_drop] at h2;simpa using h2
       rw [this];have hc:c.isO=false:=by simpa [jK] using hn
       simp only [hc,xn,Bool.or_self]
      ·subst h;trivial
     ·subst h;exact jL _
    ·subst h;trivial
   ·subst h;exact jL _
  ·subst h;trivial
 ·rename_i b base rel;split at h
  ·rename_i blk hb;split at h
   ·rename_i mf;rw [Bool.and_eq_true] at mf;have hT:=mf.2;have xn:Nat.beq blk.2 mm=false:=by simpa [eL] using hT
    split at h
    ·rename_i d s es hu hs Xr;split at h
     ·rename_i v hv;split at h
      ·rename_i hl hd;split at h
       ·rename_i hr hn;subst h;intro ha;obtain ⟨h1,_⟩:=ha;have jj:v.length=es:=by simpa using hl
        have vu:((v.drop rel).take s).length=s:=by simpa using hr
        simp only [evLoad,V.asPtr,pS,hb,hu,hs,hd];cases s with
        | zero=>
         simp only [List.take_zero,List.length_nil,true_and];rw [if_pos (by simp [jK,hT])]
        | succ s=>
         have hle:rel+(s+1)<=es:=by
          simp only [List.length_take,List.length_drop] at vu;omega
         rw [aR3 h1 jj (s+1) hle,hn,Bool.or_true,hT,if_pos ⟨vu,rfl⟩]
       ·subst h;trivial
      ·rename_i c rest hl hd lD;split at h
       ·rename_i hc;subst h;intro ha;obtain ⟨h1,_⟩:=ha;have jj:v.length=es:=by simpa using hl
        simp only [evLoad,V.asPtr,pS,hb,hu,hs,hd];have hlen:=congrArg List.length lD;simp only [List.length_take,List.length_drop,List.length_cons] at hlen;have h3:(v.drop rel)[0]?=some c:=by
         have h4:((v.drop rel).take s)[0]?=some c:=by rw [lD];rfl
         rw [List.getElem?_take] at h4;split at h4
         ·exact h4
         ·cases h4
        have:(flat blk.1)[base+rel]?=some c:=by
         subst h1;rw [List.getElem?_drop,List.getElem?_take] at h3;split at h3
         ·rw [List.getElem?_drop] at h3;simpa using h3
         ·cases h3
        rw [this];simp only [hc,xn,Bool.or_self]
       ·subst h;trivial
      ·subst h;trivial
     ·subst h;exact jL _
    ·subst h;trivial
   ·subst h;exact jL _
  ·subst h;trivial
 ·subst h;exact jL _
theorem Qj {t:TypeId} {x:V} {b o:Nat} {y:V} (hx:x.asPtr= .ptr b o):(sStoreAt P hp t x b o y).OK (evStore P hp t x y):=by
 generalize h:sStoreAt P hp t x b o y=so;unfold sStoreAt at h;split at h
 ·rename_i blk hb;split at h
  ·rename_i mf;split at h
   ·rename_i s hs;split at h
    ·rename_i h1 h2 h3 h4;subst h;intro ha;obtain ⟨h5,_⟩:=ha;simp only [evStore,hx,hb,hs];rw [Bool.and_eq_true] at mf;rw [if_pos ⟨h1,of_decide_eq_true h2,h3,h5,mf.2⟩];simp only [spliceV,mf.1,h4]
    ·subst h;trivial
   ·subst h;trivial
  ·subst h;exact jL _
 ·subst h;trivial
theorem aJ6 {t:TypeId} {x y:V}:(HC P hp t x y).OK (evStore P hp t x y):=by
 unfold HC;split
 ·exact Qj rfl
 ·rw [pS];exact Qj (by simp only [V.asPtr,pS])
 ·exact jL _
theorem av2 {e:Operand->V} (op:Op):(evOpS P vw e hp op).OK (evPlain P e hp op):=by
 unfold evOpS;split
 ·exact aJ0
 ·exact aJ1
 ·exact aJ5
 ·exact aI8
 ·exact aI9
 ·exact aJ3
 ·exact aJ2
 ·exact aJ6
 ·rename_i c a b;cases hc:e c with
  | bool t=>exact ⟨fun h _=>by simp only [evPlain,hc,h];rfl,fun h _=>by simp only [evPlain,hc,h];rfl⟩
  | _=>trivial
 ·rename_i c;generalize h:(match c.callee,c.args.toList,c.argTypes.toList with
   | .builtin .append,[s,x],[t,t']=>sAppend P hp t t' (e s) (e x)
   | _,_,_=>il (evPlain P e hp (.call c)))=so
  split at h
  ·rename_i s x t t' h1 h2 h3;subst h;simp only [evPlain,h1,h2,h3];exact aI7
  ·subst h;exact jL _
 ·exact jL _
theorem aJ4 {e:Operand->V} (op:Op):(sMore P e hp op).OK (evMore P e hp op):=by
 unfold sMore;split
 ·rename_i t x i;generalize h:sArr P hp t (e x) (e i)=so;unfold sArr at h;split at h
  ·rename_i n el b off kk k hu hx hi;split at h
   ·rename_i s hs;subst h;intro ha;simp only [evMore,hx,hi,hu,hs];rw [if_pos ha.1]
   ·subst h;trivial
  ·subst h;trivial
 ·rename_i c;generalize h:(match c.callee,c.args.toList,c.argTypes.toList with
   | .builtin .copy,[s,x],[t,_]=>sCopy P hp t (e s) (e x)
   | _,_,_=>il (evMore P e hp (.call c)))=so
  split at h
  ·rename_i s x t t' h1 h2 h3;simp only [evMore,h1,h2,h3];unfold sCopy at h;split at h
   ·rename_i elem hu;split at h
    ·rename_i i b off n full hi hs;split at h
     ·rename_i blk bs m news hb m0;split at h
      ·rename_i l hd mg;subst h;intro ha;obtain ⟨h4,h5⟩:=of_decide_eq_true hd;simp only [evCopy,hu,hi,hs,hb,m0];rw [if_pos ⟨h4,h5,ha.1,ha.2.1⟩];simp only [mg]
      ·subst h;trivial
     ·subst h;trivial
    ·subst h;trivial
   ·subst h;trivial
  ·subst h;exact jL _
 ·exact jL _
end
end Go.Proofs.YtlomaojlpodibaaGreat
namespace Go.Proofs.YtlomaojlpodibaaGreat
open Go.RowKit
set_option maxRecDepth 100000
def accV (P:Program) (vw:Vw) (hp:Hp) (x:V):Option (List Prop×Hp×Nat×Nat×Bool):=
 match x with
 | .ptr b off=>match hp[b]? with
  | some (some blk)=>match dx blk.1 with
   | false=>some ([],hp,b,off,false)
   | true=>none
  | _=>none
 | .eptr b base rel=>match hp[b]? with
  | some (some blk)=>match blk.1 with
   | []=>none
   | p::t=>match p.seals with
    | none=>match dx (p::t) with
     | false=>offs base rel fun o=>some ([],hp,b,o,false)
     | true=>none
    | some (o,A)=>match t with
     | []=>match dA P blk.2 with
      | some es=>match vw blk.2 A (base / es) with
       | some v=>match v.length==es&&Nat.ble rel es&&eL blk.2,dx v with
        | true,false=>some ([(A.drop base).take es=v,base+es<=A.length],hp.set b (some ([mkS o (A.take base)]++v++[mkS o (A.drop (base+es))],blk.2)),b,1+rel,true)
        | _,_=>none
       | none=>none
      | none=>none
     | _::_=>match (t.take rel).length==rel,dx (t.take rel) with
      | true,false=>some ([A.length=base],hp,b,1+rel,false)
      | _,_=>none
  | _=>none
 | _=>none
def openN (b:Nat):Nat->Nat->Hp->Hp
 | 0,_,hp=>hp
 | k+1,j,hp=>match hp[b]? with
  | some (some blk)=>match blk.1[j]? with
   | some (.osl E n o cs)=>openN b k (j+1) (hp.set b (some (blk.1.take j ++ .sl hp.length 0 n false::blk.1.drop (j+1),blk.2))++[some ([mkS o cs],E)])
   | _=>openN b k (j+1) hp
  | _=>hp
def dLoad (P:Program) (vw:Vw) (hp:Hp) (t:TypeId) (x:V):SO:=
 match accV P vw hp x,dA P t,P.underlying t with
 | some (ps,br,b,idx,sh),some s,some d=>
  match br[b]? with
  | some (some blk)=>
   let l:=(blk.1.drop idx).take s
   match l.length==s&&(blk.1.take idx).length==idx&&eL blk.2,dx l,jK l with
   | true,false,true=>match sh,dx blk.1,kx d,l with
    | false,true,true,l=> .one ps ⟨.agg l,hp,[b],[]⟩
    | false,true,false,[c]=> .one ps ⟨c,hp,[b],[]⟩
    | _,_,_,_=> .no
   | true,false,false=>match (openN b s idx br)[b]? with
    | some (some jU)=>
     let l2:=(jU.1.drop idx).take s
     match l2.length==s&&(jU.1.take idx).length==idx&&eL jU.2,dx l2,jK l2 with
     | true,false,true=>match kx d,l2 with
      | true,l2=> .one ps ⟨.agg l2,openN b s idx br,[b],[b]⟩
      | false,[c]=> .one ps ⟨c,openN b s idx br,[b],[b]⟩
      | _,_=> .no
     | _,_,_=> .no
    | _=> .no
   | _,_,_=> .no
  | _=> .no
 | _,_,_=> .no
def dStore (P:Program) (vw:Vw) (hp:Hp) (t:TypeId) (x y:V):SO:=
 match accV P vw hp x,dA P t with
 | some (ps,br,b,idx,_),some s=>
  match br[b]? with
  | some (some blk)=>match dx blk.1 with
   | true=>
    let l:=(blk.1.drop idx).take s
    match l.length==s&&(blk.1.take idx).length==idx&&y.flat&&(cellsV y).length==s&&(cellsV y).all V.one&&eL blk.2,dx l with
    | true,false=> .one ps ⟨.cw,br.set b (some (blk.1.take idx++cellsV y++blk.1.drop (idx+s),blk.2)),[b],[b]⟩
    | _,_=> .no
   | false=> .no
  | _=> .no
 | _,_=> .no
def dClear (P:Program) (hp:Hp) (t:TypeId) (x:V):SO:=
 match P.underlying t with
 | some (.slice elem)=>match x with
  | .sl b off n _=>match P.info? elem,hp[b]? with
   | some i,some (some ([.aw c],T))=>match i.zero with
    | some z=>match decide (T=elem/\0<i.size/\z.cells.size=i.size),(z.cells.toList.map ofScalar).all V.one with
     | true,true=> .one [0<n,off+n*i.size<=c.length] ⟨.tup [],hp.set b (some ([.aw (c.take off)],T)),[b],[b]⟩
     | _,_=> .no
    | none=> .no
   | _,_=> .no
  | _=> .no
 | _=> .no
def dOp (P:Program) (vw:Vw) (e:Operand->V) (hp:Hp):Op->SO
 | .load t x=>dLoad P vw hp t (e x)
 | .store t x y=>dStore P vw hp t (e x) (e y)
 | .call c=>match c.callee,c.args.toList,c.argTypes.toList with
  | .builtin .clear,[x],[t]=>dClear P hp t (e x)
  | _,_,_=> .no
 | _=> .no
section
variable {P:Program} {vw:Vw} {hp br:Hp} {bs:List Nat}
theorem aA9 (hn:ee P) {e:Operand->V} {op:Op} {out:Out} (h:evPlain P e hp op=some out):gw P e hp op out:=
 w5 (callF:=fun _ _ _=>none) hn (fun _ _ _ _ h=>by cases h) (fun _ _ _ _ h=>by cases h) (by
  unfold evOp;split
  ·simp [evPlain] at h
  ·simp [evPlain] at h
  ·rw [h])
theorem Tidy.sub {acc wr acc' wr':List Nat} (t:Tidy hp br acc wr) (ha:∀b,b∈acc↔b∈acc') (hw:∀b,b∈wr↔b∈wr'):Tidy hp br acc' wr':=
 ⟨t.len,fun b h1 h2=>t.frame b h1 fun h=>h2 ((hw b).1 h),fun b h=>(ha b).1 (t.lj b ((hw b).2 h)),fun b h=>t.jx b ((ha b).2 h),fun b h=>t.lh b ((hw b).2 h)⟩
theorem Good.sub {I I':Nat->Prop} {μ μ':Mu} {w w':World} {acc wr acc' wr':List Nat} (G:Good P I I' μ μ' w w' hp br acc wr) (ha:∀b,b∈acc↔b∈acc') (hw:∀b,b∈wr↔b∈wr'):Good P I I' μ μ' w w' hp br acc' wr':=
 ⟨G.dI,fun k hk=>by
   rcases G.eY k hk with h | h | ⟨c,h1,h2⟩
   ·exact .inl h
   ·exact .inr (.inl h)
   ·exact .inr (.inr ⟨c,(hw c).1 h1,h2⟩),
  G.cJ.mono fun k ⟨b,h1,h2⟩=>⟨b,(hw b).1 h1,h2⟩,G.le,G.cP,fun b h1 h2=>G.dj b (fun h=>h1 ((hw b).1 h)) h2,fun b hb=>G.holds b (hb.imp (ha b).2 id),fun b hb blk bz g hg=>by
   rcases G.er b (hb.imp id (hw b).2) blk bz g hg with h | ⟨c,h1,h2⟩
   ·exact .inl h
   ·exact .inr ⟨c,(hw c).1 h1,h2⟩,
  fun b c b1 b2 g bc hb hc=>G.inj b c b1 b2 g bc (hb.imp (ha b).2 id) (hc.imp (ha c).2 id)⟩
theorem gw.sub {e:Operand->V} {op:Op} {out:Out} {acc wr:List Nat} (h:gw P e hp op out) (ha:∀b,b∈out.acc↔b∈acc) (hw:∀b,b∈out.wr↔b∈wr):gw P e hp op ⟨out.v,out.hp,acc,wr⟩:=by
 refine ⟨h.tidy.sub ha hw,fun ho bX pre hK=>h.wp ho bX ⟨pre.dB,fun b hb=>pre.holds b ((ha b).1 hb),fun b hb c hc=>pre.inj b ((ha b).1 hb) c ((ha c).1 hc),pre.fresh⟩ fun val w' μ' I' hR G=>hK val w' μ' I' hR (G.sub ha hw)⟩
theorem fu.sub {Jy:List Nat} (h:fu P hp br bs) (hb:∀b,b∈bs↔b∈Jy):fu P hp br Jy:=
 ⟨h.tidy.sub hb hb,fun pre hs=>by
  obtain ⟨μ1,G⟩:=h.run pre fun b bT=>hs b ((hb b).1 bT);exact ⟨μ1,G.sub (fun _=>Iff.rfl) hb⟩⟩
theorem fu.none {b:Nat} {blk:bM} (hb:hp[b]?=some (some blk)):fu P hp hp [b]:=by
 have:=x8 (P:=P) (l:=blk.1) (l':=blk.1) (T:=blk.2) hb (.inr fun _ e=>e) rfl fun h=>⟨_,.refl _,h⟩;have e:hp.set b (some (blk.1,blk.2))=hp:=by
  apply List.ext_getElem?;intro j;rw [List.getElem?_set];split
  ·rename_i e;subst e;rw [hb,if_pos (List.getElem?_eq_some_iff.1 hb).1]
  ·rfl
 rwa [e] at this
theorem G5 (b:Nat):∀(k j:Nat) {hp:Hp} {blk:bM},hp[b]?=some (some blk)->fu P hp (openN b k j hp) [b]/\∃l,(openN b k j hp)[b]?=some (some (l,blk.2))/\l.take j=blk.1.take j/\(flat (l.take j)).length=(flat (blk.1.take j)).length
 | 0,j,hp,blk,hb=>⟨.none hb,blk.1,hb,rfl,rfl⟩
 | k+1,j,hp,blk,hb=>by
  have bO:=(List.getElem?_eq_some_iff.1 hb).1;unfold openN;simp only [hb];split
  ·rename_i E n o cs hj;have iK:=(List.getElem?_eq_some_iff.1 hj).1;have sW:blk.1=blk.1.take j ++ .osl E n o cs::blk.1.drop (j+1):=by
    conv=>lhs;rw [<- List.take_append_drop j blk.1]
    rw [List.drop_eq_getElem_cons iK];have vg:blk.1[j]= .osl E n o cs:=by rw [List.getElem?_eq_getElem iK] at hj;exact Option.some.inj hj
    rw [vg]
   have h1:=aC4 (P:=P) (hp:=hp) (b:=b) (pr:=blk.1.take j) (po:=blk.1.drop (j+1)) (E:=E) (n:=n) (o:=o) (cs:=cs) (T:=blk.2) (by rw [hb,<- sW]);have je:(hp.set b (some (blk.1.take j ++ .sl hp.length 0 n false::blk.1.drop (j+1),blk.2))++[some ([mkS o cs],E)])[b]?=some (some (blk.1.take j ++ .sl hp.length 0 n false::blk.1.drop (j+1),blk.2)):=by
    rw [List.getElem?_append_left (by simpa using bO),List.getElem?_set,if_pos rfl,if_pos bO]
   obtain ⟨h2,l,h3,h4,_⟩:=G5 b k (j+1) je;have e:l.take j=blk.1.take j:=by
    have:=congrArg (List.take j) h4;rw [List.take_take,List.take_take,Nat.min_eq_left ag] at this;rw [this,List.take_left' (by rw [List.length_take];omega)]
   refine ⟨(h1.trans h2).sub fun c => ?_,l,h3,e,by rw [e]⟩;rw [fO];simp only [List.mem_append,List.mem_singleton,or_self];constructor
   ·exact fun h=>h.1
   ·rintro rfl;exact ⟨rfl,bO⟩
  ·obtain ⟨h2,l,h3,h4,_⟩:=G5 b k (j+1) hb;have e:l.take j=blk.1.take j:=by
    have:=congrArg (List.take j) h4;rwa [List.take_take,List.take_take,Nat.min_eq_left ag] at this
   exact ⟨h2,l,h3,e,by rw [e]⟩
theorem Bo:∀(l:List V) (n:Nat),dx l=false->dx (l.take n)=false
 | [],n,h=>by simpa using h
 | x::t,0,h=>rfl
 | x::t,n+1,h=>by
  rcases gg x with ⟨o,c,rfl⟩ | hx
  ·rw [xq] at h;cases h
  ·rw [pv hx] at h;rw [List.take_succ_cons,pv hx];exact Bo t n h
theorem zS {x:V} {ps:List Prop} {b idx:Nat} {sh:Bool} (h:accV P vw hp x=some (ps,br,b,idx,sh)) (ha:All ps):fu P hp br [b]/\(sh=false->br=hp)/\∃off,x.asPtr= .ptr b off/\∀blk,br[b]?=some (some blk)->(blk.1.take idx).length=idx->(flat (blk.1.take idx)).length=off:=by
 unfold accV at h;split at h
 ·rename_i b' off;split at h
  ·rename_i blk hb;split at h
   ·rename_i hs;cases h
    refine ⟨.none hb,fun _=>rfl,_,rfl,fun bG bT hl => ?_⟩;rw [hb] at bT;cases bT;rw [jW (Bo _ _ hs),hl]
   ·cases h
  ·cases h
 ·rename_i b' base rel;split at h
  ·rename_i blk hb;split at h
   ·cases h
   ·rename_i p t FX;split at h
    ·split at h
     ·rename_i hs;rw [pS] at h;cases h
      refine ⟨.none hb,fun _=>rfl,base+rel,by simp only [V.asPtr,pS],fun bG bT hl => ?_⟩;rw [hb] at bT;cases bT;rw [jW (Bo _ _ (by rw [FX];exact hs)),hl]
     ·cases h
    ·rename_i o A dH;have dY:p=mkS o A:=by
      rcases gg p with ⟨o',c',rfl⟩ | hx
      ·rw [Qo] at dH;cases dH;rfl
      ·rw [hx] at dH;cases dH
     subst dY;split at h
     ·split at h
      ·rename_i es Xr;split at h
       ·rename_i v hv;split at h
        ·rename_i hl hs;cases h
         obtain ⟨h1,h2,_⟩:=ha;have bO:=(List.getElem?_eq_some_iff.1 hb).1;refine ⟨aD0 (b:=b) (o:=o) (c:=A) (T:=blk.2) (by rw [hb,<- FX]) h1 hs h2 (by rw [Bool.and_eq_true] at hl;exact hl.2),fun h=>(by cases h),base+rel,by simp only [V.asPtr,pS],fun bG bT jj => ?_⟩;rw [List.getElem?_set,if_pos rfl,if_pos bO] at bT;cases bT
         rw [Bool.and_eq_true,Bool.and_eq_true] at hl;replace hl:=hl.1;have fN:v.length=es:=by simpa using hl.1
         have eX:rel<=es:=Nat.le_of_ble_eq_true hl.2;simp only [List.singleton_append,List.cons_append,List.nil_append] at jj ⊢;rw [Nat.add_comm 1 rel] at jj ⊢;rw [List.take_succ_cons,iF,List.take_append_of_le_length ag,jW (Bo _ _ hs),List.length_append,List.length_take,List.length_take];omega
        ·cases h
       ·cases h
      ·cases h
     ·split at h
      ·rename_i hl hs;cases h
       obtain ⟨h1,_⟩:=ha;refine ⟨.none hb,fun _=>rfl,base+rel,by simp only [V.asPtr,pS],fun bG bT _ => ?_⟩;rw [hb] at bT;cases bT;rw [FX,Nat.add_comm 1 rel,List.take_succ_cons,iF,List.length_append,jW hs,eq_of_beq hl,h1]
      ·cases h
  ·cases h
 ·cases h
theorem JM {l:List V} {idx s off:Nat} (kj:(flat (l.take idx)).length=off) (hs:dx ((l.drop idx).take s)=false) (hl:((l.drop idx).take s).length=s):((flat l).drop off).take s=(l.drop idx).take s/\off+s<=(flat l).length:=by
 have e:flat l=flat (l.take idx)++(((l.drop idx).take s)++flat ((l.drop idx).drop s)):=by
  conv=>lhs;rw [<- List.take_append_drop idx l,<- List.take_append_drop s (l.drop idx)]
  rw [gz,gz,jW hs]
 constructor
 ·rw [e,List.drop_left' kj,List.take_left' hl]
 ·rw [e,List.length_append,List.length_append,hl,kj];omega
theorem Gv (hn:ee P) {e:Operand->V} {t:TypeId} {x:Operand} {b idx off s:Nat} {d:TypeDesc} {blk:bM} {v:V} (hx:(e x).asPtr= .ptr b off) (hb:hp[b]?=some (some blk)) (cQ:dA P t=some s) (hu:P.underlying t=some d)
  (kj:(flat (blk.1.take idx)).length=off) (hs:dx ((blk.1.drop idx).take s)=false) (hl:((blk.1.drop idx).take s).length=s) (ho:jK ((blk.1.drop idx).take s)=true) (hT:eL blk.2=true)
  (hv:(kx d=true/\v= .agg ((blk.1.drop idx).take s))\/(kx d=false/\(blk.1.drop idx).take s=[v])):gw P e hp (.load t x) ⟨v,hp,[b],[]⟩:=by
 obtain ⟨h1,h2⟩:=JM kj hs hl
 refine aA9 hn ?_
 simp only [evPlain,evLoad,hx,hb,hu,cQ]
 rcases hv with ⟨hd,rfl⟩ | ⟨hd,hv⟩
 ·simp only [hd]
  rw [h1,ho,Bool.or_true,hT,if_pos ⟨hl,rfl⟩]
 ·simp only [hd]
  rw [hv] at h1 hl ho
  have sV:s=1:=by simpa using hl.symm
  subst sV
  have:(flat blk.1)[off]?=some v:=by
   have h3:(((flat blk.1).drop off).take 1)[0]?=some v:=by rw [h1];rfl
   rw [List.getElem?_take,if_pos ag,List.getElem?_drop] at h3
   simpa using h3
  rw [this]
  have hc:v.isO=false:=by simpa [jK] using ho
  have xn:Nat.beq blk.2 mm=false:=by simpa [eL] using hT
  simp only [hc,xn,Bool.or_self]
theorem US (hn:ee P) {e:Operand->V} {t:TypeId} {x:Operand} {ps:List Prop} {out:Out} (h:dLoad P vw hp t (e x)= .one ps out) (ha:All ps):gw P e hp (.load t x) out:=by
 unfold dLoad at h
 split at h
 case h_2=>cases h
 rename_i Pg br b idx sh s d kf cQ hu
 split at h
 case h_2=>cases h
 rename_i blk hb
 simp only at h
 split at h
 ·rename_i hl hs ho
  rw [Bool.and_eq_true,Bool.and_eq_true] at hl
  have L7:=hl.2
  replace hl:=hl.1
  have fJ:((blk.1.drop idx).take s).length=s:=eq_of_beq hl.1
  have eh:(blk.1.take idx).length=idx:=eq_of_beq hl.2
  split at h
  ·rename_i l _ hd
   cases h
   obtain ⟨_,h2,off,h3,h4⟩:=zS kf ha
   obtain rfl:=h2 rfl
   exact Gv hn h3 hb cQ hu (h4 blk hb eh) hs fJ ho L7 (.inl ⟨hd,rfl⟩)
  ·rename_i c _ hd hc
   cases h
   obtain ⟨_,h2,off,h3,h4⟩:=zS kf ha
   obtain rfl:=h2 rfl
   exact Gv hn h3 hb cQ hu (h4 blk hb eh) hs fJ ho L7 (.inr ⟨hd,hc⟩)
  ·cases h
 ·rename_i hl hs ho
  rw [Bool.and_eq_true,Bool.and_eq_true] at hl
  replace hl:=hl.1
  have eh:(blk.1.take idx).length=idx:=eq_of_beq hl.2
  split at h
  case h_2=>cases h
  rename_i jU je
  split at h
  case h_2=>cases h
  rename_i hm Yt Yc
  rw [Bool.and_eq_true,Bool.and_eq_true] at hm
  have XX:=hm.2
  replace hm:=hm.1
  have xD:((jU.1.drop idx).take s).length=s:=eq_of_beq hm.1
  have go:∀v,All Pg->((kx d=true/\v= .agg ((jU.1.drop idx).take s))\/(kx d=false/\(jU.1.drop idx).take s=[v]))->gw P e hp (.load t x) ⟨v,openN b s idx br,[b],[b]⟩:=by
   intro v ha hv
   obtain ⟨k1,_,off,k3,k4⟩:=zS kf ha
   obtain ⟨q1,l,q2,q3,q4⟩:=G5 (P:=P) b s idx hb
   rw [je] at q2
   have bO:b<hp.length:=k1.tidy.jx b (by simp)
   have hq:=Gv hn k3 je cQ hu (by
    have:jU.1=l:=by cases q2;rfl
    rw [this,q4];exact k4 blk hb eh) Yt xD Yc XX hv
   refine (gw.Pf (k1.trans q1) hq).sub (fun c => ?_) fun c => ?_
   ·simp only [fO,List.mem_append,List.mem_singleton,or_self]
    constructor
    ·rintro ⟨h1 | h1,h2⟩
     ·exact h1.1
     ·exact h1
    ·rintro rfl;exact ⟨.inr rfl,bO⟩
   ·simp only [fO,List.mem_append,List.mem_singleton,or_self,List.not_mem_nil,or_false]
    constructor
    ·rintro ⟨h1,h2⟩;exact h1.1
    ·rintro rfl;exact ⟨⟨rfl,bO⟩,bO⟩
  split at h
  ·rename_i hd
   cases h
   exact go _ ha (.inl ⟨hd,rfl⟩)
  ·rename_i c hd hc
   cases h
   exact go _ ha (.inr ⟨hd,hc⟩)
  ·cases h
 ·cases h
theorem CR.put {I:Nat->Prop} {μ:Mu} {w:World} {F:List Nat} {l new:List V} {idx s off:Nat} {vs nv:List Value} (h:CR P I μ w F l vs) (hn:V.RL P I μ w new nv) (kj:(flat (l.take idx)).length=off) (hs:dx ((l.drop idx).take s)=false) (hl:((l.drop idx).take s).length=s) (Ya:new.length=s):
  (flat (l.take idx++new++l.drop (idx+s))).length=(flat l).length/\∃F',F'.Sublist F/\CR P I μ w F' (l.take idx++new++l.drop (idx+s)) (vs.take off++nv++vs.drop (off+s)):=by
 have e:l=l.take idx++((l.drop idx).take s++l.drop (idx+s)):=by
  rw [<- List.drop_drop,List.take_append_drop,List.take_append_drop]
 have ef:(flat l).length=(flat (l.take idx)).length+(s+(flat (l.drop (idx+s))).length):=by
  conv=>lhs;rw [e]
  rw [gz,gz,jW hs,List.length_append,List.length_append,hl]
 rw [e] at h;obtain ⟨F1,F2,us,us',rfl,rfl,h1,h2⟩:=CR.append_iff.1 h;obtain ⟨F3,F4,u2,u3,rfl,rfl,h3,h4⟩:=CR.append_iff.1 h2;have l1:=h1.length;have l3:=h3.length;rw [kj] at l1;rw [jW hs,hl] at l3;constructor
 ·rw [ef,gz,gz,List.length_append,List.length_append,xh hn,Ya];omega
 ·refine ⟨F1++F4,(List.Sublist.refl F1).append (List.sublist_append_right F3 F4),?_⟩;have ed:(us++(u2++u3)).drop (off+s)=u3:=by rw [<- List.drop_drop,List.drop_left' l1,List.drop_left' l3]
  rw [List.take_left' l1,ed];have:=(h1.append (CR.of hn)).append h4;rwa [List.append_nil] at this
theorem aP3 {e:Operand->V} {t:TypeId} {x y:Operand} {b idx off s:Nat} {blk:bM} (hx:(e x).asPtr= .ptr b off) (hb:hp[b]?=some (some blk)) (cQ:dA P t=some s) (hf:(e y).flat=true) (MA:(cellsV (e y)).length=s) (YW:(cellsV (e y)).all V.one=true)
  (kj:(flat (blk.1.take idx)).length=off) (hs:dx ((blk.1.drop idx).take s)=false) (hl:((blk.1.drop idx).take s).length=s) (hT:eL blk.2=true):
  gw P e hp (.store t x y) ⟨.cw,hp.set b (some (blk.1.take idx++cellsV (e y)++blk.1.drop (idx+s),blk.2)),[b],[b]⟩:=by
 have bO:=(List.getElem?_eq_some_iff.1 hb).1
 have t1:=ya hb (some (blk.1.take idx++cellsV (e y)++blk.1.drop (idx+s),blk.2)) []
 rw [List.append_nil] at t1
 refine ⟨t1,fun {I μ w oper a K Q} ho bX pre hK => ?_⟩
 have sX:=zU (bX x (by simp [Op.operands]))
 have YY:=bX y (by simp [Op.operands])
 rw [hx] at sX
 simp only [V.R] at sX
 obtain ⟨g,hg,Gh⟩:=sX
 obtain ⟨cs,fr,_,hw,eg,⟨YA,jh⟩,_⟩:=(pre.holds b (by simp) blk hb).real hT hg
 have eD:Row w g blk.2 cs:=⟨fr,hw,eg⟩
 have iI:=AA YY hf
 have fN:(a.eval y).cells.toList.length=s:=by rw [iI.length,MA]
 obtain ⟨_,hle⟩:=JM kj hs hl
 have cL:=tH P g off blk.2 (a.eval y).cells.toList 0 cs w eD ag (vI iI YW)
 simp only [Nat.add_zero] at cL
 obtain ⟨eh,F',mP,sM⟩:=CR.put jh iI kj hs hl MA
 have pG:(Instr.storeAt t (a.eval x) (a.eval y)).run P w= .ok () (w.setRow g (cs.toList.take off++(a.eval y).cells.toList++cs.toList.drop (off+(a.eval y).cells.toList.length)).toArray):=by
  rw [Gh]
  simp only [Instr.storeAt,Instr.sureAddr,Sem.run_bind,Sem.run_pure,Result.andThen_ok,storeVar,run_sizeOf cQ]
  rw [if_neg (by simpa using fN)]
  exact cL
 have hG:Good P I I μ (μ.eQ b F') w (w.setRow g (cs.toList.take off++(a.eval y).cells.toList++cs.toList.drop (off+(a.eval y).cells.toList.length)).toArray) hp (hp.set b (some (blk.1.take idx++cellsV (e y)++blk.1.drop (idx+s),blk.2))) [b] [b]:=by
  have e:=Ct cs.toList (a.eval y).cells.toList off (flat blk.1).length ag (by simpa using YA)
  have iL:(a.eval y).cells.size=s:=by simpa using fN
  refine Good.rF (bG:=(_,blk.2)) (by simpa using pre) (by simp) hb hg hw rfl ?_ eg mP ?_
  ·simp only [List.size_toArray,List.length_append,List.length_take,List.length_drop,Array.length_toList];omega
  ·refine ⟨?_,?_⟩
   ·show (flat (blk.1.take idx++cellsV _++blk.1.drop (idx+s))).length<=_
    rw [eh];simp only [List.size_toArray,List.length_append,List.length_take,List.length_drop,Array.length_toList];omega
   ·show CR P I μ w F' (blk.1.take idx++cellsV _++blk.1.drop (idx+s)) (List.take (flat (blk.1.take idx++cellsV _++blk.1.drop (idx+s))).length _)
    rw [eh,e,fN]
    exact sM
 have:=hK undef _ _ _ (by simp [V.R]) hG
 unfold Oper.wp
 simp only [execOp,ho,Sem.run_bind,pG,Result.andThen_ok,Sem.run_pure]
 exact this
theorem UU {e:Operand->V} {t:TypeId} {x y:Operand} {ps:List Prop} {out:Out} (h:dStore P vw hp t (e x) (e y)= .one ps out) (ha:All ps):gw P e hp (.store t x y) out:=by
 unfold dStore at h
 split at h
 case h_2=>cases h
 rename_i Pg br b idx sh s kf cQ
 split at h
 case h_2=>cases h
 rename_i blk hb
 split at h
 case h_2=>cases h
 simp only at h
 split at h
 case h_2=>cases h
 rename_i hc hs
 cases h
 simp only [Bool.and_eq_true,beq_iff_eq] at hc
 obtain ⟨⟨⟨⟨⟨c1,c2⟩,c3⟩,c4⟩,c5⟩,c6⟩:=hc
 obtain ⟨k1,_,off,k3,k4⟩:=zS kf ha
 have bO:b<hp.length:=k1.tidy.jx b (by simp)
 refine (gw.Pf k1 (aP3 k3 hb cQ c3 c4 c5 (k4 blk hb c2) hs c1 c6)).sub (fun c => ?_) fun c => ?_
 all_goals
  simp only [fO,List.mem_append,List.mem_singleton,or_self]
  constructor
  ·exact fun h=>h.1
  ·rintro rfl;exact ⟨rfl,bO⟩
theorem aV6 {z:List V} (hz:z.all V.one=true) (h0:0<z.length) (n:Nat):(iy z n).all V.one=true:=by
 rw [List.all_eq_true] at hz ⊢;intro v hv;simp only [iy,List.mem_map,List.mem_range] at hv;obtain ⟨i,_,rfl⟩:=hv;have hi:i % z.length<z.length:=Nat.mod_lt _ h0;rw [List.getD_eq_getElem?_getD,List.getElem?_eq_getElem hi];exact hz _ (List.getElem_mem _)
theorem UR {e:Operand->V} {c:Call} {x:Operand} {t:TypeId} {ps:List Prop} {out:Out} (jE:c.callee= .builtin .clear) (b6:c.args.toList=[x]) (xv:c.argTypes.toList=[t]) (h:dClear P hp t (e x)= .one ps out) (ha:All ps):gw P e hp (.call c) out:=by
 have LG:c.args = #[x]:=by cases hh:c.args;rw [hh] at b6;simp at b6;simp [b6]
 have Xc:c.argTypes = #[t]:=by cases hh:c.argTypes;rw [hh] at xv;simp at xv;simp [xv]
 unfold dClear at h;split at h;case h_2=>cases h
 rename_i elem hu;split at h;case h_2=>cases h
 rename_i b off n full hx;split at h;case h_2=>cases h
 rename_i i d T hi hb;split at h;case h_2=>cases h
 rename_i z hz;split at h;case h_2=>cases h
 rename_i hc lA;cases h
 obtain ⟨qJ,kO,jn⟩:=of_decide_eq_true hc;obtain ⟨h0,hle,_⟩:=ha;have t1:=ya hb (some ([.aw (d.take off)],T)) [];rw [List.append_nil] at t1;refine ⟨t1,fun {I μ w oper a K Q} ho bX pre hK => ?_⟩;have sX:=bX x (by simp only [Op.operands,Call.operands,LG];exact Array.mem_append.2 (.inr (by simp)));rw [hx] at sX;simp only [V.R] at sX;obtain ⟨g,cap,e',N,i',hg,Gh,_,_,_,de,_⟩:=sX.resolve_right (by rintro ⟨_,h1,_⟩;omega);obtain ⟨cs,fr,_,hw,eg,⟨cQ,jh⟩,_⟩:=(pre.holds b (by simp) _ hb).mr hg de;have eD:Row w g T cs:=⟨fr,hw,eg⟩;have iI:flat [V.aw d]=d:=by simp [flat]
 simp only [iI] at cQ jh;have Bb:V.RL P I μ w (iy (z.cells.toList.map ofScalar) (n*i.size)) (Builtin.zeroCells z.cells n).toList:=by
  have:=zN (P:=P) (I:=I) (μ:=μ) (w:=w) z.cells (n*i.size);unfold Builtin.zeroCells;rw [jn];rw [jn] at this;exact this
 have fN:(Builtin.zeroCells z.cells n).toList.length=n*i.size:=by simp [Builtin.zeroCells,jn]
 have cL:=tH P g off T (Builtin.zeroCells z.cells n).toList 0 cs w eD ag (vI Bb (aV6 lA (by simp [jn,kO]) _));simp only [Nat.add_zero] at cL;have iL:(Builtin.zeroCells z.cells n).size=n*i.size:=by simpa using fN
 have pG:(Builtin.clear_ #[t] oper.type #[a.eval x]).run P w= .ok (.tuple #[]) (w.setRow g (cs.toList.take off++(Builtin.zeroCells z.cells n).toList++cs.toList.drop (off+(Builtin.zeroCells z.cells n).toList.length)).toArray):=by
  rw [Gh];obtain ⟨n',rfl⟩:∃n',n=n'+1:=⟨n - 1,ag⟩;simp [Builtin.clear_,Sem.run_bind,run_underlying hu,zeroValue,typeInfo,hi,hz];rw [cL];simp
 have Xa:V.RL P I cf w d (cs.toList.take d.length):=by
  obtain ⟨us,us',e1,h2,h3⟩:=CR.BS.1 jh;obtain ⟨_,e4⟩:=CR.fP.1 h3;subst e4;rw [List.append_nil] at e1;rw [e1];exact h2
 have hG:Good P I I μ (μ.eQ b []) w (w.setRow g (cs.toList.take off++(Builtin.zeroCells z.cells n).toList++cs.toList.drop (off+(Builtin.zeroCells z.cells n).toList.length)).toArray) hp (hp.set b (some ([.aw (d.take off)],T))) [b] [b]:=by
  refine Good.rF (bG:=([.aw (d.take off)],T)) (by simpa using pre) (by simp) hb hg hw rfl ?_ eg (List.nil_sublist _) ?_
  ·simp only [List.size_toArray,List.length_append,List.length_take,List.length_drop,Array.length_toList];omega
  ·have bQ:(d.take off).length=off:=by rw [List.length_take];omega
   refine iz.aw ?_ ?_
   ·simp only [List.size_toArray,List.length_append,List.length_take,List.length_drop,Array.length_toList];omega
   ·rw [bQ];have:=V.RL.take Xa off;rw [List.take_take,Nat.min_eq_left ag] at this;simp only [List.append_assoc];rw [List.take_append_of_le_length (by rw [List.length_take,Array.length_toList];omega),List.take_take,Nat.min_self];exact this
 have:=hK (.tuple #[]) _ _ _ (by simp [V.R,V.RL]) hG;unfold Oper.wp;simp only [execOp,ho,resolve,jE,LG,Xc,invoke,builtin,Sem.run_bind,Sem.run_pure,Result.andThen_ok,List.map_toArray,List.map_cons,List.map_nil,pG];exact this
theorem UT (hn:ee P) {e:Operand->V} {op:Op} {ps:List Prop} {out:Out} (h:dOp P vw e hp op= .one ps out) (ha:All ps):gw P e hp op out:=by
 unfold dOp at h;split at h
 ·exact US hn h ha
 ·exact UU h ha
 ·split at h
  ·rename_i jE b6 xv;exact UR jE b6 xv h ha
  ·cases h
 ·cases h
end
structure Jh:Type 1 where
 {β:Type}
 v:β
 r:β->Bool×V
structure Ji:Type 1 where
 {β:Type}
 v:β
 r:β->List V
structure Jj:Type 1 where
 look:TypeId->List V->V->Option Jh:=fun _ _ _=>none
 put:TypeId->List V->V->V->Option Ji:=fun _ _ _ _=>none
inductive SC:Type 1 where
 | look (l:Jh)
 | put (l:Ji)
 | no
def mOp (_:Program) (_:Option (Bool×V)) (_:Option (List V)) (_:Operand->V) (_:Hp):Op->SO
 | .makeMap _ _=> .no
 | _=> .no
def af6 (_:Program) (_:Jj) (_:Operand->V) (_:Hp):Op->SC
 | .makeMap _ _=> .no
 | _=> .no
theorem Na {P:Program} {lk:Option (Bool×V)} {pt:Option (List V)} {e:Operand->V} {hp:Hp} {op:Op} {ps:List Prop} {out:Out} (h:mOp P lk pt e hp op= .one ps out) (_:All ps):gw P e hp op out:=by
 unfold mOp at h;split at h <;> cases h
inductive T (α:Type):Type 1 where
 | done (a:α)
 | ai (ps:List Prop) (t:T α)
 | bind {β:Type} (v:β) (k:β->T α)
 | fail
def T.WP {α:Type} (Q:α->Prop):T α->Prop
 | .done a=>Q a
 | .ai ps t=>All ps/\t.WP Q
 | .bind v k=>∀y,y=v->(k y).WP Q
 | .fail=>False
def T.force {α:Type} (t:T α):T α:=match t with
 | .done a=> .done a
 | .ai ps t=> .ai ps t
 | .bind v k=> .bind v k
 | .fail=> .fail
theorem T.force_eq {α:Type} (t:T α):t.force=t:=by cases t <;> rfl
def oz {α:Type} (ps:List Prop) (t:T α):T α:=
 match ps with
 | []=>t
 | p::ps=> .ai (p::ps) t
theorem rL {α:Type} {Q:α->Prop} {ps:List Prop} {t:T α} (h:(oz ps t).WP Q):All ps/\t.WP Q:=by
 cases ps with
 | nil=>exact ⟨a8,h⟩
 | cons p ps=>exact h
theorem ba {α:Type} {Q:α->Prop} {b:Bool} {x y:T α}:(cond b x y).WP Q↔(b=true->x.WP Q)/\(b=false->y.WP Q):=by
 cases b <;> simp
theorem SJ {α:Type} {Q:α->Prop} {b:Bool} {x y:T α} (h:(cond b x y).WP Q):x.WP Q\/y.WP Q:=by
 cases b
 ·exact .inr h
 ·exact .inl h
structure SG:Type 1 where
 {β:Type}
 v:β
 r:β->aF
abbrev cy:=FuncId->List V->Hp->Option SG
inductive SB where
 | one (k:Kp) (s0:St) (ex:Ex) (s1:St)
 | two (k:Kp) (s0:St) (c:Bool) (ex:Ex) (s1:St) (ex':Ex) (s1':St)
structure b8:Type 1 where
 {β:Type}
 v:β
 alt:β->SB
structure Env:Type 1 where
 P:Program
 vw:Vw
 res:cy
 ls:Nat->St->Option b8:=fun _ _=>none
 vs:List (Nat×Nat×V):=[]
 mt:List (TypeId×String×FuncId):=[]
 pk:Option iU:=none
 mp:Jj:={}
 sp:Nat->Nat->FuncId->List V->Hp->Option (Bool×aF×aF):=fun _ _ _ _ _=>none
def aU1 (vs:List (Nat×Nat×V)) (r i:Nat):Option V:=(vs.find? fun h=>Nat.beq h.1 r&&Nat.beq h.2.1 i).map (·.2.2)
def bodyB (P:Program) (f:FuncId):Bool:=match P.funcs[f]? with
 | some fn=>fn.body.isSome
 | none=>false
def DO (hp:Hp) (ids:List Nat) (r:aF):Out:=
 ⟨V.ren (lY ids hp.length) r.v,(hp.zipIdx.map fun x=>if (r.wr.filterMap fun j=>ids[j]?).contains x.2 then kY (lY ids hp.length) (((pos ids x.2).bind fun j=>r.hp[j]?).getD none) else x.1)++(r.hp.drop ids.length).map (kY (lY ids hp.length)),ids,r.wr.filterMap fun j=>ids[j]?⟩
section
variable {α:Type}
def callT (E:Env) (r i:Nat) (hp:Hp) (f:FuncId) (vs:List V) (k:Out->T α):T α:=
 let ids:=reach hp 100000 (V.refsL vs) []
 let cM:=V.renL (pos ids) vs
 let dH:=ids.map fun b=>kY (pos ids) (hp.getD b none)
 match E.sp r i f cM dH,bodyB E.P f with
 | some (c,r1,r2),true=>cond c (.ai [au E.P f cM dH r1] (k (DO hp ids r1))) (.ai [au E.P f cM dH r2] (k (DO hp ids r2)))
 | _,b=>match E.res f cM dH,b with
  | some ⟨v,r⟩,true=> .bind v fun y=> .ai [au E.P f cM dH (r y)] (k (DO hp ids (r y)))
  | _,_=> .fail
def opT (E:Env) (r i:Nat) (e:Operand->V) (hp:Hp) (op:Op) (k:Out->T α):T α:=
 match op with
 | .call {callee:= .value f,args:=args,argTypes:=_}=>
  match e f with
  | .fn g cap=>callT E r i hp g (args.toList.map e++cap) k
  | _=> .fail
 | .call {callee:= .invoke x name,args:=args,argTypes:=_}=>
  match e x with
  | .box (.iface t) [v]=>match E.mt.find? (fun m=>Nat.beq m.1 t&&m.2.1==name) with
   | some (t',name',f)=> .ai [t'=t,name'=name,wJ E.P t name f] (callT E r i hp f (v::args.toList.map e) k)
   | none=> .fail
  | _=> .fail
 | op=>match aU1 E.vs r i,op with
  | some v,.load t x=>match (e x).asPtr with
   | .ptr b o=>match hp[b]?,E.P.underlying t,dA E.P t with
    | some (some blk),some d,some _=>match kx d||v.isO||Nat.beq blk.2 mm with
     | true=> .fail
     | false=> .ai [(flat blk.1)[o]?=some v] (k ⟨v,hp,[b],[]⟩)
    | _,_,_=> .fail
   | _=> .fail
  | _,op=>match af6 E.P E.mp e hp op with
   | .look l=> .bind l.v fun y=>match mOp E.P (some (l.r y)) none e hp op with
    | .one ps o=>oz ps (k o)
    | _=> .fail
   | .put l=> .bind l.v fun y=>match mOp E.P none (some (l.r y)) e hp op with
    | .one ps o=>oz ps (k o)
    | _=> .fail
   | .no=>match mOp E.P none none e hp op with
   | .one ps o=>oz ps (k o)
   | _=>match dOp E.P E.vw e hp op with
   | .one ps o=>oz ps (k o)
   | _=>match evOpS E.P E.vw e hp op with
   | .one ps o=>oz ps (k o)
   | .two c ps o qs o'=>cond c (oz ps (k o)) (oz qs (k o'))
   | .no=>match evPlain E.P e hp op with
    | some o=>k o
    | none=>match sMore E.P e hp op with
     | .one ps o=>oz ps (k o)
     | _=> .fail
def qP {β:Type _} (s:St) (d:Nat) (b:Bool) (k:St->β):β:=m9 s.tm (some d) (.bool b) fun tm=>k ⟨tm,s.hp,s.wr⟩
theorem Tr.HH:∀(t:Tr) (i:Nat),t.set i (t.get i)=t
 | .leaf,_=>rfl
 | .node v l r,i=>by
  unfold Tr.set Tr.get;cases h0:Nat.beq i 0
  ·cases h1:Nat.beq (i % 2) 1
   ·simp only [Tr.HH r]
   ·simp only [Tr.HH l]
  ·rfl
theorem vD {β:Type _} {s:St} {d:Nat} {b:Bool} {k:St->β} (h:s.tm.get d= .bool b):qP s d b k=k s:=by
 unfold qP;rw [vM];have:mo s.tm (some d) (.bool b)=s.tm:=by
  unfold Tm.get at h;split at h
  ·show (⟨s.tm.n,s.tm.t.set d (.bool b)⟩:Tm)=s.tm;rw [<- h,Tr.HH]
  ·cases h
 rw [this]
def runT (E:Env) (r i:Nat) (s:St) (o:Oper) (k:St->List Nat->List Nat->T α):T α:=opT E r i (evalV s.tm) s.hp o.op fun out=>nW out.v fun v=>m9 s.tm o.dst v fun tm=>k ⟨tm,out.hp,forceW out.wr s.wr⟩ out.acc out.wr
def Qz (s:St) (o:Oper) (k:St->List Nat->List Nat->T α):T α:=m9 s.tm o.dst (.lit undef) fun tm=>k ⟨tm,s.hp,s.wr⟩ [] []
def stepT (E:Env) (ops:Array Oper) (r i:Nat) (s:St) (o:Oper) (k:St->List Nat->List Nat->T α):T α:=
 match o.guard with
 | none=>opT E r i (evalV s.tm) s.hp o.op fun out=>nW out.v fun v=>m9 s.tm o.dst v fun tm=>k ⟨tm,out.hp,forceW out.wr s.wr⟩ out.acc out.wr
 | some (j,want)=>match (ops[j]?).bind (·.dst) with
  | some d=>match s.tm.get d with
   | .bool b=>match want with
    | true=>cond b (qP s d true fun s=>runT E r i s o k) (qP s d false fun s=>Qz s o k)
    | false=>cond b (qP s d true fun s=>Qz s o k) (qP s d false fun s=>runT E r i s o k)
   | .lit (.tuple _)=>m9 s.tm o.dst (.lit undef) fun tm=>k ⟨tm,s.hp,s.wr⟩ [] []
   | _=> .fail
  | none=> .fail
def traceT (E:Env) (ops:Array Oper) (r:Nat):Nat->List Oper->St->List Rec->(List Rec->St->T α)->T α
 | _,[],s,acc,k=>k acc.reverse s
 | i,o::rest,s,acc,k=>stepT E ops r i s o fun s' ac wr=>traceT E ops r (i+1) rest s' ((s,ac,wr)::acc) k
def codeT (E:Env) (m:Nat):Code->St->(Ex->St->T α)->T α
 | .skip,s,k=>k .normal s
 | .region id ops draw,s,k=>traceT E ops id 0 ops.toList s [] fun l s2=>match draw with
  | false=>k .normal s2
  | true=>match uq ops l s2 with
   | true=>k .normal s2
   | false=> .fail
 | .seq x y,s,k=>codeT E m x s fun ex s'=>match ex with
  | .normal=>codeT E m y s' k
  | .exit i=>k (.exit i) s'
  | .ret=>k .ret s'
 | .cond c x y,s,k=>match evalV s.tm c with
  | .bool b=>match c with
   | .tmp t=>cond b (qP s t true fun s=>codeT E m x s k) (qP s t false fun s=>codeT E m y s k)
   | _=>cond b (codeT E m x s k) (codeT E m y s k)
  | _=> .fail
 | .block id body,s,k=>match E.ls id s with
  | some ⟨v,alt⟩=> .bind v fun y=>match alt y with
   | .one kp s0 ex s1=>normC E.P m kp s fun ok sn=>match ok with
    | true=> .ai [sn=s0,aN E.P m body s0 ex s1] (k (outEx id ex) s1)
    | false=> .fail
   | .two kp s0 c ex s1 ex' s1'=>normC E.P m kp s fun ok sn=>match ok with
    | true=> .ai [sn=s0] (cond c (.ai [aN E.P m body s0 ex s1] (k (outEx id ex) s1)) (.ai [aN E.P m body s0 ex' s1'] (k (outEx id ex') s1')))
    | false=> .fail
  | none=>codeT E m body s fun ex s'=>k (outEx id ex) s'
 | .exit id,s,k=>k (.exit id) s
 | .ret,s,k=>k .ret s
 | _,_,_=> .fail
def Gt (m mode:Nat) (v:List V) (hp:Hp):List Nat:=
 (List.range m++((match mode with
  | 0=>V.vL v
  | 1=>V.refsL v
  | _=>V.refsL v++(hp.take m).flatMap (fun (x:Option bM)=>match x with | some blk=>V.refsL blk.1 | none=>[])).filter fun b=>Nat.ble m b)).eraseDups
def aK5 (m:Nat) (ids:List Nat) (BB:List Nat):List Nat:=((List.range ids.length).filter fun j=>Nat.ble m j && !(BB.contains (ids.getD j 0)))
def yj (E:Env) (m mode:Nat) (v:V) (s:St):T aF:=
 match jq m (Gt m mode [v] s.hp) with
 | true=> .done (gc E.P m (Gt m mode [v] s.hp) (aK5 m (Gt m mode [v] s.hp) (V.vL [v])) v s)
 | false=> .fail
def retT (E:Env) (m mode:Nat) (fn:Func) (s:St):T aF:=
 match evResultL E.P s.hp s.tm fn.results.toList with
 | some v=>match E.pk with
  | none=>yj E m mode (oneOf v) s
  | some ow=>Bt E.P ow m [] (oneOf v) s fun ids s1=>match ids with
   | some ids=>nW (frz E.P s.hp ids m 100 (oneOf v)) fun v=>yj E m mode v s1
   | none=>yj E m mode (oneOf v) s1
 | none=> .fail
theorem aG2 (E:Env) (m mode:Nat) (fn:Func) (s:St):retT E m mode fn s=match evResultL E.P s.hp s.tm fn.results.toList with
  | some v=>yj E m mode (packF E.P E.pk m [] (oneOf v) s (oneOf v)) (qV E.P E.pk m [] (oneOf v) s)
  | none=> .fail:=by
 unfold retT;split
 ·split
  ·rename_i h;unfold packF qV;rw [h];rfl
  ·rename_i ow h;rw [O1];unfold packF;rw [h];dsimp only;split
   ·rename_i ids e;split at e
    ·rename_i e2;rw [sA,e2];cases e
     rfl
    ·cases e
   ·rename_i e;split at e
    ·cases e
    ·rename_i e2;rw [e2];rfl
 ·rfl
def fnT (E:Env) (mode:Nat) (f:FuncId) (vs:List V) (hp:Hp):T aF:=
 match E.P.funcs[f]? with
 | some fn=>match fn.body with
  | some c=>codeT E hp.length c ⟨Tm.start (vs.length+(fn.ntmps - vs.length)) vs,hp,[]⟩ fun ex s=>match ex with
   | .normal=>retT E hp.length mode fn s
   | .ret=>retT E hp.length mode fn s
   | .exit _=> .fail
  | none=> .fail
 | none=> .fail
def bp (E:Env) (m:Nat) (nf:Ex->Kp) (c:Code) (s:St):T (Ex×St):=
 codeT E m c s fun ex s'=>normC E.P m (nf ex) s' fun ok sn=>match ok with
  | true=> .done (ex,sn)
  | false=> .fail
variable {E:Env} {Q:α->Prop}
theorem ar9 (P:Program):j5 P fun _ _ _=>none:=fun _ _ _ _ h=>by cases h
theorem ar8 (P:Program):lO P fun _ _ _=>none:=fun _ _ _ _ h=>by cases h
theorem w6 {P:Program} {callF:gv} {e:Operand->V} {hp:Hp} {op:Op} {out:Out} (h:evPlain P e hp op=some out):evOp P callF e hp op=some out:=by
 unfold evOp;split
 ·simp [evPlain] at h
 ·simp [evPlain] at h
 ·rw [h]
open Classical in
def s8 (f:FuncId) (vs:List V) (hp:Hp) (r:aF):gv:=fun f' cM dH=>if f'=f/\cM=vs/\dH=hp then some r else none
theorem GY {P:Program} {f:FuncId} {vs:List V} {hp:Hp} {r:aF} (h:au P f vs hp r):j5 P (s8 f vs hp r):=by
 intro f' cM dH r' h';unfold s8 at h';split at h'
 ·rename_i hc;obtain ⟨rfl,rfl,rfl⟩:=hc;cases h';exact h
 ·cases h'
theorem GX {P:Program} {f:FuncId} {vs:List V} {hp:Hp} {r:aF} (h:bodyB P f=true):lO P (s8 f vs hp r):=by
 intro f' cM dH r' h';unfold s8 at h';split at h'
 ·rename_i hc;obtain ⟨rfl,rfl,rfl⟩:=hc;unfold bodyB at h;split at h
  ·rename_i fn ji;exact ⟨fn,ji,h⟩
  ·cases h
 ·cases h'
theorem JI {r i:Nat} {hp:Hp} {f:FuncId} {vs:List V} {k:Out->T α} (h:(callT E r i hp f vs k).WP Q):
  ∃callF out,lO E.P callF/\j5 E.P callF/\evCall callF hp f vs=some out/\(k out).WP Q:=by
 unfold callT at h;simp only at h;split at h
 ·rename_i c r1 r2 hr hb;cases c
  ·obtain ⟨⟨h1,_⟩,h2⟩:=h;refine ⟨_,_,GX (r:=r2) hb,GY h1,?_,h2⟩;unfold evCall s8;simp only [and_self,if_true];rfl
  ·obtain ⟨⟨h1,_⟩,h2⟩:=h;refine ⟨_,_,GX (r:=r1) hb,GY h1,?_,h2⟩;unfold evCall s8;simp only [and_self,if_true];rfl
 ·split at h
  ·rename_i β v r hr hb;obtain ⟨⟨h1,_⟩,h2⟩:=h v rfl;refine ⟨_,_,GX (r:=r v) hb,GY h1,?_,h2⟩;unfold evCall s8;simp only [and_self,if_true];rfl
  ·exact h.elim
theorem aw3 (hn:ee E.P) {r i:Nat} {e:Operand->V} {hp:Hp} {op:Op} {k:Out->T α} (h:(opT E r i e hp op k).WP Q):
  ∃out,gw E.P e hp op out/\(k out).WP Q:=by
 have plain:∀ {out:Out},evOp E.P (fun _ _ _=>none) e hp op=some out->gw E.P e hp op out:=fun h=>w5 hn (ar8 _) (ar9 _) h;unfold opT at h;split at h
 ·split at h
  ·rename_i f args ts g cap hf;obtain ⟨callF,out,h1,h2,h3,h4⟩:=JI h;exact ⟨out,w5 hn h1 h2 (by simp only [evOp,hf];exact h3),h4⟩
  ·exact h.elim
 ·split at h
  ·rename_i x name args ts t v hx;split at h
   ·rename_i t' name' f hm;obtain ⟨⟨rfl,rfl,XZ,_⟩,h⟩:=h;obtain ⟨callF,out,h1,h2,h3,h4⟩:=JI h;exact ⟨out,w5 hn h1 h2 (by simp only [evOp,hx,ai4 XZ];exact h3),h4⟩
   ·exact h.elim
  ·exact h.elim
 ·rename_i bc X7;split at h
  ·rename_i v t x hv;split at h
   ·rename_i b o hx;split at h
    ·rename_i blk d sz hb hu hs;split at h
     ·exact h.elim
     ·rename_i hd;obtain ⟨⟨h1,_⟩,h2⟩:=h;refine ⟨_,plain (w6 ?_),h2⟩;rw [Bool.or_eq_false_iff,Bool.or_eq_false_iff] at hd;simp only [evPlain,hx,evLoad,hb,hu,hs,hd.1.1,h1,hd.1.2,hd.2,Bool.or_self]
    ·exact h.elim
   ·exact h.elim
  ·rename_i op _ _ _;have eW:=av2 (P:=E.P) (vw:=E.vw) (hp:=hp) (e:=e) op;have Nb:∀ {lk pt},(match mOp E.P lk pt e hp op with | .one ps o=>oz ps (k o) | _=>(.fail:T α)).WP Q->∃out,gw E.P e hp op out/\(k out).WP Q:=by
    intro lk pt hh;split at hh
    ·rename_i ps o hd;obtain ⟨h1,h2⟩:=rL hh;exact ⟨_,Na hd h1,h2⟩
    ·exact hh.elim
   split at h
   ·rename_i l _;exact Nb (h l.v rfl)
   ·rename_i l _;exact Nb (h l.v rfl)
   split at h
   ·rename_i ps o hd;obtain ⟨h1,h2⟩:=rL h;exact ⟨_,Na hd h1,h2⟩
   split at h
   ·rename_i ps o hd;obtain ⟨h1,h2⟩:=rL h;exact ⟨_,UT hn hd h1,h2⟩
   split at h
   ·rename_i ps o hs;rw [hs] at eW;obtain ⟨h1,h2⟩:=rL h;exact ⟨_,plain (w6 (eW h1)),h2⟩
   ·rename_i c ps o qs o' hs;rw [hs] at eW;cases c
    ·obtain ⟨h1,h2⟩:=rL h;exact ⟨_,plain (w6 (eW.2 rfl h1)),h2⟩
    ·obtain ⟨h1,h2⟩:=rL h;exact ⟨_,plain (w6 (eW.1 rfl h1)),h2⟩
   ·split at h
    ·rename_i br;exact ⟨_,plain (w6 br),h⟩
    ·rename_i br;have Mi:=aJ4 (P:=E.P) (hp:=hp) (e:=e) op;split at h
     ·rename_i ps o dY;rw [dY] at Mi;obtain ⟨h1,h2⟩:=rL h;refine ⟨_,plain ?_,h2⟩;unfold evOp;split
      ·exact absurd rfl (bc _ _ _)
      ·exact absurd rfl (X7 _ _ _ _)
      ·rw [br];exact Mi h1
     ·exact h.elim
theorem aO7 (hn:ee E.P) {ops:Array Oper} {r i:Nat} {s:St} {o:Oper} {k:St->List Nat->List Nat->T α} (h:(stepT E ops r i s o k).WP Q):
  ∃s' acc wr,qb E.P ops s o s' acc wr/\(k s' acc wr).WP Q:=by
 have go:wantedV ops s.tm o=some true->(opT E r i (evalV s.tm) s.hp o.op fun out=>nW out.v fun v=>m9 s.tm o.dst v fun tm=>k ⟨tm,out.hp,forceW out.wr s.wr⟩ out.acc out.wr).WP Q ->
   ∃s' acc wr,qb E.P ops s o s' acc wr/\(k s' acc wr).WP Q:=by
  intro hw h;obtain ⟨out,h3,h4⟩:=aw3 hn h;simp only [vM,sA,Lg] at h4;exact ⟨_,_,_,.inl ⟨hw,out,h3,rfl,rfl,rfl⟩,h4⟩
 have skip:wantedV ops s.tm o=some false->(m9 s.tm o.dst (.lit undef) fun tm=>k ⟨tm,s.hp,s.wr⟩ [] []).WP Q ->
   ∃s' acc wr,qb E.P ops s o s' acc wr/\(k s' acc wr).WP Q:=by
  intro hw h;simp only [vM] at h;exact ⟨_,_,_,.inr ⟨hw,rfl,rfl,rfl⟩,h⟩
 unfold stepT at h;split at h
 ·rename_i hg;exact go (by simp only [wantedV,hg]) h
 ·rename_i j want hg;split at h
  ·rename_i d hd;split at h
   ·rename_i b hb;split at h
    ·cases b
     ·simp only [cond_false,vD hb] at h;exact skip (by simp [wantedV,hg,hd,hb]) h
     ·simp only [cond_true,vD hb] at h;exact go (by simp [wantedV,hg,hd,hb]) h
    ·cases b
     ·simp only [cond_false,vD hb] at h;exact go (by simp [wantedV,hg,hd,hb]) h
     ·simp only [cond_true,vD hb] at h;exact skip (by simp [wantedV,hg,hd,hb]) h
   ·rename_i hb;exact skip (by simp only [wantedV,hg,hd,hb]) h
   ·exact h.elim
  ·exact h.elim
theorem Rh (hn:ee E.P) {ops:Array Oper} {r:Nat}:∀ {os:List Oper} {i:Nat} {s:St} {acc:List Rec} {k:List Rec->St->T α},(traceT E ops r i os s acc k).WP Q ->
  ∃l s2,nD E.P ops os s l s2/\(k (acc.reverse++l) s2).WP Q
 | [],i,s,acc,k,h=>⟨[],s,.nil s,by simpa [traceT] using h⟩
 | o::rest,i,s,acc,k,h=>by
  unfold traceT at h;obtain ⟨s',ac,wr,h3,h4⟩:=aO7 hn h;obtain ⟨l,s2,h5,h6⟩:=Rh hn h4;refine ⟨(s,ac,wr)::l,s2,.cons h3 h5,?_⟩;simpa using h6
theorem rY (hm:E.P.follows .mixedOrders=true) (hn:ee E.P) {m:Nat}:∀ {c:Code} {s:St} {k:Ex->St->T α},(codeT E m c s k).WP Q->∃ex s',aN E.P m c s ex s'/\(k ex s').WP Q
 | .skip,s,k,h=>⟨.normal,s,.skip,h⟩
 | .region id ops draw,s,k,h=>by
  unfold codeT at h;obtain ⟨l,s2,h1,h2⟩:=Rh hn h;simp only [List.reverse_nil,List.nil_append] at h2;cases draw with
  | false=>exact ⟨.normal,s2,.region hm hn h1 (fun h=>by cases h),h2⟩
  | true=>
   simp only at h2;split at h2
   ·rename_i hd;exact ⟨.normal,s2,.region hm hn h1 (fun _=>hd),h2⟩
   ·exact h2.elim
 | .seq x y,s,k,h=>by
  unfold codeT at h;obtain ⟨ex,s',h1,h2⟩:=rY hm hn h;cases ex with
  | normal=>
   obtain ⟨VH,s2,h3,h4⟩:=rY hm hn h2;exact ⟨VH,s2,.seq h1 h3,h4⟩
  | exit i=>exact ⟨_,_,.BT h1 (by simp),h2⟩
  | ret=>exact ⟨_,_,.BT h1 (by simp),h2⟩
 | .cond c x y,s,k,h=>by
  unfold codeT at h;split at h
  ·rename_i b hb;have h':(cond b (codeT E m x s k) (codeT E m y s k)).WP Q:=by
    split at h
    ·cases b
     ·rwa [cond_false,vD hb] at h
     ·rwa [cond_true,vD hb] at h
    ·exact h
   clear h;cases b
   ·obtain ⟨ex,s',h1,h2⟩:=rY hm hn h';exact ⟨ex,s',.cond hb h1,h2⟩
   ·obtain ⟨ex,s',h1,h2⟩:=rY hm hn h';exact ⟨ex,s',.cond hb h1,h2⟩
  ·exact h.elim
 | .block id body,s,k,h=>by
  unfold codeT at h;split at h
  ·replace h:=h _ rfl;simp only [N3] at h;split at h
   ·split at h
    ·rename_i hp;obtain ⟨⟨h1,h2,_⟩,h3⟩:=h;exact ⟨_,_,.block (.pre (h1▸Bq hp) h2),h3⟩
    ·exact h.elim
   ·split at h
    ·rename_i hp;obtain ⟨⟨h1,_⟩,h3⟩:=h;rcases SJ h3 with h3 | h3
     ·obtain ⟨⟨h2,_⟩,h4⟩:=h3;exact ⟨_,_,.block (.pre (h1▸Bq hp) h2),h4⟩
     ·obtain ⟨⟨h2,_⟩,h4⟩:=h3;exact ⟨_,_,.block (.pre (h1▸Bq hp) h2),h4⟩
    ·exact h.elim
  ·obtain ⟨ex,s',h1,h2⟩:=rY hm hn h;exact ⟨_,_,.block h1,h2⟩
 | .exit id,s,k,h=>⟨_,_,.exit,h⟩
 | .ret,s,k,h=>⟨_,_,.ret,h⟩
 | .loop _,_,_,h=>h.elim
 | .rangeFunc _ _ _ _,_,_,h=>h.elim
 | .scope _,_,_,h=>h.elim
 | .label _,_,_,h=>h.elim
 | .goto _,_,_,h=>h.elim
 | .refuse _,_,_,h=>h.elim
theorem Fb (hm:E.P.follows .mixedOrders=true) (hn:ee E.P) {mode:Nat} {f:FuncId} {vs:List V} {hp:Hp} {Q:aF->Prop} (h:(fnT E mode f vs hp).WP Q):∃r,au E.P f vs hp r/\Q r:=by
 unfold fnT at h;split at h
 ·rename_i fn ji;split at h
  ·rename_i c hc;obtain ⟨ex,s,h1,h2⟩:=rY hm hn h;have key:(retT E hp.length mode fn s).WP Q->ex= .normal\/ex= .ret->∃r,au E.P f vs hp r/\Q r:=by
    intro h hex;rw [aG2] at h;split at h
    ·rename_i v hv;unfold yj at h;split at h
     ·rename_i hp;exact ⟨_,V0 ji hc h1 hex hv (O2 _ _ _ _) hp rfl,h⟩
     ·exact h.elim
    ·exact h.elim
   cases ex with
   | normal=>exact key h2 (.inl rfl)
   | ret=>exact key h2 (.inr rfl)
   | exit _=>exact h2.elim
  ·exact h.elim
 ·exact h.elim
theorem K6 (hm:E.P.follows .mixedOrders=true) (hn:ee E.P) {mode:Nat} {f:FuncId} {vs:List V} {hp:Hp} {r:aF} {t:T aF} (e:fnT E mode f vs hp=t) (h:t.WP (· = r)):au E.P f vs hp r:=by
 subst e;obtain ⟨r',h1,rfl⟩:=Fb hm hn h;exact h1
theorem Jx (hm:E.P.follows .mixedOrders=true) (hn:ee E.P) {m:Nat} {nf:Ex->Kp} {c:Code} {s:St} {Q:Ex×St->Prop} (h:(bp E m nf c s).WP Q):∃ex s',aN E.P m c s ex s'/\Q (ex,s'):=by
 unfold bp at h;obtain ⟨ex,s',h1,h2⟩:=rY hm hn h;rw [N3] at h2;split at h2
 ·rename_i hp;exact ⟨ex,_,h1.post (Bq hp),h2⟩
 ·exact h2.elim
def Jg (P:Program) (m:Nat) (body:Code) (ex:Ex) (s':St):Ex×St->Prop
 | (.normal,s1)=>aT P m body s1 ex s'
 | (.exit i,s1)=>Ex.exit i=ex/\s1=s'
 | (.ret,s1)=>Ex.ret=ex/\s1=s'
theorem bZ (hm:E.P.follows .mixedOrders=true) (hn:ee E.P) {m:Nat} {nf:Ex->Kp} {c:Code} {s s':St} {ex:Ex} {t:T (Ex×St)} (e:bp E m nf c s=t) (h:t.WP (Jg E.P m c ex s')):aT E.P m c s ex s':=by
 subst e;obtain ⟨KO,s1,h1,h2⟩:=Jx hm hn h;cases KO with
 | normal=>exact .step h1 h2
 | exit i=>obtain ⟨rfl,rfl⟩:=h2;exact .done h1 (by simp)
 | ret=>obtain ⟨rfl,rfl⟩:=h2;exact .done h1 (by simp)
theorem jP (hm:E.P.follows .mixedOrders=true) (hn:ee E.P) {m:Nat} {nf:Ex->Kp} {c:Code} {s s':St} {ex:Ex} {t:T (Ex×St)} (e:bp E m nf c s=t) (h:t.WP (· = (ex,s'))):aN E.P m c s ex s':=by
 subst e;obtain ⟨KO,s1,h1,h2⟩:=Jx hm hn h;cases h2
 exact h1
end
theorem named:ee Tryz.prog:=ak1 (by kernel_rfl)
theorem follows:Tryz.prog.follows .mixedOrders=true:=by kernel_rfl
def ah (n:Nat) (l:List (Nat×V)):Tm:=l.foldl (fun t p=>t.put p.1 p.2) ⟨n,Tr.mk0 11⟩
structure Lay {α:Type} (enc:α->List V) (s:Nat):Prop where
 pos:0<s
 len:∀x,(enc x).length=s
 Gr:∀x y,enc x=enc y->x=y
 one:∀x,(enc x).all V.one=true
section
variable {α:Type} {enc:α->List V} {s:Nat}
theorem wZ:ae enc []=[]:=rfl
theorem eS (x:α) (L:List α):ae enc (x::L)=enc x++ae enc L:=rfl
theorem oS (L M:List α):ae enc (L++M)=ae enc L++ae enc M:=by simp [ae]
theorem KK (x:α):ae enc [x]=enc x:=by simp [ae]
theorem dF (L:List α) (x:α):ae enc (L++[x])=ae enc L++enc x:=by rw [oS,KK]
theorem Lay.inj (h:Lay enc s):∀L M:List α,ae enc L=ae enc M->L=M:=by
 intro L;induction L with
 | nil=>
  intro M hM;cases M with
  | nil=>rfl
  | cons y M=>
   have h1:=h.len y;have h2:=h.pos;rw [wZ,eS] at hM;have:=congrArg List.length hM;rw [List.length_append] at this;rw [h1,List.length_nil] at this;omega
 | cons x L ih=>
  intro M hM;cases M with
  | nil=>
   have h1:=h.len x;have h2:=h.pos;rw [wZ,eS] at hM;have:=congrArg List.length hM;rw [List.length_append] at this;rw [h1,List.length_nil] at this;omega
  | cons y M=>
   rw [eS,eS] at hM;obtain ⟨e1,e2⟩:=List.append_inj hM (by rw [h.len,h.len]);rw [h.Gr _ _ e1,ih M e2]
theorem Lay.af (h:Lay enc s) (L:List α):af enc (ae enc L)=L:=by
 have he:∃M,ae enc M=ae enc L:=⟨L,rfl⟩;unfold Go.Proofs.YtlomaojlpodibaaGreat.af;rw [dif_pos he];exact h.inj _ _ he.choose_spec
theorem Lay.length (h:Lay enc s) (L:List α):(ae enc L).length=L.length*s:=by
 induction L with
 | nil=>simp [ae]
 | cons x L ih=>rw [eS,List.length_append,h.len,ih,List.length_cons,Nat.add_mul,Nat.one_mul,Nat.add_comm]
theorem Lay.all (h:Lay enc s) (L:List α):(ae enc L).all V.one=true:=by
 induction L with
 | nil=>rfl
 | cons x L ih=>rw [eS,List.all_append,h.one,ih];rfl
theorem Lay.hasO (h:Lay enc s) (L:List α):hasO (ae enc L)=false:=by
 have:=h.all L;unfold Go.Proofs.YtlomaojlpodibaaGreat.hasO;rw [List.any_eq_false];intro x hx;have h1:=List.all_eq_true.1 this x hx;cases x <;> first | (simp;done) | (simp [V.one] at h1;done)
theorem Lay.drop (h:Lay enc s):∀(L:List α) (i:Nat),(ae enc L).drop (i*s)=ae enc (L.drop i)
 | L,0=>by simp
 | [],i+1=>by simp [ae]
 | x::L,i+1=>by
  rw [eS,List.drop_succ_cons,<- h.drop L i,Nat.succ_mul,Nat.add_comm,<- List.drop_drop,List.drop_left' (h.len x)]
theorem Lay.take (h:Lay enc s):∀(L:List α) (i:Nat),(ae enc L).take (i*s)=ae enc (L.take i)
 | L,0=>by simp [ae]
 | [],i+1=>by simp [ae]
 | x::L,i+1=>by
  rw [eS,List.take_succ_cons,eS,<- h.take L i,Nat.succ_mul,Nat.add_comm,List.take_append,h.len];rw [List.take_of_length_le (by rw [h.len];omega),Nat.add_sub_cancel_left]
theorem Lay.at (h:Lay enc s) (L:List α) (d:α) (i k:Nat) (hi:i<L.length) (hk:k=s):((ae enc L).drop (i*s)).take k=enc (L.getD i d):=by
 subst hk;rw [h.drop,List.drop_eq_getElem_cons hi,eS,List.take_left' (h.len _),List.getD_eq_getElem?_getD,List.getElem?_eq_getElem hi];rfl
theorem Lay.at' (h:Lay enc s) (L:List α) (d:α) (k:Int) (n:Nat) (hk:0<=k/\k<L.length) (hn:n=s):((ae enc L).drop (k.toNat*s)).take n=enc (L.getD k.toNat d):=h.at L d k.toNat n ag hn
end
theorem pP:Lay aP 1:=
 ⟨ag,fun _=>rfl,fun x y h=>by simp only [aP,List.cons.injEq,V.int.injEq,true_and,and_true] at h;exact UInt8.toNat_inj.1 ag,fun _=>rfl⟩
def encStr (s:List UInt8):List V:=[.str s]
theorem cx:Lay encStr 1:=⟨ag,fun _=>rfl,fun x y h=>by simpa [encStr] using h,fun _=>rfl⟩
def aJ (n:Int):List V:=[.int .i64 n]
theorem fa:Lay aJ 1:=⟨ag,fun _=>rfl,fun x y h=>by simpa [aJ] using h,fun _=>rfl⟩
abbrev ab {α:Type} (enc:α->List V) (L:List α):V:= .dsl L.length false (ae enc L)
theorem du {n:Int} (h: -9223372036854775808<=n/\n<=9223372036854775807):IntKind.i64.wrap n=n:=IntWalk.i64_in _ ag
theorem aV4 {n:Nat} (h:n<=9223372036854775807):IntKind.i64.wrap (n:Int)=n:=IntWalk.i64_in _ ag
theorem bW {n:Nat} (h:n<9223372036854775807):IntKind.i64.wrap ((n:Int)+1)=((n+1:Nat):Int):=by rw [IntWalk.i64_in _ ag];simp
section
variable {P:Program}
theorem Qv {hp:Hp} {b:Nat} {X Y:bM} (hb:hp[b]?=some (some X)) {k:Nat} {blk:bM} (h:(hp.set b (some Y))[k]?=some (some blk)):(k=b/\blk=Y)\/(k≠b/\hp[k]?=some (some blk)):=by
 rw [List.getElem?_set] at h;split at h
 ·rename_i e;split at h
  ·cases h;exact .inl ⟨e.symm,rfl⟩
  ·cases h
 ·rename_i e;exact .inr ⟨fun x=>e x.symm,h⟩
theorem BU {hp:Hp} {b:Nat} {X Y:bM} (hb:hp[b]?=some (some X)) {k:Nat} {blk:bM} (h:(hp.set b (some Y))[k]?=some (some blk)):∃cb,hp[k]?=some (some cb):=by
 rcases Qv hb h with ⟨rfl,_⟩ | ⟨_,h⟩
 ·exact ⟨_,hb⟩
 ·exact ⟨_,h⟩
theorem ym {hp:Hp} {b:Nat} {X Y:bM} (hb:hp[b]?=some (some X)) {k:Nat} {blk:bM} (h:hp[k]?=some (some blk)):∃cb,(hp.set b (some Y))[k]?=some (some cb):=by
 rw [List.getElem?_set];split
 ·rename_i e;rw [if_pos (by subst e;exact fk hb)];exact ⟨_,rfl⟩
 ·exact ⟨_,h⟩
theorem CR.tQ {I:Nat->Prop} {μ:Mu} {w:World}:∀ {l:List V} {vs:List Value},hasO l=false->V.RL P I cf w (flat l) vs->CR P I μ w [] l vs
 | [],vs,_,h=>by
  simp only [flat,V.RL] at h;exact CR.fP.2 ⟨rfl,h⟩
 | x::t,vs,ho,h=>by
  unfold hasO at ho;rw [List.any_cons,Bool.or_eq_false_iff] at ho;rcases gg x with ⟨o,c,rfl⟩ | hx
  ·rw [iF] at h;have hl:=h.length;rw [List.length_append] at hl;have FP:o=false:=by cases o <;> first | rfl | simp [mkS] at ho
   subst FP;refine CR.gC.2 ⟨vs.take c.length,vs.drop c.length,[],[],by simp,rfl,⟨rfl,?_⟩,CR.tQ ho.2 ?_⟩
   ·have:=h.take c.length;rwa [List.take_left] at this
   ·have:=h.drop c.length;rwa [List.drop_left] at this
  ·rw [fH hx] at h;simp only [V.RL] at h;obtain ⟨u,us,rfl,h1,h2⟩:=h;exact (CR.fl hx).2 ⟨u,us,[],[],rfl,rfl,ua (ud h1),CR.tQ ho.2 h2⟩
theorem Holds.tQ {I:Nat->Prop} {μ:Mu} {w:World} {b:Nat} {c:List V} {T:TypeId} (hT:eL T=true) (ho:hasO c=false) (h:Holds P I μ w b ([.aw (flat c)],T)):Holds P I μ w b (c,T):=by
 rcases h with ⟨g,cs,fr,k1,k2,k3,k4,⟨k5,k6⟩,k7,k8⟩ | h
 ·simp only [AD] at k5 k6;obtain ⟨us,cM,e,h1,h2⟩:=CR.BS.1 k6;obtain ⟨hF,rfl⟩:=CR.fP.1 h2;rw [List.append_nil] at e;refine .inl ⟨g,cs,fr,k1,k2,k3,k4,⟨k5,?_⟩,k7,k8⟩;rw [hF,e];exact CR.tQ ho h1
 ·rcases h with h | ⟨_,_,_,_,_,_,_,e,_⟩
  ·exact .inr (.inl h)
  ·have e2:=congrArg Prod.snd e;simp only at e2;subst e2;simp [eL,mm] at hT
theorem Holds.aS1 {I:Nat->Prop} {μ:Mu} {w:World} {b:Nat} {c:List V} {T:TypeId} (hT:eL T=true) (ho:hasO c=false) (h:Holds P I μ w b (c,T)) (hr:V.refsL c=[]):Holds P I μ w b ([.aw (flat c)],T):=by
 rcases h with ⟨g,cs,fr,k1,k2,k3,k4,⟨k5,k6⟩,k7,k8⟩ | h
 ·refine .inl ⟨g,cs,fr,k1,k2,k3,k4,⟨by simpa only [AD] using k5,?_⟩,k7,k8⟩;simp only [AD];obtain ⟨hF,h1⟩:=k6.Bp hr ho;rw [hF];exact CR.yl h1
 ·rcases h with h | ⟨_,_,_,_,_,_,_,e,_⟩
  ·exact .inr (.inl h)
  ·have e2:=congrArg Prod.snd e;simp only at e2;subst e2;simp [eL,mm] at hT
theorem au.tQ {f:FuncId} {vs:List V} {hp:Hp} {r:aF} {b:Nat} {c:List V} {T:TypeId} (ho:hasO c=false) (h:au P f vs hp r) (hb:hp[b]?=some (some ([.aw (flat c)],T))) (hr:V.refsL c=[]) (hw:b∉r.wr) (hT:eL T=true:=by rfl):
  au P f vs (hp.set b (some (c,T))) ⟨r.v,r.hp.set b (some (c,T)),r.wr⟩:=by
 obtain ⟨ht,mX⟩:=h;have bO:=fk hb;have sU:r.hp[b]?=some (some ([.aw (flat c)],T)):=by rw [ht.frame b bO hw];exact hb
 constructor
 ·refine ⟨by simpa using ht.len,fun k hk hn => ?_,fun k hk=>by simpa using ht.CE k hk,fun k hk ⟨blk,dX⟩ => ?_⟩
  ·simp only [List.length_set] at hk;show (r.hp.set b _)[k]?=_;rw [List.getElem?_set,List.getElem?_set];split
   ·simp [fk sU,bO]
   ·exact ht.frame k hk hn
  ·simp only [List.length_set] at hk;obtain ⟨cb,h0⟩:=BU sU dX;obtain ⟨qg,h1⟩:=ht.alive k hk ⟨cb,h0⟩;exact ym hb h1
 ·intro I w μ b9 ko pre dN;simp only [List.length_set] at pre dN;have pre':cV P I μ w hp (List.range hp.length) r.hp.length:=by
   refine ⟨pre.dB,fun k hk blk fA => ?_,fun k hk j hj b1 b2 g bc h1 h2 g1 g2 => ?_,fun k h1 h2=>pre.fresh k (by simpa using h1) h2⟩
   ·by_cases e:k=b
    ·subst e;rw [hb] at fA;cases fA;exact (pre.holds k hk (c,T) (by rw [List.getElem?_set,if_pos rfl,if_pos bO])).aS1 hT ho hr
    ·exact pre.holds k hk blk (by rw [List.getElem?_set,if_neg (fun x=>e x.symm)];exact fA)
   ·obtain ⟨_,k1⟩:=ym (Y:=(c,T)) hb h1;obtain ⟨_,k2⟩:=ym (Y:=(c,T)) hb h2;exact pre.inj k hk j hj _ _ g bc k1 k2 g1 g2
  refine (mX I w μ b9 ko pre' dN).mono fun e w' ⟨val,μ',I',he,hR,G⟩=>⟨val,μ',I',he,hR,?_⟩;refine ⟨G.dI,fun k hk => ?_,G.cJ,G.le,fun k g hg=>by simpa using G.cP k g hg,fun k hk hn=>G.dj k hk (by simpa using hn),fun k hk blk fA => ?_,fun k hk blk fA g hg => ?_,fun k j b1 b2 g bc hk hj h1 h2 g1 g2 => ?_⟩
  ·rcases G.eY k hk with h | h | ⟨d,h1,h2,⟨blk,h3⟩⟩
   ·exact .inl h
   ·exact .inr (.inl h)
   ·exact .inr (.inr ⟨d,h1,h2,ym hb h3⟩)
  ·simp only [List.length_set] at hk;rcases Qv sU fA with ⟨rfl,rfl⟩ | ⟨_,fA⟩
   ·exact (G.holds k hk _ sU).tQ hT ho
   ·exact G.holds k hk blk fA
  ·simp only [List.length_set] at hk;obtain ⟨cb,k1⟩:=BU sU fA;rcases G.er k hk cb k1 g hg with h | ⟨d,h1,h2,⟨blk,h3⟩⟩
   ·exact .inl h
   ·exact .inr ⟨d,h1,h2,ym hb h3⟩
  ·simp only [List.length_set] at hk hj;obtain ⟨_,k1⟩:=BU sU h1;obtain ⟨_,k2⟩:=BU sU h2;exact G.inj k j _ _ g bc hk hj k1 k2 g1 g2
theorem au.more {f:FuncId} {vs:List V} {hp:Hp} {r:aF} {wr:List Nat} (h:au P f vs hp r) (h1:∀b∈r.wr,b∈wr) (h2:∀b∈wr,b<hp.length):au P f vs hp ⟨r.v,r.hp,wr⟩:=by
 obtain ⟨ht,mX⟩:=h;refine ⟨⟨ht.len,fun b hb hn=>ht.frame b hb fun h=>hn (h1 b h),h2,ht.alive⟩,fun I w μ b9 ko pre dN=>(mX I w μ b9 ko pre dN).mono fun e w' ⟨val,μ',I',he,hR,G⟩=>⟨val,μ',I',he,hR,?_⟩⟩;refine ⟨G.dI,fun k hk => ?_,G.cJ.mono fun k ⟨b,hb,hg⟩=>⟨b,h1 b hb,hg⟩,G.le,G.cP,fun b hb hn=>G.dj b (fun h=>hb (h1 b h)) hn,G.holds,fun k hk blk fA g hg => ?_,G.inj⟩
 ·rcases G.eY k hk with h | h | ⟨d,k1,k2⟩
  ·exact .inl h
  ·exact .inr (.inl h)
  ·exact .inr (.inr ⟨d,h1 d k1,k2⟩)
 ·by_cases hc:hp.length<=k\/k∈r.wr
  ·rcases G.er k hc blk fA g hg with h | ⟨d,k1,k2⟩
   ·exact .inl h
   ·exact .inr ⟨d,h1 d k1,k2⟩
  ·simp only [not_or,Nat.not_le] at hc;have dO:k∈wr:=hk.resolve_left ag;refine .inr ⟨k,dO,?_,blk,by rw [<- ht.frame k hc.1 hc.2];exact fA⟩;rcases hg with hg | hg
   ·rcases G.cP k g hg with h | ⟨h,_⟩
    ·exact .inl h
    ·omega
   ·rw [G.dj k hc.2 ag] at hg;exact .inr hg
def wP (r' r:aF):Prop:=r'.v=r.v/\r'.hp=r.hp/\∀b∈r'.wr,b∈r.wr
theorem iG {E:Env} (hm:E.P.follows .mixedOrders=true) (hn:ee E.P) {mode:Nat} {f:FuncId} {vs:List V} {hp:Hp} {r:aF} {t:T aF} (e:fnT E mode f vs hp=t) (hw:∀b∈r.wr,b<hp.length) (h:t.WP (wP · r)):au E.P f vs hp r:=by
 subst e;obtain ⟨r',h1,h2,h3,h4⟩:=Fb hm hn h;have:=h1.more h4 hw;rw [h2,h3] at this;exact this
end
theorem aH {a b:aF} (h1:a.v=b.v:=by exact rfl) (h2:a.hp=b.hp:=by exact rfl) (h3:∀x∈a.wr,x∈b.wr:=by simp):wP a b:=⟨h1,h2,h3⟩
theorem a6 {E:Env} {mode:Nat} {f:FuncId} {vs:List V} {hp:Hp} {r:aF} {t:T aF} (e:fnT E mode f vs hp=t) (h:t.WP (wP · r)) (hE:E.P=Tryz.prog:=by exact rfl) (hw:∀b∈r.wr,b<hp.length:=by simp):au Tryz.prog f vs hp r:=by
 have:=iG (E:=E) (hE▸follows) (hE▸named) e hw h
 rwa [hE] at this
theorem bt {E:Env} {m:Nat} {nf:Ex->Kp} {c:Code} {s s':St} {ex:Ex} {t:T (Ex×St)} (e:bp E m nf c s=t) (h:t.WP (Jg E.P m c ex s')) (hE:E.P=Tryz.prog:=by exact rfl):aT Tryz.prog m c s ex s':=by
 have:=bZ (E:=E) (hE▸follows) (hE▸named) e h
 rwa [hE] at this
noncomputable abbrev Pz:Program:=Tryz.prog
abbrev wz (n:Int):Int:=IntKind.i64.wrap n
theorem kz {α:Sort _} {a b:α} (h:a=b:=by kernel_rfl):a=b:=h
theorem dT {p:Prop} (e:p:=by simpa using h):p:=e
theorem eo {p:Prop} (e:p:=by simpa using h0):p:=e
theorem cR {p:Prop} (e:p:=by simpa using h1):p:=e
theorem iu {p:Prop} (e:p:=by simpa using h2):p:=e
theorem fz {α:Type} {x y:T α} (h:x.force=y:=by kernel_rfl):x=y:=(T.force_eq _).symm.trans h
abbrev cz {α:Type} (f:FuncId) (vs:List V) (hp:Hp) (v:V) (dH:Hp) (wr:List Nat) (t:T α):T α:= .ai [au Pz f vs hp ⟨v,dH,wr⟩] t
abbrev nz (tm:Tm) (hp:Hp):T (Ex×St):= .done (.normal,⟨tm,hp,[]⟩)
abbrev dz (v:V) (hp:Hp) (wr:List Nat):T aF:= .done ⟨v,hp,wr⟩
abbrev td (a:Nat) (n:Int) (l:List V):List V:=List.take a (List.drop (n.toNat*a) l)
abbrev pp (a:Nat):V:= .ptr a 0
theorem cX (i:Nat) (h:i<9223372036854775807:=by omega):wz ((i:Int)+1)=((i+1:Nat):Int):=bW h
theorem sz:(∀(α:Type) (Q:α->Prop) (b:Bool) (x y:T α),(cond b x y).WP Q↔(b=true->x.WP Q)/\(b=false->y.WP Q)) /\
  (∀(α:Type) (Q:α->Prop) (a:α),(T.done a).WP Q=Q a) /\
  (∀(α:Type) (Q:α->Prop) (t:T α),(T.ai [] t).WP Q=t.WP Q) /\
  (∀(α:Type) (Q:α->Prop) (a:Prop) (t:T α),(T.ai [a] t).WP Q=(a/\t.WP Q)) /\
  (∀(α:Type) (Q:α->Prop) (a b:Prop) (l:List Prop) (t:T α),(T.ai (a::b::l) t).WP Q=((a/\All (b::l))/\t.WP Q)) /\
  (∀(a b:Prop) (l:List Prop),All (a::b::l)=(a/\All (b::l)))/\(∀(a:Prop),All [a]=a) /\
  (∀(α β:Type) (Q:α->Prop) (v:β) (k:β->T α),(T.bind v k).WP Q=∀y,y=v->(k y).WP Q) /\
  (∀(α:Type) (Q:α->Prop),(T.fail:T α).WP Q=False) /\
  (∀(p:Prop) [Decidable p],(decide p=true)=p)/\(∀(p:Prop) [Decidable p],(decide p=false)↔¬p) /\
  (∀(α:Type) [BEq α] [LawfulBEq α] (a b:α),(a==b)=true↔a=b)/\(∀(α:Type) [BEq α] [LawfulBEq α] (a b:α),(a==b)=false↔¬a=b) /\
  (∀(α:Type) (a b:α),(a≠b)=¬(a=b)):=by
 refine ⟨fun _ _ _ _ _=>ba,fun _ _ _=>rfl,fun _ _ _ => ?_,fun _ _ _ _ => ?_,fun _ _ _ _ _ _=>rfl,fun _ _ _=>rfl,fun _ => ?_,fun _ _ _ _ _=>rfl,fun _ _=>rfl,fun p _=>decide_eq_true_eq,fun p _=>decide_eq_false_iff_not,fun _ _ _ _ _=>beq_iff_eq,fun _ _ _ _ _=>beq_eq_false_iff_ne,fun _ _ _=>rfl⟩
 ·simp [T.WP,All]
 ·simp [T.WP,All]
 ·simp [All]
section
variable {β:Type}
def forceVsC (l:List V) (k:List V->β):β:=
 match l with
 | []=>k []
 | x::xs=>nW x fun y=>forceVsC xs fun ys=>k (y::ys)
theorem Le:∀(l:List V) (k:List V->β),forceVsC l k=k l
 | [],_=>rfl
 | x::xs,k=>by unfold forceVsC;rw [sA,Le xs]
def forceHC (hp:Hp) (k:Hp->β):β:=
 match hp with
 | []=>k []
 | none::t=>forceHC t fun t=>k (none::t)
 | some (cs,ty)::t=>forceVsC cs fun cs=>forceHC t fun t=>k (some (cs,ty)::t)
theorem AE:∀(hp:Hp) (k:Hp->β),forceHC hp k=k hp
 | [],_=>rfl
 | none::t,k=>by unfold forceHC;rw [AE t]
 | some (cs,ty)::t,k=>by unfold forceHC;rw [Le,AE t]
def TC:Op->Bool
 | .alloc _=>true
 | .box _ _=>true
 | .buildSlice _ _ _=>true
 | .makeSlice _ _ _=>true
 | .store _ _ _=>true
 | .call _=>true
 | .convert _ _ _=>true
 | _=>false
def forceO (o:Op) (hp:Hp) (k:Hp->β):β:=match TC o with
 | true=>forceHC hp k
 | false=>k hp
theorem V6 (o:Op) (hp:Hp) (k:Hp->β):forceO o hp k=k hp:=by
 unfold forceO;split
 ·exact AE _ _
 ·rfl
def traceC (P:Program) (callF:gv) (ops:Array Oper):List Oper->St->List Rec->(List Rec->St->Option β)->Option β
 | [],s,acc,k=>k acc s
 | o::rest,s,acc,k=>match wantedV ops s.tm o with
  | some true=>match evOp P callF (evalV s.tm) s.hp o.op with
   | some out=>nW out.v fun v=>m9 s.tm o.dst v fun tm=>forceO o.op out.hp fun hp=>traceC P callF ops rest ⟨tm,hp,forceW out.wr s.wr⟩ ((s,out.acc,out.wr)::acc) k
   | none=>none
  | some false=>m9 s.tm o.dst (.lit undef) fun tm=>traceC P callF ops rest ⟨tm,s.hp,s.wr⟩ ((s,[],[])::acc) k
  | none=>none
def iterC (step:St->(Ex->St->Option β)->Option β) (k:Ex->St->Option β):Nat->St->Option β
 | 0,_=>none
 | n+1,s=>step s fun ex s'=>match ex with
  | .normal=>iterC step k n s'
  | .exit i=>k (.exit i) s'
  | .ret=>k .ret s'
def codeC (P:Program) (callF:gv) (n:Nat):Code->St->(Ex->St->Option β)->Option β
 | .skip,s,k=>k .normal s
 | .region _ ops draw,s,k=>traceC P callF ops ops.toList s [] fun l s2=>match draw with
  | false=>k .normal s2
  | true=>match uq ops l.reverse s2 with
   | true=>k .normal s2
   | false=>none
 | .seq x y,s,k=>codeC P callF n x s fun ex s'=>match ex with
  | .normal=>codeC P callF n y s' k
  | .exit i=>k (.exit i) s'
  | .ret=>k .ret s'
 | .cond c x y,s,k=>match evalV s.tm c with
  | .bool true=>codeC P callF n x s k
  | .bool false=>codeC P callF n y s k
  | _=>none
 | .block id body,s,k=>codeC P callF n body s fun ex s'=>k (outEx id ex) s'
 | .loop body,s,k=>iterC (codeC P callF n body) k n s
 | .exit id,s,k=>k (.exit id) s
 | .ret,s,k=>k .ret s
 | _,_,_=>none
end
def sB (P:Program) (m:Nat) (ids:List Nat) (v:V) (s:St):aF:=⟨frz P s.hp ids m 100 v,(fQ P m [] ids s).hp,(fQ P m [] ids s).wr⟩
def MH (m:Nat) (frozen:Bool) (v:List V) (hp:Hp):List Nat:=match frozen with
 | true=>List.range m
 | false=>reach hp 100000 (V.refsL v++(hp.take m).flatMap fun (x:Option bM)=>match x with | some blk=>V.refsL blk.1 | none=>[]) (List.range m)
def fnC (P:Program) (callF:gv) (n:Nat) (frozen:FuncId->Bool):gv:=fun f vs hp=>
 match P.funcs[f]? with
 | some fn=>match fn.body with
  | some c=>codeC P callF n c ⟨Tm.start (vs.length+(fn.ntmps - vs.length)) vs,hp,[]⟩ fun ex s=>match ex with
   | .exit _=>none
   | _=>match evResultL P s.hp s.tm fn.results.toList with
    | some v=>match jq hp.length (MH hp.length (frozen f) v s.hp) with
     | true=>match sB P hp.length (MH hp.length (frozen f) v s.hp) (oneOf v) s with
      | ⟨v,h,w⟩=>nW v fun v=>forceHC h fun h=>some ⟨v,h,w⟩
     | false=>none
    | none=>none
  | none=>none
 | none=>none
def deepC (P:Program) (ext:gv) (n:Nat) (frozen:FuncId->Bool):Nat->gv
 | 0=>fun _ _ _=>none
 | d+1=>fun f vs hp=>match ext f vs hp with
  | some r=>some r
  | none=>fnC P (deepC P ext n frozen d) n frozen f vs hp
section
variable {P:Program} {callF:gv} {β:Type}
theorem IB (hn:ee P) (hb:lO P callF) (hc:j5 P callF) {ops:Array Oper}:∀ {os:List Oper} {s:St} {acc:List Rec} {k:List Rec->St->Option β} {r:β},traceC P callF ops os s acc k=some r ->
  ∃l s2,nD P ops os s l s2/\k (l.reverse++acc) s2=some r
 | [],s,acc,k,r,h=>⟨[],s,.nil s,by simpa [traceC] using h⟩
 | o::rest,s,acc,k,r,h=>by
  unfold traceC at h;split at h
  ·rename_i hw;split at h
   ·rename_i out ho;simp only [sA,vM,V6,Lg] at h;obtain ⟨l,s2,h1,h2⟩:=IB hn hb hc h;refine ⟨_,s2,.cons (.inl ⟨hw,out,w5 hn hb hc ho,rfl,rfl,rfl⟩) h1,?_⟩;simpa using h2
   ·cases h
  ·rename_i hw;simp only [vM] at h;obtain ⟨l,s2,h1,h2⟩:=IB hn hb hc h;refine ⟨_,s2,.cons (.inr ⟨hw,rfl,rfl,rfl⟩) h1,?_⟩;simpa using h2
  ·cases h
theorem MP {m:Nat} {body:Code} {step:St->(Ex->St->Option β)->Option β} (hs:∀s k r,step s k=some r->∃ex s',aN P m body s ex s'/\k ex s'=some r) {k:Ex->St->Option β} {r:β}:
  ∀(n:Nat) (s:St),iterC step k n s=some r->∃ex s',aT P m body s ex s'/\k ex s'=some r
 | 0,s,h=>by cases h
 | n+1,s,h=>by
  unfold iterC at h;obtain ⟨ex,s',h1,h2⟩:=hs _ _ _ h;cases ex with
  | normal=>
   obtain ⟨ex,s2,h3,h4⟩:=MP hs n s' h2;exact ⟨ex,s2,.step h1 h3,h4⟩
  | exit i=>exact ⟨_,_,.done h1 (by simp),h2⟩
  | ret=>exact ⟨_,_,.done h1 (by simp),h2⟩
theorem rW (hm:P.follows .mixedOrders=true) (hn:ee P) (hb:lO P callF) (hc:j5 P callF) {m n:Nat}:∀ {c:Code} {s:St} {k:Ex->St->Option β} {r:β},codeC P callF n c s k=some r->∃ex s',aN P m c s ex s'/\k ex s'=some r
 | .skip,s,k,r,h=>⟨.normal,s,.skip,h⟩
 | .region id ops draw,s,k,r,h=>by
  unfold codeC at h;obtain ⟨l,s2,h1,h2⟩:=IB hn hb hc h;cases draw with
  | false=>exact ⟨_,_,.region hm hn h1 (fun h=>by cases h),h2⟩
  | true=>
   simp only [List.append_nil,List.reverse_reverse] at h2;split at h2
   ·rename_i hd;exact ⟨_,_,.region hm hn h1 (fun _=>hd),h2⟩
   ·cases h2
 | .seq x y,s,k,r,h=>by
  unfold codeC at h;obtain ⟨ex,s1,h1,h2⟩:=rW hm hn hb hc (m:=m) h;cases ex with
  | normal=>
   obtain ⟨ex,s2,h3,h4⟩:=rW hm hn hb hc (m:=m) h2;exact ⟨_,_,.seq h1 h3,h4⟩
  | exit i=>exact ⟨_,_,.BT h1 (by simp),h2⟩
  | ret=>exact ⟨_,_,.BT h1 (by simp),h2⟩
 | .cond c x y,s,k,r,h=>by
  unfold codeC at h;split at h
  ·rename_i hv;obtain ⟨ex,s1,h1,h2⟩:=rW hm hn hb hc (m:=m) h;exact ⟨_,_,.cond (b:=true) hv h1,h2⟩
  ·rename_i hv;obtain ⟨ex,s1,h1,h2⟩:=rW hm hn hb hc (m:=m) h;exact ⟨_,_,.cond (b:=false) hv h1,h2⟩
  ·cases h
 | .block id body,s,k,r,h=>by
  unfold codeC at h;obtain ⟨ex,s1,h1,h2⟩:=rW hm hn hb hc (m:=m) h;exact ⟨_,_,.block h1,h2⟩
 | .loop body,s,k,r,h=>by
  unfold codeC at h;obtain ⟨ex,s',h1,h2⟩:=MP (m:=m) (body:=body) (fun s k r h=>rW hm hn hb hc (m:=m) h) n s h;exact ⟨_,_,.aV h1,h2⟩
 | .exit id,s,k,r,h=>⟨_,_,.exit,h⟩
 | .ret,s,k,r,h=>⟨_,_,.ret,h⟩
 | .rangeFunc _ _ _ _,_,_,_,h=>by cases h
 | .scope _,_,_,_,h=>by cases h
 | .label _,_,_,_,h=>by cases h
 | .goto _,_,_,_,h=>by cases h
 | .refuse _,_,_,_,h=>by cases h
theorem Wn {aW:Hp} {s:St} {v:V} {ids:List Nat} (hp:jq aW.length ids=true) (C:SR aW s):zH aW (sB P aW.length ids v s):=by
 have C':=(s7 (P:=P) (keep:=[]) hp).st aW rfl C;exact ⟨C'.len,fun b hb hn=>C'.frame b hb hn,fun b hb=>by simp only [sB,fQ,List.mem_eraseDups,List.mem_filter,decide_eq_true_eq] at hb;exact hb.2,C'.alive⟩
theorem Wm {aW:Hp} {I0 Im:Nat->Prop} {μ0 μ:Mu} {w0 w:World} {s:St} {a:Act} {v:V} {val:Value} {ids:List Nat} (hp:jq aW.length ids=true) (C:CI P aW I0 μ0 w0 s a w Im μ) (hv:V.R P Im μ w v val):
  ∃μr Ir,V.R P Ir μr w (sB P aW.length ids v s).v val/\Good P I0 Ir μ0 μr w0 w aW (sB P aW.length ids v s).hp (List.range aW.length) (sB P aW.length ids v s).wr:=by
 obtain ⟨Ir,μr,C',hV⟩:=(s7 (keep:=[]) hp).run rfl C;obtain ⟨μ2,hle,G⟩:=C'.ke;exact ⟨μ2,Ir,(hV _ _ hv).keep (.refl w (fun _=>False)) (.refl _) hle,G⟩
theorem V1 {f:FuncId} {fn:Func} {c:Code} {vs:List V} {hp:Hp} {ex:Ex} {s:St} {v:List V} {r:aF} (ji:P.funcs[f]?=some fn) (hc:fn.body=some c)
  (h:aN P hp.length c ⟨Tm.start (vs.length+(fn.ntmps - vs.length)) vs,hp,[]⟩ ex s) (hex:ex= .normal\/ex= .ret) (xL:evResultL P s.hp s.tm fn.results.toList=some v)
  {ids:List Nat} (mV:jq hp.length ids=true) (hr:sB P hp.length ids (oneOf v) s=r):au P f vs hp r:=by
 subst hr
 exact K7 ji hc h hex xL (fun cL=>Wn mV cL) fun C hR=>Wm mV C hR
theorem VZ (hm:P.follows .mixedOrders=true) (hn:ee P) (hb:lO P callF) (hc:j5 P callF) {n:Nat} {frozen:FuncId->Bool}:j5 P (fnC P callF n frozen):=by
 intro f vs hp r h
 unfold fnC at h
 split at h
 ·rename_i fn ji
  split at h
  ·rename_i c uZ
   obtain ⟨ex,s,h1,h2⟩:=rW hm hn hb hc (m:=hp.length) h
   split at h2
   ·cases h2
   ·rename_i hex
    split at h2
    ·rename_i v hv
     split at h2
     ·rename_i br
      simp only [sA,AE,Option.some.injEq] at h2
      refine V1 ji uZ h1 ?_ hv br ?_
      ·cases ex with
       | normal=>exact .inl rfl
       | ret=>exact .inr rfl
       | exit i=>exact absurd rfl (hex i)
      ·rw [<- h2]
     ·cases h2
    ·cases h2
  ·cases h
 ·cases h
theorem VY {n:Nat} {frozen:FuncId->Bool}:lO P (fnC P callF n frozen):=by
 intro f vs hp r h;unfold fnC at h;split at h
 ·rename_i fn ji;split at h
  ·rename_i c uZ;exact ⟨fn,ji,by rw [uZ];rfl⟩
  ·cases h
 ·cases h
theorem Kg (hm:P.follows .mixedOrders=true) (hn:ee P) {ext:gv} (hb:lO P ext) (hc:j5 P ext) {n:Nat} {frozen:FuncId->Bool}:∀d,j5 P (deepC P ext n frozen d)/\lO P (deepC P ext n frozen d)
 | 0=>⟨fun _ _ _ _ h=>(nomatch h),fun _ _ _ _ h=>(nomatch h)⟩
 | d+1=>by
  obtain ⟨h1,h2⟩:=Kg hm hn hb hc (n:=n) (frozen:=frozen) d;constructor
  ·intro f vs hp r h;unfold deepC at h;split at h
   ·rename_i he;cases h;exact hc _ _ _ _ he
   ·exact VZ hm hn h2 h1 _ _ _ _ h
  ·intro f vs hp r h;unfold deepC at h;split at h
   ·rename_i he;exact hb _ _ _ _ he
   ·exact VY _ _ _ _ h
end
end Go.Proofs.YtlomaojlpodibaaGreat
namespace Go.Proofs
open Go.Shelf
set_option maxRecDepth 100000
def Tryz.lays106_ren:Go.Shelf.Ren:=⟨fun | 106=>246 | 213=>275 | 265=>284 | n=>n,fun | 9=>9 | 3=>3 | n=>n,fun | n=>n⟩
theorem Tryz.lays106:Go.Proofs.Lays.n106 Tryz.prog Tryz.lays106_ren where
 mixed:=by kernel_rfl
 f106:=Tryz.func246.trans (congrArg some (by kernel_rfl));f213:=Tryz.func275.trans (congrArg some (by kernel_rfl));f265:=Tryz.func284.trans (congrArg some (by kernel_rfl));t3:=Tryz.underlying3;a3:=Tryz.isAgg3;z3:=Tryz.sizeOf3;v3:=Tryz.zeroValue3;t9:=Tryz.underlying9;a9:=Tryz.isAgg9;z9:=Tryz.sizeOf9;v9:=Tryz.zeroValue9
end Go.Proofs
namespace Go.Proofs.YtlomaojlpodibaaGreat
open Go.RowKit
set_option maxRecDepth 100000
def runN {α β:Type} (step:Nat->α->α ⊕ β):Nat->Nat->α->α ⊕ β
 | 0,_,a=> .inl a
 | k+1,i,a=>match step i a with
  | .inl a'=>runN step k (i+1) a'
  | .inr b=> .inr b
def uU {α:Type} (step:Nat->α->α):Nat->Nat->α->α
 | 0,_,a=>a
 | k+1,i,a=>uU step k (i+1) (step i a)
def allN (ke:Nat->Bool):Nat->Nat->Bool
 | 0,_=>true
 | k+1,i=>ke i&&allN ke k (i+1)
theorem nF (ke:Nat->Bool):∀k i,allN ke k i=true↔∀j,i<=j->j<i+k->ke j=true
 | 0,i=>by simp [allN];intro j h1 h2;omega
 | k+1,i=>by
  rw [allN,Bool.and_eq_true,nF ke k (i+1)];constructor
  ·rintro ⟨h1,h2⟩ j h3 h4;rcases Nat.lt_or_ge i j with h | h
   ·exact h2 j ag ag
   ·obtain rfl:j=i:=ag;exact h1
  ·intro h;exact ⟨h i (Nat.le_refl _) ag,fun j h1 h2=>h j ag ag⟩
theorem qf {α:Type} (p:α->Bool) (d:α) (L:List α):allN (fun i=>p (L.getD i d)) L.length 0=L.all p:=by
 rw [Bool.eq_iff_iff,nF,List.all_eq_true];constructor
 ·intro h x hx;obtain ⟨j,hj,rfl⟩:=List.getElem_of_mem hx;have:=h j ag ag;rwa [List.getD_eq_getElem?_getD,List.getElem?_eq_getElem hj] at this
 ·intro h j _ hj;rw [List.getD_eq_getElem?_getD,List.getElem?_eq_getElem ag];exact h _ (List.getElem_mem _)
section
variable {E:Env} {m:Nat} {nf:Ex->Kp} {c:Code}
def SI {α β:Type} (st:Nat->α->St) (inv:Nat->α->Prop) (ex':Ex) (sr:β->St) (i:Nat) (s:α ⊕ β) (x:Ex×St):Prop:=match s with
 | .inl a'=>x=(.normal,st (i+1) a')/\inv (i+1) a'
 | .inr b=>x=(ex',sr b)
theorem T.WP.mono {α:Type} {Q R:α->Prop} (h:∀a,Q a->R a):∀ {t:T α},t.WP Q->t.WP R
 | .done a,k=>h a k
 | .ai _ t,k=>⟨k.1,T.WP.mono h k.2⟩
 | .bind _ _,k=>fun y hy=>T.WP.mono h (k y hy)
 | .fail,k=>k
theorem T.WP.const {α:Type} {Q:α->Prop} {p:Prop}:∀ {t:T α},t.WP (fun a=>Q a/\p)->p
 | .done _,k=>k.2
 | .ai _ _,k=>T.WP.const k.2
 | .bind v _,k=>T.WP.const (k v rfl)
 | .fail,k=>k.elim
theorem aH2 {α β:Type} {st:Nat->α->St} {n:Nat} (inv:Nat->α->Prop) (step:Nat->α->α ⊕ β) {t:Nat->α->T (Ex×St)} {ex ex':Ex} {sx:α->St} {sr:β->St}
  (hm:E.P.follows .mixedOrders=true) (hn:ee E.P) (hx:ex≠ .normal) (kq:ex'≠ .normal) (e:∀i a,bp E m nf c (st i a)=t i a)
  (h:∀i a,i<n->inv i a->(t i a).WP (SI st inv ex' sr i (step i a)))
  (he:∀a,inv n a->(t n a).WP (· = (ex,sx a))):∀(k i:Nat) (a:α),i+k=n->inv i a ->
   match runN step k i a with
   | .inl a'=>aT E.P m c (st i a) ex (sx a')/\inv n a'
   | .inr b=>aT E.P m c (st i a) ex' (sr b)
 | 0,i,a,hi,ha=>by
  obtain rfl:i=n:=ag
  exact ⟨.done (jP hm hn (e i a) (he a ha)) hx,ha⟩
 | k+1,i,a,hi,ha=>by
  have h1:=h i a ag ha
  unfold runN
  cases hs:step i a with
  | inl a'=>
   rw [hs] at h1
   have ih:=aH2 inv step hm hn hx kq e h he k (i+1) a' ag h1.const
   have hb:=jP hm hn (e i a) (h1.mono fun _ h=>h.1)
   simp only
   cases hr:runN step k (i+1) a' with
   | inl a2=>rw [hr] at ih;exact ⟨.step hb ih.1,ih.2⟩
   | inr b=>rw [hr] at ih;exact .step hb ih
  | inr b=>
   rw [hs] at h1
   exact .done (jP hm hn (e i a) h1) kq
theorem Lb {α:Type} {st:Nat->α->St} {n:Nat} (inv:Nat->α->Prop) (step:Nat->α->α) {t:Nat->α->T (Ex×St)} {ex:Ex} {sx:α->St}
  (hm:E.P.follows .mixedOrders=true) (hn:ee E.P) (hx:ex≠ .normal) (e:∀i a,bp E m nf c (st i a)=t i a)
  (h:∀i a,i<n->inv i a->(t i a).WP (· = (.normal,st (i+1) (step i a)))/\inv (i+1) (step i a))
  (he:∀a,inv n a->(t n a).WP (· = (ex,sx a))):∀(k i:Nat) (a:α),i+k=n->inv i a->aT E.P m c (st i a) ex (sx (uU step k i a))/\inv n (uU step k i a)
 | 0,i,a,hi,ha=>by
  obtain rfl:i=n:=ag
  exact ⟨.done (jP hm hn (e i a) (he a ha)) hx,ha⟩
 | k+1,i,a,hi,ha=>by
  have h1:=h i a ag ha
  have ih:=Lb inv step hm hn hx e h he k (i+1) (step i a) ag h1.2
  exact ⟨.step (jP hm hn (e i a) h1.1) ih.1,ih.2⟩
theorem ju {st:Nat->St} {n:Nat} (ke:Nat->Bool) {t:Nat->T (Ex×St)} {ex ex':Ex} {sx sr:St}
  (hm:E.P.follows .mixedOrders=true) (hn:ee E.P) (hx:ex≠ .normal) (kq:ex'≠ .normal) (e:∀i,bp E m nf c (st i)=t i)
  (h:∀i,i<n->(t i).WP (· = bif ke i then (.normal,st (i+1)) else (ex',sr)))
  (he:(t n).WP (· = (ex,sx))):∀(k i:Nat),i+k=n->(allN ke k i=true->aT E.P m c (st i) ex sx)/\(allN ke k i=false->aT E.P m c (st i) ex' sr)
 | 0,i,hi=>by
  obtain rfl:i=n:=ag
  exact ⟨fun _=> .done (jP hm hn (e i) he) hx,fun h=>by simp [allN] at h⟩
 | k+1,i,hi=>by
  have h1:=h i ag
  have ih:=ju ke hm hn hx kq e h he k (i+1) ag
  unfold allN
  cases hg:ke i with
  | true=>
   rw [hg] at h1
   have hb:=jP hm hn (e i) h1
   rw [Bool.true_and]
   exact ⟨fun h=> .step hb (ih.1 h),fun h=> .step hb (ih.2 h)⟩
  | false=>
   rw [hg] at h1
   refine ⟨fun h=>by simp at h,fun _=> .done (jP hm hn (e i) h1) kq⟩
end
end Go.Proofs.YtlomaojlpodibaaGreat
namespace Go.Proofs.YtlomaojlpodibaaGreat
open Go.RowKit
set_option maxRecDepth 100000
def lnd (P:Program) (hp:Hp):Nat->V->V
 | 0,_=> .cw
 | n+1,v=>match v with
  | .sl b off k full=>match hp[b]? with
   | some (some blk)=>match dx blk.1 with
    | true=>if Nat.beq off 0 then .dsl k false (frzSeg (lnd P hp n) blk.1) else .cw
    | false=>match dA P blk.2 with
     | some s=>if ((blk.1.drop off).take (k*s)).length=k*s then .dsl k false (((blk.1.drop off).take (k*s)).map (lnd P hp n)) else .cw
     | none=> .cw
   | _=> .cw
  | .ptr b off=>match hp[b]? with
   | some (some blk)=>match dx blk.1 with
    | true=> .cw
    | false=> .dptr ((blk.1.drop off).map (lnd P hp n))
   | _=> .cw
  | .agg cs=> .agg (cs.map (lnd P hp n))
  | .tup cs=> .tup (cs.map (lnd P hp n))
  | .fn f cs=> .fn f (cs.map (lnd P hp n))
  | .box f cs=> .box f (cs.map (lnd P hp n))
  | .dsl k _ cs=> .dsl k false cs
  | .osl _ k o cs=> .dsl k false (fzS o cs)
  | .eptr _ _ _=> .cw
  | v=>v
mutual
def V.bare:V->Bool
 | .int _ _=>true
 | .bool _=>true
 | .str _=>true
 | .jJ=>true
 | .kU=>true
 | .lit _=>true
 | .cw=>true
 | .dsl _ _ []=>true
 | .dsl 0 _ _=>true
 | .agg cs=>V.bareL cs
 | .tup cs=>V.bareL cs
 | _=>false
def V.bareL:List V->Bool
 | []=>true
 | c::cs=>V.bare c&&V.bareL cs
end
section
variable {P:Program} {I I2:Nat->Prop} {μ:Mu} {w:World} {hp:Hp}
theorem M3 (cm:Sub I I2) (hh:∀b blk,hp[b]?=some (some blk)->Holds P I μ w b blk/\∀g,μ.own b g->I2 g):∀(n:Nat) (c:V) (u:Value),V.R P I μ w c u->V.R P I2 cf w (lnd P hp n c) u:=by
 intro n;induction n with
 | zero=>intro c u _;simp [lnd,V.R]
 | succ n ih=>
  have kS:∀(cs:List V) (us:List Value),V.RL P I μ w cs us->V.RL P I2 cf w (cs.map (lnd P hp n)) us:=by
   intro cs;induction cs with
   | nil=>intro us h;simpa [V.RL] using h
   | cons c cs lF=>
    intro us h;simp only [V.RL] at h;obtain ⟨u,us',rfl,h1,h2⟩:=h;simp only [List.map_cons,V.RL];exact ⟨u,us',rfl,ih c u h1,lF us' h2⟩
  have xT:∀(c:V) (F:List Nat) (u:Value),(∀k∈F,I2 k)->OX P I μ w F c u->V.R P I2 cf w (lnd P hp n c) u:=by
   intro c F u hF h;cases hc:c.isO with
   | false=>exact ih c u (h.plain hc).2
   | true=>
    unfold OX at h;rw [hc] at h;cases n with
    | zero=>simp [lnd,V.R]
    | succ n=>
     have:=Fj cm c F u hF h;cases c <;> first | (simp [V.isO] at hc;done) | (rw [Fi] at this;exact this)
  have Be:∀(cs:List V) (F:List Nat) (us:List Value),(∀k∈F,I2 k)->OXL P I μ w F cs us->V.RL P I2 cf w (cs.map (lnd P hp n)) us:=by
   intro cs;induction cs with
   | nil=>intro F us _ h;obtain ⟨_,rfl⟩:=h;simp [V.RL]
   | cons c cs lF=>
    intro F us hF h;obtain ⟨u,us',F1,F2,rfl,rfl,h1,h2⟩:=h;simp only [List.map_cons,V.RL];exact ⟨u,us',rfl,xT c F1 u (fun k hk=>hF k (by simp [hk])) h1,lF F2 us' (fun k hk=>hF k (by simp [hk])) h2⟩
  intro c u h;unfold lnd;split
  ·rename_i b off k full;split
   ·rename_i blk hb;obtain ⟨hH,sF⟩:=hh b blk hb;split
    ·rename_i me;split
     ·rename_i kj;have FR:off=0:=by simpa using kj
      subst FR;simp only [V.R] at h ⊢;rcases h with ⟨g,cap,e,N,i,hg,rfl,h1,h2,h3,de,_⟩ | ⟨_,rfl,a',rfl,dc⟩
      ·obtain ⟨cs,fr,_,hw,_,⟨h4,h5⟩,_⟩:=hH.mr hg de;have h6:=AG (f:=lnd P hp n) xT cm (fun k hk=>sF k (.inr hk)) h5;have h7:=h6.length;refine ⟨some ⟨g,0,none⟩,cap,rfl,h1,by simp,.inr ⟨_,_,rfl⟩,.inr <| .inr ⟨g,0,rfl,sF g (.inl hg),cs,_,fr,hw,?_⟩⟩;rw [List.drop_zero];rw [List.length_take,Nat.min_eq_left (by simpa using h4)] at h7;rw [<- h7];exact h6
      ·exact ⟨a',0,rfl,Nat.le_refl _,by simp,dc.imp (fun h=>⟨h,rfl⟩) id,.inr (.inl rfl)⟩
     ·simp [V.R]
    ·rename_i me;have iI:=jW me;split
     ·rename_i sz cQ;split
      ·rename_i hl;simp only [V.R] at h ⊢;rcases h with ⟨g,cap,e,N,i,hg,rfl,h1,h2,h3,de,_⟩ | ⟨_,rfl,a',rfl,dc⟩
       ·obtain ⟨cs,fr,_,hw,_,⟨h4,h5⟩,_⟩:=hH.mr hg de;have h5:=h5.mw;rw [iI] at h4 h5;refine ⟨some ⟨g,off,none⟩,cap,rfl,h1,by simp,.inr ⟨_,_,rfl⟩,.inr <| .inr ⟨g,off,rfl,sF g (.inl hg),cs,_,fr,hw,?_⟩⟩;obtain ⟨F1,F2,xm,_,h6⟩:=h5.split off;obtain ⟨F3,F4,Fp,h6,_⟩:=h6.split (k*sz);rw [List.length_map,hl];have e1:(cs.toList.drop off).take (k*sz)=((cs.toList.take blk.1.length).drop off).take (k*sz):=by
         simp only [List.length_take,List.length_drop] at hl;rw [List.drop_take,List.take_take,Nat.min_eq_left ag]
        rw [e1];exact Be _ F3 _ (fun k hk=>sF k (.inr (by rw [xm,Fp];simp [hk]))) h6
       ·exact ⟨a',0,rfl,Nat.le_refl _,by simp,dc.imp (fun h=>⟨h,rfl⟩) id,.inr (.inl rfl)⟩
      ·simp [V.R]
     ·simp [V.R]
   ·simp [V.R]
  ·rename_i b off;split
   ·rename_i blk hb;obtain ⟨hH,sF⟩:=hh b blk hb;split
    ·simp [V.R]
    ·rename_i me;have iI:=jW me;simp only [V.R] at h ⊢;obtain ⟨g,hg,rfl⟩:=h;obtain ⟨cs,fr,_,hw,_,⟨h4,h5⟩,_⟩:=hH.aD9 (by rw [me];simp) hg;have h5:=h5.mw;rw [iI] at h4 h5;refine ⟨g,off,rfl,.inr ⟨sF g (.inl hg),cs,_,fr,hw,?_⟩⟩;obtain ⟨F1,F2,xm,_,h6⟩:=h5.split off;have h7:=Be _ F2 _ (fun k hk=>sF k (.inr (by rw [xm];simp [hk]))) h6;have e1:(cs.toList.drop off).take (blk.1.drop off).length=(cs.toList.take blk.1.length).drop off:=by
      rw [List.length_drop,List.drop_take]
     rw [List.length_map,e1];exact h7
   ·simp [V.R]
  ·simp only [V.R] at h ⊢;obtain ⟨vs,h1,h2⟩:=h;exact ⟨vs,h1,kS _ _ h2⟩
  ·simp only [V.R] at h ⊢;obtain ⟨vs,h1,h2⟩:=h;exact ⟨vs,h1,kS _ _ h2⟩
  ·simp only [V.R] at h ⊢;obtain ⟨vs,h1,h2⟩:=h;exact ⟨vs,h1,kS _ _ h2⟩
  ·simp only [V.R] at h ⊢;obtain ⟨vs,h1,h2⟩:=h;exact ⟨vs,h1,kS _ _ h2⟩
  ·simp only [V.R] at h ⊢;obtain ⟨a,cap,h1,h2,_,h4,h5⟩:=h;refine ⟨a,cap,h1,h2,by simp,h4,?_⟩;rcases h5 with h5 | h5 | ⟨g,off,k1,k2,k3⟩
   ·exact .inl h5
   ·exact .inr (.inl h5)
   ·obtain ⟨cells,e,fr,k4,k5⟩:=k3;exact .inr <| .inr ⟨g,off,k1,cm _ k2,cells,e,fr,k4,k5.keep (.refl w (fun _=>False)) cm (dE.refl _)⟩
  ·simp [V.R] at h
  ·simp [V.R]
  ·rename_i h1 h2 h3 h4 h5 h7 h6 h8 h9;cases c
   case osl=>exact absurd rfl (h8 _ _ _ _)
   case eptr=>exact absurd rfl (h9 _ _ _)
   case ptr=>exact absurd rfl (h2 _ _)
   case sl=>exact absurd rfl (h1 _ _ _ _)
   case agg=>exact absurd rfl (h3 _)
   case tup=>exact absurd rfl (h4 _)
   case fn=>exact absurd rfl (h5 _ _)
   case box=>exact absurd rfl (h7 _ _)
   case dsl=>exact absurd rfl (h6 _ _ _)
   case dptr=>exact (h.keep (.refl w (fun _=>False)) cm (dE.refl _):V.R P I2 μ w _ u) |> (fun h=>by simpa only [V.R] using h)
   all_goals (first | (simp only [V.R] at h;done) | (simp only [V.R];done) | (simp only [V.R] at h ⊢;exact h))
mutual
theorem Ju:∀(c:V) (u:Value),c.bare=true->V.R P I μ w c u->V.R P I2 cf w c u
 | .int _ _,_,_,h=>by simpa only [V.R] using h
 | .bool _,_,_,h=>by simpa only [V.R] using h
 | .str _,_,_,h=>by simpa only [V.R] using h
 | .jJ,_,_,h=>by simpa only [V.R] using h
 | .kU,_,_,h=>by simpa only [V.R] using h
 | .lit _,_,_,h=>by simpa only [V.R] using h
 | .cw,_,_,_=>by simp only [V.R]
 | .dsl n f cs,_,hb,h=>by
  simp only [V.R] at h ⊢
  obtain ⟨a,cap,h1,h2,h3,h4,_⟩:=h
  refine ⟨a,cap,h1,h2,h3,h4,?_⟩
  cases cs with
  | nil=>exact .inl rfl
  | cons x t=>cases n with
   | zero=>exact .inr (.inl rfl)
   | succ n=>simp [V.bare] at hb
 | .agg cs,_,hb,h=>by
  simp only [V.R] at h ⊢
  obtain ⟨vs,h1,h2⟩:=h
  exact ⟨vs,h1,DB cs _ (by simpa only [V.bare] using hb) h2⟩
 | .tup cs,_,hb,h=>by
  simp only [V.R] at h ⊢
  obtain ⟨vs,h1,h2⟩:=h
  exact ⟨vs,h1,DB cs _ (by simpa only [V.bare] using hb) h2⟩
 | .ptr _ _,_,hb,_=>by simp [V.bare] at hb
 | .sl _ _ _ _,_,hb,_=>by simp [V.bare] at hb
 | .dptr _,_,hb,_=>by simp [V.bare] at hb
 | .aw _,_,hb,_=>by simp [V.bare] at hb
 | .cS _,_,hb,_=>by simp [V.bare] at hb
 | .fn _ _,_,hb,_=>by simp [V.bare] at hb
 | .box _ _,_,hb,_=>by simp [V.bare] at hb
 | .eptr _ _ _,_,hb,_=>by simp [V.bare] at hb
 | .osl _ _ _ _,_,hb,_=>by simp [V.bare] at hb
theorem DB:∀(cs:List V) (us:List Value),V.bareL cs=true->V.RL P I μ w cs us->V.RL P I2 cf w cs us
 | [],_,_,h=>by simpa only [V.RL] using h
 | c::cs,_,hb,h=>by
  simp only [V.bareL,Bool.and_eq_true] at hb
  simp only [V.RL] at h ⊢
  obtain ⟨u,us,h1,h2,h3⟩:=h
  exact ⟨u,us,h1,Ju c u hb.1 h2,DB cs us hb.2 h3⟩
end
end
theorem au.Bf {P:Program} {f:FuncId} {vs cM:List V} {hp:Hp} {v:V} (k:Nat) (e:vs.map (lnd P hp k)=cM) (h:au P f cM [] ⟨v,[],[]⟩) (hv:v.bare=true):au P f vs hp ⟨v,hp,[]⟩:=by
 subst e;obtain ⟨_,mX⟩:=h;refine ⟨⟨Nat.le_refl _,fun _ _ _=>rfl,by simp,fun _ _ h=>h⟩,fun I w μ b9 ko pre dN => ?_⟩;let I2:Nat->Prop:=fun k=>I k\/∃b blk,hp[b]?=some (some blk)/\μ.own b k
 have hI:Sub I I2:=fun k hk=> .inl hk;have kM:∀b blk,hp[b]?=some (some blk)->Holds P I μ w b blk:=fun b blk hb=>pre.holds b (by simpa using (List.getElem?_eq_some_iff.1 hb).1) blk hb;have Gg:V.RL P I2 cf w (vs.map (lnd P hp k)) b9.toList:=by
  have hl:∀(cs:List V) (us:List Value),V.RL P I μ w cs us->V.RL P I2 cf w (cs.map (lnd P hp k)) us:=by
   intro cs;induction cs with
   | nil=>intro us h;simpa [V.RL] using h
   | cons c cs lF=>
    intro us h;simp only [V.RL] at h;obtain ⟨u,us',rfl,h1,h2⟩:=h;simp only [List.map_cons,V.RL];exact ⟨u,us',rfl,M3 hI (fun b blk hb=>⟨kM b blk hb,fun g hg=> .inr ⟨b,blk,hb,hg⟩⟩) k c u h1,lF us' h2⟩
  exact hl _ _ ko
 have ku:cV P I2 cf w [] (List.range ([]:Hp).length) 0:=by
  refine ⟨pre.dB.step (.refl w (fun _=>False)) hI fun k hk => ?_,fun b hb=>by simp at hb,fun b hb=>by simp at hb,fun b _ hb=>ag⟩;rcases hk with hk | ⟨b,blk,hb,hg⟩
  ·exact pre.dB k hk
  ·exact (kM b blk hb).lt hg
 refine (mX I2 w cf b9 Gg ku (fun b g h=>by cases h)).mono fun e w' ⟨val,μ',I',he,hR,G⟩=>⟨val,μ,I,he,ud (Ju v val hv hR),?_⟩;have hE:cO I w w' (fun _=>False):=(G.cJ.less hI).mono fun j ⟨b,hb,_⟩=>by simp at hb
 refine ⟨.refl _,fun k hk=> .inl hk,hE.mono (fun _ h=>h.elim),.refl _,fun b g h=> .inl h,fun _ _ _=>rfl,fun b hb blk bz => ?_,fun b hb blk bz => ?_,fun b c b1 b2 g bc hb hc h1 h2=>pre.inj b (by simpa using (List.getElem?_eq_some_iff.1 h1).1) c (by simpa using (List.getElem?_eq_some_iff.1 h2).1) b1 b2 g bc h1 h2⟩
 ·exact (kM b blk bz).keep hE (.refl _) (.refl _) (fun h=>h) rfl (fun _ _ h=>h) fun g hg=>(kM b blk bz).kV hg
 ·rcases hb with hb | hb
  ·rw [List.getElem?_eq_none hb] at bz;cases bz
  ·cases hb
theorem au.AH {P:Program} {f:FuncId} {vs cM:List V} {hp:Hp} {v:V} (k:Nat) (e:vs.map (lnd P hp k)=cM) (h:au P f cM [] ⟨v,[],[]⟩):au P f vs hp ⟨v,hp.map fun _=>none,List.range hp.length⟩:=by
 subst e;obtain ⟨_,mX⟩:=h;have gA:∀b blk,(hp.map fun _=>(none:Option bM))[b]?=some (some blk)->False:=fun b blk h=>by
  rw [List.getElem?_map] at h;obtain ⟨x,_,h⟩:=Option.map_eq_some_iff.1 h;cases h
 refine ⟨⟨by simp,fun b hb hn=>absurd (List.mem_range.2 hb) hn,fun b hb=>by simpa using hb,fun b hb ⟨blk,h⟩=>(gA b blk h).elim⟩,fun I w μ b9 ko pre dN => ?_⟩;let I2:Nat->Prop:=fun k=>I k\/∃b blk,hp[b]?=some (some blk)/\μ.own b k
 have hI:Sub I I2:=fun k hk=> .inl hk;have kM:∀b blk,hp[b]?=some (some blk)->Holds P I μ w b blk:=fun b blk hb=>pre.holds b (by simpa using (List.getElem?_eq_some_iff.1 hb).1) blk hb;have Gg:V.RL P I2 cf w (vs.map (lnd P hp k)) b9.toList:=by
  have hl:∀(cs:List V) (us:List Value),V.RL P I μ w cs us->V.RL P I2 cf w (cs.map (lnd P hp k)) us:=by
   intro cs;induction cs with
   | nil=>intro us h;simpa [V.RL] using h
   | cons c cs lF=>
    intro us h;simp only [V.RL] at h;obtain ⟨u,us',rfl,h1,h2⟩:=h;simp only [List.map_cons,V.RL];exact ⟨u,us',rfl,M3 hI (fun b blk hb=>⟨kM b blk hb,fun g hg=> .inr ⟨b,blk,hb,hg⟩⟩) k c u h1,lF us' h2⟩
  exact hl _ _ ko
 have ku:cV P I2 cf w [] (List.range ([]:Hp).length) 0:=by
  refine ⟨pre.dB.step (.refl w (fun _=>False)) hI fun k hk => ?_,fun b hb=>by simp at hb,fun b hb=>by simp at hb,fun b _ hb=>ag⟩;rcases hk with hk | ⟨b,blk,hb,hg⟩
  ·exact pre.dB k hk
  ·exact (kM b blk hb).lt hg
 refine (mX I2 w cf b9 Gg ku (fun b g h=>by cases h)).mono fun e w' ⟨val,μ',I',he,hR,G⟩=>⟨val,μ,I',he,?_,?_⟩
 ·refine hR.keep (.refl w' (fun _=>False)) (.refl _) (fun b g hb => ?_);rcases G.cP b g hb with h | ⟨h1,h2⟩
  ·cases h
  ·simp at h2
 ·refine ⟨fun k hk=>G.dI k (.inl hk),fun k hk => ?_,(G.cJ.less hI).mono fun j ⟨b,hb,_⟩=>by simp at hb,.refl _,fun b g h=> .inl h,fun _ _ _=>rfl,fun b hb blk bz=>(gA b blk bz).elim,fun b hb blk bz=>(gA b blk bz).elim,fun b c b1 b2 g bc hb hc h1=>(gA b b1 h1).elim⟩;rcases G.eY k hk with (h | ⟨b,blk,hb,hg⟩) | h | ⟨c,h1,_⟩
  ·exact .inl h
  ·exact .inr (.inr ⟨b,by simpa using (List.getElem?_eq_some_iff.1 hb).1,hg,blk,hb⟩)
  ·exact .inr (.inl h)
  ·simp at h1
end Go.Proofs.YtlomaojlpodibaaGreat
namespace Go.Proofs.YtlomaojlpodibaaGreat
open Go.RowKit
set_option maxRecDepth 100000
structure At where
 kind:Int
 n:Int
 t:List UInt8
 deriving DecidableEq
instance:Inhabited At:=⟨⟨0,0,[]⟩⟩
def At.zero:At:=⟨0,0,[]⟩
def aj (a:At):List V:=[.int .i64 a.kind,.int .i64 a.n,.str a.t]
theorem bu:Lay aj 3:=⟨ag,fun _=>rfl,fun x y h=>by
 cases x;cases y
 simpa [aj] using h,fun _=>rfl⟩
def encS {α:Type} (enc:α->List V) (L:List α):List V:=[ab enc L]
theorem Lay.slice {α:Type} {enc:α->List V} {s:Nat} (h:Lay enc s):Lay (encS enc) 1:=⟨ag,fun _=>rfl,fun x y e=>by
 simp only [encS,ab,List.cons.injEq,V.dsl.injEq,true_and,and_true] at e;exact h.inj _ _ e.2,fun _=>rfl⟩
abbrev aQ:Type:=List At
abbrev aG:aQ->List V:=encS aj
theorem bP:Lay aG 1:=bu.slice
structure Rw where
 id:Int
 cells:List aQ
 deriving DecidableEq
instance:Inhabited Rw:=⟨⟨0,[]⟩⟩
def Rw.zero:Rw:=⟨0,[]⟩
def aq (r:Rw):List V:=[.int .i64 r.id,ab aG r.cells]
theorem bI:Lay aq 2:=⟨ag,fun _=>rfl,fun x y h=>by
 cases x;cases y
 simp only [aq,ab,List.cons.injEq,V.int.injEq,V.dsl.injEq,true_and,and_true] at h;obtain ⟨h1,_,h2⟩:=h;simp only [Rw.mk.injEq];exact ⟨h1,bP.inj _ _ h2⟩,fun _=>rfl⟩
abbrev az:List Rw->List V:=encS aq
theorem bB:Lay az 1:=bI.slice
structure aA where
 ak:List (List Rw)
 next:Int
 deriving DecidableEq
def aM (x:aA):List V:=[ab az x.ak,.int .i64 x.next]
structure aL where
 name:List UInt8
 kind:Int
 min:Int
 max:Int
 low:Int
 high:Int
 ref:List UInt8
 fF:Bool
 deriving DecidableEq
def aL.zero:aL:=⟨[],0,0,0,0,0,[],false⟩
def aY (c:aL):List V:=[.str c.name,.int .i64 c.kind,.int .i64 c.min,.int .i64 c.max,.int .i64 c.low,.int .i64 c.high,.str c.ref,.bool c.fF]
theorem db:Lay aY 8:=⟨ag,fun _=>rfl,fun x y h=>by
 cases x;cases y
 simpa [aY] using h,fun _=>rfl⟩
structure Tb where
 name:List UInt8
 av:List aL
 uniq:List Int
 root:Bool
 deriving DecidableEq
def Tb.zero:Tb:=⟨[],[],[],false⟩
def ao (t:Tb):List V:=[.str t.name,ab aY t.av,ab aJ t.uniq,.bool t.root]
theorem bN:Lay ao 4:=⟨ag,fun _=>rfl,fun x y h=>by
 cases x;cases y
 simp only [ao,ab,List.cons.injEq,V.str.injEq,V.bool.injEq,V.dsl.injEq,true_and,and_true] at h;obtain ⟨h1,⟨_,h2⟩,⟨_,h3⟩,h4⟩:=h;simp only [Tb.mk.injEq];exact ⟨h1,db.inj _ _ h2,fa.inj _ _ h3,h4⟩,fun _=>rfl⟩
abbrev aO:Type:=List Tb
end Go.Proofs.YtlomaojlpodibaaGreat
namespace Go.Proofs.YtlomaojlpodibaaGreat.Fr
set_option maxRecDepth 100000
end Go.Proofs.YtlomaojlpodibaaGreat.Fr
namespace Go.Proofs.YtlomaojlpodibaaGreat
open Go.RowKit
set_option maxRecDepth 100000
structure aZ where
 aC:List UInt8
 func:Int
 val:aQ
 deriving DecidableEq
def aZ.zero:aZ:=⟨[],0,[]⟩
def aE (c:aZ):List V:=[.str c.aC,.int .i64 c.func,ab aj c.val]
theorem cp:Lay aE 3:=⟨ag,fun _=>rfl,fun x y h=>by
 cases x;cases y
 simp only [aE,ab,List.cons.injEq,V.int.injEq,V.str.injEq,V.dsl.injEq,true_and,and_true] at h;obtain ⟨h1,h2,_,h3⟩:=h;simp only [aZ.mk.injEq];exact ⟨h1,h2,bu.inj _ _ h3⟩,fun _=>rfl⟩
structure Mon where
 name:List UInt8
 table:List UInt8
 av:List (List UInt8)
 gB:Bool
 ins:Bool
 del:Bool
 mod:Bool
 aS:List aZ
 deriving DecidableEq
def Mon.zero:Mon:=⟨[],[],[],false,false,false,false,[]⟩
def hZ (m:Mon):List V:=[.str m.name,.str m.table,ab encStr m.av,.bool m.gB,.bool m.ins,.bool m.del,.bool m.mod,ab aE m.aS]
def bw (name:List UInt8) (cs us:List V) (root:Bool):Tb:=⟨name,af aY cs,af aJ us,root⟩
theorem cH (t:Tb):bw t.name (ae aY t.av) (ae aJ t.uniq) t.root=t:=by unfold bw;rw [db.af,fa.af]
def j0 (name table:List UInt8) (cs:List V) (a b c d:Bool) (ws:List V):Mon:=⟨name,table,af encStr cs,a,b,c,d,af aE ws⟩
structure Sx where
 aC:List UInt8
 val:aQ
 names:List (List UInt8)
 deriving DecidableEq
def Sx.zero:Sx:=⟨[],[],[]⟩
def aR (c:Sx):List V:=[.str c.aC,ab aj c.val,ab encStr c.names]
theorem eE:Lay aR 3:=⟨ag,fun _=>rfl,fun x y h=>by
 cases x;cases y
 simp only [aR,ab,List.cons.injEq,V.int.injEq,V.str.injEq,V.dsl.injEq,true_and,and_true] at h;obtain ⟨h1,⟨_,h2⟩,_,h3⟩:=h;simp only [Sx.mk.injEq];exact ⟨h1,bu.inj _ _ h2,cx.inj _ _ h3⟩,fun _=>rfl⟩
abbrev Mt:Type:=aZ
abbrev bR:Mt->List V:=aE
structure Op' where
 kind:Int
 table:List UInt8
 name:List UInt8
 aS:List aZ
 row:List Sx
 cC:List Mt
 av:List (List UInt8)
 gV:Bool
 deriving DecidableEq
def Op'.zero:Op':=⟨0,[],[],[],[],[],[],false⟩
def aK (o:Op'):List V:=[.int .i64 o.kind,.str o.table,.str o.name,ab aE o.aS,ab aR o.row,ab bR o.cC,ab encStr o.av,.bool o.gV]
theorem iM:Lay aK 8:=⟨ag,fun _=>rfl,fun x y h=>by
 cases x;cases y
 simp only [aK,ab,List.cons.injEq,V.int.injEq,V.str.injEq,V.bool.injEq,V.dsl.injEq,true_and,and_true] at h;obtain ⟨h1,h2,h3,⟨_,h4⟩,⟨_,h5⟩,⟨_,h6⟩,⟨_,h7⟩,h8⟩:=h;simp only [Op'.mk.injEq];exact ⟨h1,h2,h3,cp.inj _ _ h4,eE.inj _ _ h5,cp.inj _ _ h6,cx.inj _ _ h7,h8⟩,fun _=>rfl⟩
structure bV where
 code:Int
 count:Int
 id:Int
 av:List (List UInt8)
 rows:List Rw
 deriving DecidableEq
def bV.zero:bV:=⟨0,0,0,[],[]⟩
def bL (r:bV):List V:=[.int .i64 r.code,.int .i64 r.count,.int .i64 r.id,ab encStr r.av,ab aq r.rows]
theorem sZ:Lay bL 5:=⟨ag,fun _=>rfl,fun x y h=>by
 cases x;cases y
 simp only [bL,ab,List.cons.injEq,V.int.injEq,V.dsl.injEq,true_and,and_true] at h;obtain ⟨h1,h2,h3,⟨_,h4⟩,_,h5⟩:=h;simp only [bV.mk.injEq];exact ⟨h1,h2,h3,cx.inj _ _ h4,bI.inj _ _ h5⟩,fun _=>rfl⟩
def s9 (kind:Int) (table name:List UInt8) (ws rs ms cs:List V) (gV:Bool):Op':=⟨kind,table,name,af aE ws,af aR rs,af aE ms,af encStr cs,gV⟩
theorem Ow (o:Op'):s9 o.kind o.table o.name (ae aE o.aS) (ae aR o.row) (ae aE o.cC) (ae encStr o.av) o.gV=o:=by
 unfold s9;rw [cp.af,eE.af,cp.af,cx.af]
def bC (n lo hi:Int):Bool:=decide (lo<=n)&&decide (n<=hi)
def Hf (c:UInt8):Bool:=decide (32<=c.toNat)&&decide (c.toNat<=126)
def qX (t:List UInt8):Bool:=t.all (fun c=>decide (32<=c.toNat)&&decide (c.toNat<=126))&&decide (t.length<=200)
def s6 (b:Int):Bool:=decide (97<=b)&&decide (b<=122)||(decide (65<=b)&&decide (b<=90)||b==95)
def s5 (c:UInt8):Bool:=s6 (c.toNat:Nat)
def uo (b:Int):Bool:=decide (48<=b)&&decide (b<=57)
def Kh (c:UInt8):Bool:=uo (c.toNat:Nat)
def qS (t:List UInt8) (i:Nat):Bool:=s5 (t.getD i 0)||(!(i==0)&&Kh (t.getD i 0))
def jo (t:List UInt8):Bool:=allN (qS t) t.length 0&&bC t.length 1 40
def vH (n:Int):Bool:=bC n (-1000000000) 1000000000
def pJ (n:Int):Bool:=bC n 1 1000000
def fV (a:At):Bool:=
 bif a.kind==1 then vH a.n&&a.t.isEmpty
 else bif a.kind==2 then a.n==0&&qX a.t
 else bif a.kind==3 then bC a.n 0 1&&a.t.isEmpty
 else bif a.kind==4 then pJ a.n&&a.t.isEmpty
 else false
def wU (a b:Int):Int:=bif decide (a<b) then -1 else 1
def z7 (a b:List UInt8):Int:=bif Op.bytesLess a b then -1 else 1
def kF (a b:At):Int:=bif a.kind != b.kind then wU a.kind b.kind else bif a.n != b.n then wU a.n b.n else bif a.t != b.t then z7 a.t b.t else 0
def fidx {α:Type} (p:α->Bool):List α->Nat->Int
 | [],_=> -1
 | x::xs,i=>bif p x then (i:Int) else fidx p xs (i+1)
def bf (t:Tb) (nm:List UInt8):Int:=fidx (fun c:aL=>c.name==nm) t.av 0
def dk (s:aO) (nm:List UInt8):Int:=fidx (fun t:Tb=>t.name==nm) s 0
def dn (c:aL) (d:aQ):Int:=
 bif decide (0<d.length) && !((d.getD 0 .zero).kind==c.kind) then 9
 else bif !bC d.length c.min c.max then 6
 else bif c.kind==1&&d.any (fun a=> !bC a.n c.low c.high) then 4
 else 0
def aE6:cy:=fun _ _ _=>none
def CC:Vw:=fun t cs i=>
 bif Nat.beq t 5 then some (aP ((af aP cs).getD i 0))
 else bif Nat.beq t 9 then some (encStr ((af encStr cs).getD i []))
 else bif Nat.beq t 3 then some (aJ ((af aJ cs).getD i 0))
 else none
def E0:Env:={P:=Pz,vw:=CC,res:=aE6}
abbrev Ed:Nat:=185
abbrev aQ6:Nat:=138
structure Src where
 l:List UInt8
 k:Nat
 s:Int
structure Src.OK (x:Src) (c:Nat):Prop where
 hl:x.l.length<=1048576
 hk:x.k+c<=1099511627776
 h0:0<=x.s
 h1:x.s<2147483648
def ar (x:Src):Option bM:=some ([ab aP x.l,.int .i64 x.k,.int .i64 x.s],aQ6)
def gx (x:Src):Int×Src:=
 if x.k+1<=x.l.length then ((x.l.getD x.k 0).toNat,⟨x.l,x.k+1,(x.s*31+(x.l.getD x.k 0).toNat+7).tmod 2147483648⟩)
 else if 3000<x.k+1 then (0,⟨x.l,x.k+1,x.s⟩)
 else ((((x.s*1103515245+12345).tmod 2147483648).tdiv 65536).tmod 256,⟨x.l,x.k+1,(x.s*1103515245+12345).tmod 2147483648⟩)
theorem Cv (a:Int) (h:0<=a):0<=a.tmod 2147483648/\a.tmod 2147483648<2147483648:=⟨Int.tmod_nonneg _ h,Int.tmod_lt_of_pos _ ag⟩
theorem uh {x:Src} {c:Nat} (h:x.OK (c+1)):(gx x).2.OK c/\0<=(gx x).1/\(gx x).1<256:=by
 obtain ⟨hl,hk,h0,h1⟩:=h;unfold gx;split
 ·have hb:=(x.l.getD x.k 0).toNat_lt;exact ⟨⟨hl,by simp only;omega,(Cv _ (by omega)).1,(Cv _ (by omega)).2⟩,by simp only;omega,by simp only;omega⟩
 ·split
  ·exact ⟨⟨hl,by simp only;omega,h0,h1⟩,by simp,by simp⟩
  ·have hb:=Cv (x.s*1103515245+12345) (by omega);have hq:=Int.tdiv_nonneg hb.1 (show (0:Int)<=65536 by omega);exact ⟨⟨hl,by simp only;omega,hb.1,hb.2⟩,Int.tmod_nonneg _ hq,Int.tmod_lt_of_pos _ (by omega)⟩
theorem Tf (x:Src):fnT E0 0 Ed [.ptr 0 0] [ar x]=(
 let q2:=(x.k:Int)+1;
 let q:=(↑(UInt8.toNat (List.getD (af aP (ae aP x.l)) (Int.toNat (wz (wz q2 - 1))) (0:UInt8))):Int);
 let q1:List Prop:=[0<=wz (wz q2 - 1)/\wz (wz q2 - 1)<(x.l.length:Int),List.take 1 (List.drop (Int.toNat (wz (wz q2 - 1))*1) (ae aP x.l))=[.int .u8 q]];
 let q3:=(2147483648:Int);
 let q4:=Int.tmod (wz (wz (x.s*1103515245)+12345)) q3;bif decide (wz q2<=(x.l.length:Int)) then .ai q1 (.ai [q3≠(0:Int)] (.ai q1 (dz (aa (wz q)) [some ([ab aP x.l,aa (wz q2),aa (Int.tmod (wz (wz (wz (x.s *
  31)+wz q)+7)) q3)],138)] [0]))) else bif decide (wz q2>3000) then dz (aa 0) [some ([ab aP x.l,aa (wz q2),aa x.s],138)] [0] else .ai [q3≠(0:Int)] (.ai [(65536:Int)≠(0:Int)] (.ai [(256:Int)≠(0:
  Int)] (dz (aa (Int.tmod (wz (Int.tdiv q4 (65536:Int))) (256:Int))) [some ([ab aP x.l,aa (wz q2),aa q4],138)] [0]))):T _):=kz
theorem zZ (x:Src) {c:Nat} (h:x.OK (c+1)):au Tryz.prog Ed [.ptr 0 0] [ar x] ⟨.int .i64 (gx x).1,[ar (gx x).2],[0]⟩:=by
 refine K6 (E:=E0) follows named (Tf x) ?_;obtain ⟨hl,hk,h0,h1⟩:=h;have hb:=(x.l.getD x.k 0).toNat_lt;have hw:IntKind.i64.wrap ((x.k:Int)+1)=((x.k+1:Nat):Int):=bW (by omega);have m1:IntKind.i64.wrap (((x.k+1:Nat):Int) - 1)=(x.k:Int):=by rw [du (by omega)];omega
 simp only [ba,T.WP,All,decide_eq_true_eq,decide_eq_false_iff_not,and_true,pP.af,hw,m1,Int.toNat_natCast,gx,ar];refine ⟨fun hc => ?_,fun hc=>⟨fun hd => ?_,fun hd => ?_⟩⟩
 ·rw [if_pos (by omega)];refine ⟨⟨by omega,pP.at x.l 0 x.k 1 (by omega) rfl⟩,by omega,⟨by omega,pP.at x.l 0 x.k 1 (by omega) rfl⟩,?_⟩;simp (disch:=omega) only [du]
 ·rw [if_neg (by omega),if_pos (by omega)]
 ·rw [if_neg (by omega),if_neg (by omega)];have hb:=Cv (x.s*1103515245+12345) (by omega);have hq:=Int.tdiv_nonneg hb.1 (show (0:Int)<=65536 by omega);have hq2:=Int.tdiv_le_self 65536 hb.1;refine ⟨by omega,by omega,by omega,?_⟩;simp (disch:=omega) only [du]
def aX (cs:List V) (k s:Int):Src:=⟨af aP cs,k.toNat,s⟩
theorem dZ (x:Src):aX (ae aP x.l) (x.k:Int) x.s=x:=by
 unfold aX;rw [pP.af,Int.toNat_natCast]
abbrev lx:Nat:=103
def aE8:cy:=fun f vs hp=>match vs,hp with
 | [.ptr 0 0],[some ([.dsl _ _ cs,.int _ k,.int _ s],_)]=>bif Nat.beq f Ed then some ⟨gx (aX cs k s),fun y=>⟨.int .i64 y.1,[ar y.2],[0]⟩⟩ else none
 | _,_=>none
def E1:Env:={P:=Pz,vw:=CC,res:=aE8}
def aU (x:Src) (n:Int):Int×Src:=
 if n<=1 then (0,x)
 else if n<=256 then ((gx x).1.tmod n,(gx x).2)
 else (((gx x).1*65536+(gx (gx x).2).1*256+(gx (gx (gx x).2).2).1).tmod n,(gx (gx (gx x).2).2).2)
theorem Src.OK.less {x:Src} {c d:Nat} (h:x.OK c) (hd:d<=c):x.OK d:=⟨h.hl,by have:=h.hk;omega,h.h0,h.h1⟩
theorem dJ {x:Src} {c:Nat} {n:Int} (h:x.OK (c+3)) (hn:1<=n):(aU x n).2.OK c/\0<=(aU x n).1/\(aU x n).1<n:=by
 have h1:=uh (c:=c+2) h;have h2:=uh (c:=c+1) h1.1;have h3:=uh (c:=c) h2.1;unfold aU;split
 ·exact ⟨h.less ag,by simp,by simp only;omega⟩
 ·split
  ·exact ⟨h1.1.less ag,Int.tmod_nonneg _ h1.2.1,Int.tmod_lt_of_pos _ ag⟩
  ·exact ⟨h3.1,Int.tmod_nonneg _ ag,Int.tmod_lt_of_pos _ ag⟩
theorem ak6 (x:Src) (n:Int):fnT E1 0 lx [.ptr 0 0,.int .i64 n] [ar x]=(
 let q:Hp:=[some ([ab aP x.l,aa (x.k:Int),aa x.s],138)];
 let q1:=gx (aX (ae aP x.l) (x.k:Int) x.s);bif decide (n<=1) then dz (aa 0) q [] else bif decide (n<=256) then .bind q1 fun y0=>
 let q2:Hp:=[some ([ab aP y0.2.l,aa (y0.2.k:Int),aa y0.2.s],138)];.ai [au (Env.P E1) 185 [pp 0] q (aF.mk (aa y0.1) q2 [0])] (.ai [n≠(0:Int)] (dz (aa (Int.tmod y0.1 n)) q2 [0])) else .bind q1 fun y1=>
 let q3:Hp:=[some ([ab aP y1.2.l,aa (y1.2.k:Int),aa y1.2.s],138)];.ai [au (Env.P E1) 185 [pp 0] q (aF.mk (aa y1.1) q3 [0])] (.bind (gx (aX (ae aP y1.2.l) (y1.2.k:Int) y1.2.s)) fun y2=>
 let q4:Hp:=[some ([ab aP y2.2.l,aa (y2.2.k:Int),aa y2.2.s],138)];.ai [au (Env.P E1) 185 [pp 0] q3 (aF.mk (aa y2.1) q4 [0])] (.bind (gx (aX (ae aP y2.2.l) (y2.2.k:Int) y2.2.s)) fun y3=>
 let q5:Hp:=[some ([ab aP y3.2.l,aa (y3.2.k:Int),aa y3.2.s],138)];.ai [au (Env.P E1) 185 [pp 0] q4 (aF.mk (aa y3.1) q5 [0])] (.ai [n≠(0:Int)] (dz (aa (Int.tmod (wz (wz (wz (y1.1*65536)+wz (y2.1*256)) +
  y3.1)) n)) q5 [0])))):T _):=kz
theorem fD (x:Src) (n:Int) {c:Nat} (h:x.OK (c+3)):au Pz lx [.ptr 0 0,.int .i64 n] [ar x] ⟨.int .i64 (aU x n).1,[ar (aU x n).2],[0]⟩:=by
 refine a6 (ak6 x n) ?_;have h1:=uh (c:=c+2) h;have h2:=uh (c:=c+1) h1.1;have h3:=uh (c:=c) h2.1;simp only [ba,T.WP,All,decide_eq_true_eq,decide_eq_false_iff_not,and_true,dZ,aU];refine ⟨fun hc=>by rw [if_pos hc];exact aH,fun hc=>⟨fun hd y1 e1 => ?_,fun hd y1 e1 => ?_⟩⟩
 ·subst e1;refine ⟨zZ x h,ag,?_⟩;rw [if_neg hc,if_pos hd];exact aH
 ·subst e1;refine ⟨zZ x h,fun y2 e2 => ?_⟩;subst e2;refine ⟨zZ _ h1.1,fun y3 e3 => ?_⟩;subst e3;refine ⟨zZ _ h2.1,ag,?_⟩;rw [if_neg hc,if_neg hd];simp (disch:=omega) only [du];exact aH
abbrev w9:Nat:=105
abbrev sj:Nat:=150
def aF4:cy:=fun f vs hp=>match vs,hp with
 | [.ptr 0 0,.int _ n],[some ([.dsl _ _ cs,.int _ k,.int _ s],_)]=>bif Nat.beq f lx then some ⟨aU (aX cs k s) n,fun y=>⟨.int .i64 y.1,[ar y.2],[0]⟩⟩ else none
 | _,_=>none
def E2:Env:={P:=Pz,vw:=CC,res:=aF4}
def bq (x:Src) (n:Int):Bool×Src:=((aU x n).1==n - 1,(aU x n).2)
theorem TA (x:Src) (n:Int):fnT E2 0 w9 [.ptr 0 0,.int .i64 n] [ar x]=(
 .bind (aU (aX (ae aP x.l) (↑x.k:Int) x.s) n) fun y0=>
 let q:Hp:=[some ([ab aP y0.2.l,aa (↑y0.2.k:Int),aa y0.2.s],138)];.ai [au (Env.P E2) 103 [.ptr 0 0,aa n] [some ([ab aP x.l,aa (↑x.k:Int),aa x.s],138)] (aF.mk (aa y0.1) q [0])] (.done (aF.mk (.bool
  (y0.1==IntKind.i64.wrap (n - 1))) q [0])):T _):=(T.force_eq _).symm.trans (by kernel_rfl)
theorem gy (x:Src) (n:Int) {c:Nat} (h:x.OK (c+3)) (hn:1<=n/\n<=1000000):au Tryz.prog w9 [.ptr 0 0,.int .i64 n] [ar x] ⟨.bool (bq x n).1,[ar (bq x n).2],[0]⟩:=by
 refine K6 (E:=E2) follows named (TA x n) ?_
 simp only [ba,T.WP,All,decide_eq_true_eq,decide_eq_false_iff_not,and_true,dZ,bq]
 intro y e
 subst e
 refine ⟨fD x n h,?_⟩
 rw [du ag]
 rfl
def Io (L:List (List UInt8)):Option bM:=some ([.aw (ae encStr L)],9)
def dQ (x:Src) (L:List (List UInt8)):List UInt8×Src:=
 if L.length=0 then ([],x) else (L.getD (aU x L.length).1.toNat [],(aU x L.length).2)
theorem aA4 (x:Src) (L:List (List UInt8)) (full:Bool):fnT E2 0 sj [.ptr 0 0,.sl 1 0 L.length full] [ar x,Io L]=(
 let q:=ae encStr L;
 let q1:=(L.length:Int);bif q1==0 then dz (.str []) [some ([ab aP x.l,aa (x.k:Int),aa x.s],138),some ([.aw q],9)] [] else .bind (aU (aX (ae aP x.l) (x.k:Int) x.s) q1) fun y0=>
 let q2:=List.getD (af encStr q) ((0+y0.1.toNat*1) / 1) [];.ai [au (Env.P E2) 103 [pp 0,aa q1] [some ([ab aP x.l,aa (x.k:Int),aa x.s],138)] (aF.mk (aa y0.1) [some ([ab aP y0.2.l,aa (y0.2.k:Int),aa
  y0.2.s],138)] [0])] (.ai [0<=y0.1/\y0.1<q1] (.ai [List.take 1 (List.drop (0+y0.1.toNat*1) q)=[.str q2]] (dz (.str q2) [some ([ab aP y0.2.l,aa (y0.2.k:Int),aa y0.2.s],138),some ([.aw q],9)] [0]))):T _):=kz
theorem aA5 (x:Src) (L:List (List UInt8)) (full:Bool) {c:Nat} (h:x.OK (c+3)):au Pz sj [.ptr 0 0,.sl 1 0 L.length full] [ar x,Io L] ⟨.str (dQ x L).1,[ar (dQ x L).2,Io L],[0]⟩:=by
 refine a6 (aA4 x L full) ?_;simp only [ba,T.WP,All,decide_eq_true_eq,decide_eq_false_iff_not,and_true,dZ,dQ,AD,cx.af,Nat.zero_add,Nat.mul_one,Nat.div_one,beq_iff_eq,beq_eq_false_iff_ne];refine ⟨fun hc=>by rw [if_pos ag];exact aH,fun hc y e => ?_⟩;subst e;have hn:=dJ (n:=L.length) h ag;refine ⟨fD x _ h,hn.2,?_,?_⟩
 ·have:=cx.at' L [] _ 1 hn.2 rfl;rwa [Nat.mul_one] at this
 ·rw [if_neg ag];exact aH
theorem qW {x:Src} {c:Nat} {L:List (List UInt8)} (h:x.OK (c+3)) (hL:L≠[]):(dQ x L).2.OK c/\(dQ x L).1∈L:=by
 unfold dQ;have hl:L.length≠0:=by simpa using hL
 rw [if_neg hl];have hn:=dJ (n:=L.length) h ag;refine ⟨hn.1,?_⟩;rw [List.getD_eq_getElem?_getD,List.getElem?_eq_getElem ag];exact List.getElem_mem _
def kB:List V->List (List UInt8)
 | .str s::t=>s::kB t
 | _=>[]
theorem x6 (x:Src) (L:List (List UInt8)) (full:Bool) {n:Nat} {t:TypeId} {cells:List V} (hn:n=L.length) (ht:t=9) (hc:cells=ae encStr L) {c:Nat} (h:x.OK (c+3)):au Pz sj [.ptr 0 0,.sl 1 0 n full] [ar x,some (cells,t)] ⟨.str (dQ x L).1,[ar (dQ x L).2,some (cells,t)],[0]⟩:=by
 subst hn ht hc;have hf:flat (ae encStr L)=ae encStr L:=by
  induction L with
  | nil=>rfl
  | cons a L ih=>rw [eS];exact congrArg (V.str a :: ·) ih
 have hr:V.refsL (ae encStr L)=[]:=by
  clear hf;induction L with
  | nil=>rfl
  | cons a L ih=>rw [eS];simpa [encStr,V.refsL,V.refs] using ih
 have:=(aA5 x L full h).tQ (cx.hasO L) (b:=1) (c:=ae encStr L) (T:=9) (by rw [hf];rfl) hr (by simp);simpa using this
abbrev pX:Nat:=143
abbrev An:Nat:=209
abbrev As:Nat:=239
abbrev pb:Nat:=210
abbrev sk:Nat:=186
abbrev Ah:Nat:=106
abbrev uC:Nat:=107
def tR:Vw:=fun t cs i=>bif Nat.beq t pX then some (aj ((af aj cs).getD i At.zero)) else CC t cs i
theorem UX (b:Bool):fnT E0 0 An [.bool b] []=(
 bif b then dz (aa 1) [] [] else dz (aa 0) [] []:T _):=kz
theorem Ab (b:Bool):au Pz An [.bool b] [] ⟨.int .i64 (b.toNat:Nat),[],[]⟩:=by
 refine a6 (UX b) ?_;cases b <;> exact aH
def PO:cy:=fun f vs hp=>match vs,hp with
 | [.bool b],[]=>bif Nat.beq f An then some ⟨b,fun y=>⟨.int .i64 (y.toNat:Nat),[],[]⟩⟩ else none
 | [.agg [.int _ k,.int _ n,.str t],.agg [.int _ k2,.int _ n2,.str t2]],[]=>bif Nat.beq f As then some ⟨kF ⟨k,n,t⟩ ⟨k2,n2,t2⟩,fun y=>⟨.int .i64 y,[],[]⟩⟩ else none
 | _,_=>none
def p6:Env:={P:=Pz,vw:=tR,res:=PO}
theorem az3 (a b:At):fnT p6 0 As [.agg (aj a),.agg (aj b)] []=(
 let q:=decide (a.kind<b.kind);bif a.kind != b.kind then .bind q fun y0=> .ai [au (Env.P p6) 209 [.bool q] [] (aF.mk (aa (↑(Bool.toNat y0):Int)) [] [])] (dz (aa (wz ((1:Int) - wz ((2:Int)*(↑(Bool.toNat y0):Int)))))
  [] []) else bif a.n != b.n then .bind (decide (a.n<b.n)) fun y1=> .ai [au (Env.P p6) 209 [.bool (decide (a.n<b.n))] [] (aF.mk (aa (↑(Bool.toNat y1):Int)) [] [])] (dz (aa (wz ((1:Int) - wz ((2:Int)*(↑(Bool.toNat y1)
  : Int))))) [] []) else bif !a.t==b.t then .bind (Op.bytesLess a.t b.t) fun y2=> .ai [au (Env.P p6) 209 [.bool (Op.bytesLess a.t b.t)] [] (aF.mk (aa (↑(Bool.toNat y2):Int)) [] [])] (dz (aa (wz ((1:Int) - wz ((2:Int) *
  (↑(Bool.toNat y2):Int))))) [] []) else dz (aa 0) [] []:T _):=kz
theorem S9 (b:Bool):wz (1 - wz (2*((b.toNat:Nat):Int)))=bif b then -1 else 1:=by cases b <;> rfl
theorem OF (a b:At):au Pz As [.agg (aj a),.agg (aj b)] [] ⟨.int .i64 (kF a b),[],[]⟩:=by
 refine a6 (az3 a b) ?_;simp only [sz,S9];unfold kF;refine ⟨fun h => ?_,fun h=>⟨fun h2 => ?_,fun h2=>⟨fun h3 => ?_,fun h3 => ?_⟩⟩⟩
 ·rintro y rfl;rw [h];exact ⟨Ab _,aH⟩
 ·rintro y rfl;rw [h,h2];exact ⟨Ab _,aH⟩
 ·rintro y rfl;rw [h,h2,show (a.t != b.t)=true from h3];exact ⟨Ab _,aH⟩
 ·rw [h,h2,show (a.t != b.t)=false from h3];exact aH
def dM (a b:At):Bool:=a.kind==b.kind&&(a.n==b.n&&(a.t==b.t&&true))
theorem rN {a b:At}:dM a b=true↔a=b:=by
 obtain ⟨k,n,t⟩:=a;obtain ⟨k',n',t'⟩:=b;simp [dM]
def cu (d:aQ) (a:At):Bool:=d.any fun x=>dM x a
theorem Lz {d:aQ} {a:At}:cu d a=true↔a∈d:=by
 unfold cu;rw [List.any_eq_true];constructor
 ·rintro ⟨x,hx,h⟩;rw [<- rN.1 h];exact hx
 ·exact fun h=>⟨a,h,rN.2 rfl⟩
def yC (d:aQ) (a:At) (i:Int):St:=⟨ah 18 [(0,ab aj d),(3,.ptr 0 0),(5,.int .i64 i)],[some (aj a,pX)],[]⟩
def Nu:Ex->Kp:=fun ex=>match ex with
 | .ret=>{keep:=[4]}
 | .normal=>{keep:=[0,3,5]}
 | _=>{keep:=[]}
theorem WT (d:aQ) (a:At) (i:Int):bp p6 0 Nu (lp Pz pb 0) (yC d a i)=(
 let q:=List.getD (af aj (ae aj d)) i.toNat (At.mk (0:Int) (0:Int) []);bif decide (i<(d.length:Int)) then .ai [0<=i/\i<(d.length:Int),td 3 i (ae aj d)=aj q] (bif At.kind q==a.kind&&(At.n q ==
  a.n&&(At.t q==a.t&&true)) then .done (Ex.ret,St.mk (ah 18 [(4,.bool true)]) [] []) else nz (ah 18 [(0,ab aj d),(3,pp 0),(5,aa (wz (i+1)))]) [some (aj a,143)]) else .done (Ex.exit 0,St.mk (ah 18 []) [] []):T _):=kz
def sG (d:aQ) (a:At) (i:Nat):Bool:= !dM (d.getD i ⟨0,0,[]⟩) a
theorem WS (d:aQ) (a:At):cu d a= !allN (sG d a) d.length 0:=by
 have:=qf (fun x=> !dM x a) ⟨0,0,[]⟩ d;show _= !allN (fun i=> !dM (d.getD i ⟨0,0,[]⟩) a) d.length 0;rw [this];unfold cu;induction d with
 | nil=>rfl
 | cons x d ih=>rw [List.any_cons,List.all_cons,Bool.not_and,Bool.not_not,ih (qf (fun x=> !dM x a) ⟨0,0,[]⟩ d)]
theorem WV (d:aQ) (a:At) (hd:d.length<=4294967296):
  (allN (sG d a) d.length 0=true->aT Tryz.prog 0 (lp Tryz.prog pb 0) (yC d a 0) (.exit 0) ⟨ah 18 [],[],[]⟩) /\
  (allN (sG d a) d.length 0=false->aT Tryz.prog 0 (lp Tryz.prog pb 0) (yC d a 0) .ret ⟨ah 18 [(4,.bool true)],[],[]⟩):=by
 refine ju (E:=p6) (nf:=Nu) (st:=fun i=>yC d a (i:Nat)) (n:=d.length) (sG d a) follows named (by simp) (by simp) (fun i=>WT d a (i:Nat)) (fun i hi => ?_) ?_ d.length 0 (by simp)
 ·have aD:=bu.at d ⟨0,0,[]⟩ i 3 hi rfl
  unfold sG
  simp only [ba,T.WP,All,decide_eq_true_eq,decide_eq_false_iff_not,and_true,Int.toNat_natCast,bu.af,bW (show i<9223372036854775807 by omega)]
  refine ⟨fun _=>⟨⟨⟨by omega,by omega⟩,aD⟩,fun h => ?_,fun h => ?_⟩,fun h=>by omega⟩
  ·rw [show dM (d.getD i ⟨0,0,[]⟩) a=true from by simpa [dM] using h];rfl
  ·rw [show dM (d.getD i ⟨0,0,[]⟩) a=false from by simpa [dM] using h];rfl
 ·simp only [ba,T.WP,All,bh,bl,bg,bm,bn,bo]
  exact ⟨fun h=>by omega,fun _=>trivial⟩
def aa7:Nat->St->Option b8:=fun id s=>match id,s.tm.get 0,s.hp with
 | 0,.dsl _ _ cs,[some ([.int _ k,.int _ n,.str t],_)]=>some ⟨cu (af aj cs) ⟨k,n,t⟩,fun y=> .two {keep:=[0,3,5]} (yC (af aj cs) ⟨k,n,t⟩ 0) y .ret ⟨ah 18 [(4,.bool true)],[],[]⟩ (.exit 0) ⟨ah 18 [],[],[]⟩⟩
 | _,_,_=>none
def CW:Env:={P:=Pz,vw:=tR,res:=PO,ls:=aa7}
theorem WU (d:aQ) (a:At):fnT CW 0 pb [ab aj d,.agg (aj a)] []=(
 let q2:=af aj (ae aj d);
 let q:=ah 18 [(0,ab aj q2),(3,pp 0),(5,aa 0)];
 let q1:Hp:=[some (aj (At.mk a.kind a.n a.t),143)];.bind (cu q2 (At.mk a.kind a.n a.t)) fun y0=> .ai [St.mk (ah 18 [(0,ab aj d),(3,pp 0),(5,aa 0)]) [some (aj a,143)] []=St.mk q q1 []] (bif y0 then .ai
  [aN (Env.P CW) 0 (blk Pz pb 0) (St.mk q q1 []) Ex.ret (St.mk (ah 18 [(4,.bool true)]) [] [])] (dz (.bool true) [] []) else .ai [aN (Env.P CW) 0 (blk Pz pb 0) (St.mk q q1 []) (Ex.exit 0) (St.mk (ah 18 []) [] [])]
  (dz (.bool false) [] [])):T _):=fz
theorem Ft (d:aQ) (a:At) (hd:d.length<=4294967296):au Pz pb [ab aj d,.agg (aj a)] [] ⟨.bool (cu d a),[],[]⟩:=by
 refine a6 (WU d a) ?_;simp only [sz,bu.af];have hl:=WV d a hd;rintro y rfl;rw [WS];refine ⟨a8,fun h=>⟨.aV (hl.2 dT),?_⟩,fun h=>⟨.aV (hl.1 dT),?_⟩⟩
 ·rw [show (!allN (sG d a) d.length 0)=true from h];exact aH
 ·rw [show (!allN (sG d a) d.length 0)=false from h];exact aH
def datK (a:At) (d:aQ):Nat->Nat
 | 0=>0
 | k+1=>bif decide (kF (d.getD k ⟨0,0,[]⟩) a>0) then datK a d k else k+1
def eH (d:aQ) (a:At):aQ:=bif cu d a then d else d.take (datK a d d.length)++a::d.drop (datK a d d.length)
theorem DX (a:At) (d:aQ):∀k,datK a d k<=k
 | 0=>Nat.le_refl _
 | k+1=>by
  rw [datK];have:=DX a d k;cases decide (kF (d.getD k ⟨0,0,[]⟩) a>0)
  ·exact Nat.le_refl _
  ·simp only [cond_true];omega
def yS (d:aQ) (a:At) (k:Int):St:=⟨ah 38 [(0,ab aj d),(3,.ptr 0 0),(5,.int .i64 k)],[some (aj a,pX)],[]⟩
def ap0:Ex->Kp:=fun _=>{keep:=[0,3,5]}
theorem Pl (d:aQ) (a:At) (k:Int):bp p6 0 ap0 (lp Pz sk 0) (yS d a k)=(
 let q:=List.getD (af aj (ae aj d)) (Int.toNat (wz (k - 1))) (At.mk (0:Int) (0:Int) []);
 let q1:=ah 38 [(0,ab aj d),(3,pp 0),(5,aa k)];
 let q2:Hp:=[some (aj a,143)];bif decide (k>0) then .ai [0<=wz (k - 1)/\wz (k - 1)<(d.length:Int),List.take 3 (List.drop (Int.toNat (wz (k - 1))*3) (ae aj d))=aj q] (.bind (kF (At.mk (At.kind q) (At.n q)
  (At.t q)) (At.mk a.kind a.n a.t)) fun y0=> .ai [au (Env.P p6) 239 [.agg (aj q),.agg (aj a)] [] (aF.mk (aa y0) [] [])] (bif decide (y0>0) then nz (ah 38 [(0,ab aj d),(3,pp 0),(5,aa (wz (k - 1)))]) q2 else
  .done (Ex.exit 0,St.mk q1 q2 []))) else .done (Ex.exit 0,St.mk q1 q2 []):T _):=kz
theorem Pt (d:aQ) (a:At) (hd:d.length<=4294967296):∀k,k<=d.length ->
  aT Tryz.prog 0 (lp Tryz.prog sk 0) (yS d a k) (.exit 0) (yS d a (datK a d k:Nat))
 | 0,hk=>by
  refine bt (Pl d a ((0:Nat):Int)) ?_
  simp only [ba,T.WP,All,bh,bl,bg,bm,bn,bo]
  exact ⟨fun h=>ag,fun _=>⟨rfl,rfl⟩⟩
 | k+1,hk=>by
  have aD:=bu.at d ⟨0,0,[]⟩ k 3 ag rfl
  have ih:=Pt d a hd k ag
  have w1:IntKind.i64.wrap (((k+1:Nat):Int) - 1)=(k:Nat):=by rw [du ag];omega
  refine bt (Pl d a ((k+1:Nat):Int)) ?_
  simp only [ba,T.WP,All,bh,bl,bg,bm,bn,bo,w1,Int.toNat_natCast,bu.af]
  refine ⟨fun _=>⟨⟨⟨ag,ag⟩,aD⟩,?_⟩,fun h=>ag⟩
  rintro y rfl
  rw [datK]
  refine ⟨OF _ _,fun h => ?_,fun h => ?_⟩
  ·rw [decide_eq_true h];exact ih
  ·rw [decide_eq_false h];exact ⟨rfl,rfl⟩
def ad5:Nat->St->Option b8:=fun id s=>match id,s.tm.get 0,s.hp with
 | 0,.dsl _ _ cs,[some ([.int _ k,.int _ n,.str t],_)]=>some ⟨datK ⟨k,n,t⟩ (af aj cs) (af aj cs).length,fun y=> .one {keep:=[0,3,5]} (yS (af aj cs) ⟨k,n,t⟩ (af aj cs).length) (.exit 0) (yS (af aj cs) ⟨k,n,t⟩ (y:Nat))⟩
 | _,_,_=>none
def aF6:cy:=fun f vs hp=>match vs,hp with
 | [.dsl _ _ cs,.agg [.int _ k,.int _ n,.str t]],[]=>bif Nat.beq f pb then some ⟨cu (af aj cs) ⟨k,n,t⟩,fun y=>⟨.bool y,[],[]⟩⟩ else none
 | _,_=>none
def zC:Env:={P:=Pz,vw:=tR,res:=aF6,ls:=ad5}
theorem aD3 (d:aQ) (a:At):fnT zC 0 sk [ab aj d,.agg (aj a)] []=(
 let q7:=ae aj d;
 let q:=af aj q7;
 let q1:=At.mk (At.kind a) (At.n a) (At.t a);
 let q2:=ae aj q;
 let q4:=List.length q;
 let q3:=ah 38 [(0,.dsl q4 false q2),(3,.ptr 0 0),(5,.int .i64 (↑q4:Int))];
 let q5:=List.take (List.length q*3) q2;
 let q6:Hp:=[some (aj q1,143)];.bind (cu q q1) fun y0=> .ai [au (Env.P zC) 210 [.dsl d.length false q7,.agg (aj a)] [] (aF.mk (.bool y0) [] [])] (bif y0 then .done (aF.mk (.dsl d.length false q7) [] []) else .bind
  (datK q1 q q4) fun y1=>
 let q8:=Int.toNat (↑y1:Int) - 0;
 let q9:=Int.toNat (↑y1:Int)*3;
 let bK:=List.length q - Int.toNat (↑y1:Int);
 let bS:=List.take q9 q2;
 let cF:List Prop:=[(0:Int)<=(↑y1:Int)/\(↑y1:Int)<=(↑q4:Int)];
 let dq:=List.drop 0 bS;.ai [St.mk (ah 38 [(0,.dsl d.length false q7),(3,.ptr 0 0),(5,.int .i64 (↑d.length:Int))]) [some (aj a,143)] []=St.mk q3 q6 [],aN (Env.P zC) 0 (blk Tryz.prog sk 0) (St.mk q3 q6 [])
  (Ex.exit 0) (St.mk (ah 38 [(0,.dsl q4 false q2),(3,.ptr 0 0),(5,.int .i64 (↑y1:Int))]) q6 [])] (.ai cF (.ai [List.length dq=q8*3,List.all dq V.one=true,0=0,0=0,0+q8<=9223372036854775807,(0+q8)*32 <=
  140737488355328] (.ai [0=0,List.length dq=(0+q8)*3,0+q8+1<=9223372036854775807,(0+q8+1)*32<=140737488355328] (.ai cF (.ai [List.length (List.drop q9 q5)=bK*3,List.all (List.drop q9 q5) V.one=true,
  0=0,List.length (List.drop 0 bS++[.int .i64 (At.kind q1),.int .i64 (At.n q1),.str (At.t q1)])=(0+q8+1)*3,0+q8+1+bK<=9223372036854775807,(0+q8+1+bK)*32<=140737488355328] (.done (aF.mk (.dsl (0+q8 +
  1+bK) false (List.drop 0 bS ++ .int .i64 (At.kind q1) :: .int .i64 (At.n q1) :: .str (At.t q1)::List.drop q9 q5)) [] [])))))))):T _):=(T.force_eq _).symm.trans (by kernel_rfl)
theorem BC (d:aQ) (a:At) (hd:d.length<=1048576):au Tryz.prog sk [ab aj d,.agg (aj a)] [] ⟨ab aj (eH d a),[],[]⟩:=by
 refine iG (E:=zC) follows named (aD3 d a) (by simp) ?_;simp only [ba,T.WP,All,bh,bl,bg,bm,bn,bo,bu.af];have hl:=Pt d a (by omega) d.length (Nat.le_refl _);have hk:=DX a d d.length;rintro y rfl;have ea:(⟨a.kind,a.n,a.t⟩:At)=a:=rfl;refine ⟨Ft d a (by omega),fun h => ?_,fun h => ?_⟩
 ·have e:eH d a=d:=by unfold eH;rw [show cu d a=true from h];rfl
  rw [e];exact ⟨rfl,rfl,by simp⟩
 ·have e:eH d a=d.take (datK a d d.length)++a::d.drop (datK a d d.length):=by unfold eH;rw [show cu d a=false from h];rfl
  rw [e];rintro y rfl;generalize datK a d d.length=k at *;have t1:List.drop 0 (List.take (k*3) (ae aj d))=ae aj (d.take k):=by rw [List.drop_zero,bu.take]
  have t2:List.drop (k*3) (List.take (d.length*3) (ae aj d))=ae aj (d.drop k):=by
   rw [List.take_of_length_le (by rw [bu.length];exact Nat.le_refl _),bu.drop]
  simp only [Int.toNat_natCast,t1,t2,bu.length,bu.all,List.length_take,List.length_drop,List.length_append,List.length_cons,List.length_nil,Nat.min_eq_left hk];refine ⟨⟨a8,.aV hl⟩,⟨by omega,by omega⟩,⟨by omega,a8,a8,a8,by omega,by omega⟩,⟨a8,by omega,by omega,by omega⟩,⟨by omega,by omega⟩,⟨a8,a8,a8,by omega,by omega,by omega⟩,?_⟩;have e2:ab aj (d.take k++a::d.drop k)= .dsl (0+(k - 0)+1+(d.length - k)) false (ae aj (d.take k)++V.int .i64 a.kind::V.int .i64 a.n::V.str a.t::ae aj (d.drop k)):=by
   have e3:ae aj (d.take k++a::d.drop k)=ae aj (d.take k)++V.int .i64 a.kind::V.int .i64 a.n::V.str a.t::ae aj (d.drop k):=by rw [oS,eS];rfl
   unfold ab;rw [e3];congr 1;simp only [List.length_append,List.length_take,List.length_cons,List.length_drop,Nat.min_eq_left hk];omega
  rw [e2];exact ⟨rfl,rfl,by simp⟩
def aE7:cy:=fun f vs hp=>match vs,hp with
 | [.ptr 0 0,.int _ n],[some ([.dsl _ _ cs,.int _ k,.int _ s],_)]=>bif Nat.beq f lx then some ⟨aU (aX cs k s) n,fun y=>⟨.int .i64 y.1,[ar y.2],[0]⟩⟩ else none
 | [.ptr 0 0,.sl 1 0 _ _],[some ([.dsl _ _ cs,.int _ k,.int _ s],_),some (c,t)]=>bif Nat.beq f sj then some ⟨dQ (aX cs k s) (kB c),fun y=>⟨.str y.1,[ar y.2,some (c,t)],[0]⟩⟩ else none
 | _,_=>none
def wD:Env:={P:=Pz,vw:=tR,res:=aE7}
theorem S2 (x:Src) (k:Int):fnT wD 0 Ah [.ptr 0 0,.int .i64 k] [ar x]=(
 let q:=aX (ae aP x.l) (↑x.k:Int) x.s;
 let q1:List V:=[.str [],.str [97],.str [98],.str [99],.str [110,101,116]];bif k==1 then .bind (aU q (12:Int)) fun y0=> .ai [au (Env.P wD) 103 [.ptr 0 0,aa 12] [ar x] (aF.mk (aa y0.1) [ar y0.2] [0])]
  (.done (aF.mk (.agg [aa k,aa (IntKind.i64.wrap (y0.1 - 4)),.str []]) [ar y0.2] [0])) else bif k==2 then .bind (dQ q (kB q1)) fun y1=> .ai [au (Env.P wD) 150 [.ptr 0 0,.sl 1 0 5 true] [ar x,some (q1,9)]
  (aF.mk (.str y1.1) [ar y1.2,some (q1,9)] [0])] (.done (aF.mk (.agg [aa k,aa 0,.str y1.1]) [ar y1.2] [0])) else bif k==3 then .bind (aU q (2:Int)) fun y2=> .ai [au (Env.P wD) 103 [.ptr 0 0,aa 2] [ar x]
  (aF.mk (aa y2.1) [ar y2.2] [0])] (.done (aF.mk (.agg [aa k,aa y2.1,.str []]) [ar y2.2] [0])) else .bind (aU q (6:Int)) fun y3=> .ai [au (Env.P wD) 103 [.ptr 0 0,aa 6] [ar x] (aF.mk (aa y3.1) [ar y3.2]
  [0])] (.done (aF.mk (.agg [aa 4,aa (IntKind.i64.wrap ((1:Int)+y3.1)),.str []]) [ar y3.2] [0])):T _):=by kernel_rfl
def rO:List (List UInt8):=[[],[97],[98],[99],[110,101,116]]
def di (x:Src) (k:Int):At×Src:=
 if k=1 then (⟨1,(aU x 12).1 - 4,[]⟩,(aU x 12).2)
 else if k=2 then (⟨2,0,(dQ x rO).1⟩,(dQ x rO).2)
 else if k=3 then (⟨3,(aU x 2).1,[]⟩,(aU x 2).2)
 else (⟨4,1+(aU x 6).1,[]⟩,(aU x 6).2)
theorem lX (x:Src) (k:Int) {c:Nat} (h:x.OK (c+3)):(di x k).2.OK c:=by
 unfold di;split
 ·exact (dJ h ag).1
 ·split
  ·exact (qW h (by simp [rO])).1
  ·split
   ·exact (dJ h ag).1
   ·exact (dJ h ag).1
theorem rQ (x:Src) (k:Int) {c:Nat} (h:x.OK (c+3)):au Tryz.prog Ah [.ptr 0 0,.int .i64 k] [ar x] ⟨.agg (aj (di x k).1),[ar (di x k).2],[0]⟩:=by
 refine a6 (S2 x k) ?_
 simp only [ba,T.WP,All,bh,bl,bg,bm,bn,bo,dZ]
 unfold di
 refine ⟨fun h1 => ?_,fun h1=>⟨fun h2 => ?_,fun h2=>⟨fun h3 => ?_,fun h3 => ?_⟩⟩⟩
 ·rintro y rfl
  have:=dJ (n:=12) h ag
  rw [if_pos h1,h1,du ag]
  exact ⟨fD _ _ h,aH⟩
 ·rintro y rfl
  rw [if_neg h1,if_pos h2,h2]
  exact ⟨x6 x rO true rfl rfl rfl h,aH⟩
 ·rintro y rfl
  rw [if_neg h1,if_neg h2,if_pos h3,h3]
  exact ⟨fD _ _ h,aH⟩
 ·rintro y rfl
  have:=dJ (n:=6) h ag
  rw [if_neg h1,if_neg h2,if_neg h3,du ag]
  exact ⟨fD _ _ h,aH⟩
def dtmL (k:Int):Nat->Src->aQ->aQ×Src
 | 0,x,d=>(d,x)
 | n+1,x,d=>dtmL k n (di x k).2 (eH d (di x k).1)
def jc (x:Src) (k:Int):aQ×Src:=dtmL k (aU x 5).1.toNat (aU x 5).2 []
def PQ:cy:=fun f vs hp=>match vs,hp with
 | [.ptr 0 0,.int _ n],[some ([.dsl _ _ cs,.int _ k,.int _ s],_)]=>bif Nat.beq f lx then some ⟨aU (aX cs k s) n,fun y=>⟨.int .i64 y.1,[ar y.2],[0]⟩⟩
  else bif Nat.beq f Ah then some ⟨di (aX cs k s) n,fun y=>⟨.agg (aj y.1),[ar y.2],[0]⟩⟩ else none
 | [.dsl _ _ cs,.agg [.int _ k,.int _ n,.str t]],[]=>bif Nat.beq f sk then some ⟨eH (af aj cs) ⟨k,n,t⟩,fun y=>⟨ab aj y,[],[]⟩⟩ else none
 | _,_=>none
def CP:Env:={P:=Pz,vw:=tR,res:=PQ}
def yw (x:Src) (k:Int) (d:aQ) (i:Int):St:=⟨ah 20 [(0,.ptr 0 0),(1,.int .i64 k),(5,ab aj d),(6,.int .i64 i)],[ar x],[0]⟩
def am0:Ex->Kp:=fun _=>{keep:=[0,1,5,6],wr:=[0]}
theorem Ky (x:Src) (k:Int) (d:aQ) (i:Int):bp CP 1 am0 (lp Pz uC 0) (yw x k d i)=(
 bif decide (i>0) then .bind (di (aX (ae aP x.l) (x.k:Int) x.s) k) fun y0=> .ai [au (Env.P CP) 106 [pp 0,aa k] [ar x] (aF.mk (.agg (aj y0.1)) [ar y0.2] [0])] (.bind (eH (af aj (ae aj d))
  (At.mk y0.1.kind y0.1.n y0.1.t)) fun y1=> .ai [au (Env.P CP) 186 [ab aj d,.agg (aj y0.1)] [] (aF.mk (ab aj y1) [] [])] (.done (Ex.normal,St.mk (ah 20 [(0,pp 0),(1,aa k),(5,ab aj y1),(6,aa (wz (i -
  1)))]) [ar y0.2] [0]))) else .done (Ex.exit 0,St.mk (ah 20 [(0,pp 0),(1,aa k),(5,ab aj d),(6,aa i)]) [ar x] [0]):T _):=kz
theorem qk (d:aQ) (a:At):(eH d a).length<=d.length+1:=by
 unfold eH;cases cu d a
 ·simp only [cond_false,List.length_append,List.length_take,List.length_cons,List.length_drop];omega
 ·simp only [cond_true];omega
theorem KA (k:Int):∀(n:Nat) (x:Src) (d:aQ),(dtmL k n x d).1.length<=d.length+n
 | 0,x,d=>Nat.le_refl _
 | n+1,x,d=>by
  rw [dtmL];have:=KA k n (di x k).2 (eH d (di x k).1);have:=qk d (di x k).1;omega
theorem Kz (k:Int):∀(n:Nat) (x:Src) (d:aQ) (c:Nat),x.OK (c+n*3)->(dtmL k n x d).2.OK c
 | 0,x,d,c,h=>h.less ag
 | n+1,x,d,c,h=>by
  rw [dtmL];exact Kz k n _ _ c (lX x k (c:=c+n*3) (h.less ag))
theorem KC (k:Int):∀(n:Nat) (x:Src) (d:aQ) (c:Nat),x.OK (c+n*3)->d.length+n<=1000000 ->
  aT Tryz.prog 1 (lp Tryz.prog uC 0) (yw x k d n) (.exit 0) (yw (dtmL k n x d).2 k (dtmL k n x d).1 0)
 | 0,x,d,c,h,hd=>by
  refine bt (Ky x k d ((0:Nat):Int)) ?_
  simp only [ba,T.WP,All,bh,bl,bg,bm,bn,bo]
  exact ⟨fun h=>ag,fun _=>⟨rfl,rfl⟩⟩
 | n+1,x,d,c,h,hd=>by
  have hc:=lX x k (c:=c+n*3) (h.less ag)
  have hl:=qk d (di x k).1
  have ih:=KC k n (di x k).2 (eH d (di x k).1) c hc ag
  have w1:IntKind.i64.wrap (((n+1:Nat):Int) - 1)=(n:Nat):=by rw [du ag];omega
  refine bt (Ky x k d ((n+1:Nat):Int)) ?_
  simp only [ba,T.WP,All,bh,bl,bg,bm,bn,bo,w1,dZ,bu.af]
  refine ⟨fun _ => ?_,fun h=>ag⟩
  rintro y rfl
  refine ⟨rQ x k (c:=c+n*3) (h.less ag),?_⟩
  rintro y rfl
  exact ⟨BC d _ ag,ih⟩
def aa2:Nat->St->Option b8:=fun id s=>match id,s.tm.get 1,s.tm.get 6,s.hp with
 | 0,.int _ k,.int _ i,some ([.dsl _ _ cs,.int _ a,.int _ b],_)::_=>some ⟨dtmL k i.toNat (aX cs a b) [],fun y=> .one {keep:=[0,1,5,6],wr:=[0],perm:=some ([0],[])} (yw (aX cs a b) k [] i) (.exit 0) (yw y.2 k y.1 0)⟩
 | _,_,_,_=>none
def zu:Env:={P:=Pz,vw:=tR,res:=PQ,ls:=aa2}
theorem Vt (x:Src) (k:Int):fnT zu 0 uC [.ptr 0 0,.int .i64 k] [ar x]=(
 .bind (aU (aX (ae aP x.l) (x.k:Int) x.s) (5:Int)) fun y0=>
 let q:=ah 20 [(0,pp 0),(1,aa k),(5,.dsl 0 false []),(6,aa y0.1)];
 let q1:=aX (ae aP y0.2.l) (y0.2.k:Int) y0.2.s;.ai [au (Env.P zu) 103 [pp 0,aa 5] [ar x] (aF.mk (aa y0.1) [ar y0.2] [0])] (.bind (dtmL k y0.1.toNat q1 []) fun y1=> .ai [St.mk q [ar y0.2] [0]=St.mk q
  [ar q1] [0],aN (Env.P zu) 1 (blk Pz uC 0) (St.mk q [ar q1] [0]) (Ex.exit 0) (St.mk (ah 20 [(0,pp 0),(1,aa k),(5,ab aj y1.1),(6,aa 0)]) [ar y1.2] [0])] (dz (ab aj y1.1) [ar y1.2] [0])):T _):=fz
theorem wY (x:Src) (k:Int) {c:Nat} (h:x.OK (c+15)):(jc x k).2.OK c:=by
 have h1:=dJ (c:=c+12) (n:=5) (h.less ag) ag;unfold jc;exact Kz k _ _ _ c (h1.1.less ag)
theorem Ae (x:Src) (k:Int) {c:Nat} (h:x.OK (c+15)):au Tryz.prog uC [.ptr 0 0,.int .i64 k] [ar x] ⟨ab aj (jc x k).1,[ar (jc x k).2],[0]⟩:=by
 have h1:=dJ (c:=c+12) (n:=5) (h.less (by omega)) (by omega);refine iG (E:=zu) follows named (Vt x k) (by simp) ?_;simp only [ba,T.WP,All,bh,bl,bg,bm,bn,bo,dZ];have hl:=KC k (aU x 5).1.toNat (aU x 5).2 [] c (h1.1.less (by omega)) (by simp only [List.length_nil];omega);rw [show (((aU x 5).1.toNat:Nat):Int)=(aU x 5).1 by omega] at hl;rintro y rfl;refine ⟨fD (c:=c+12) _ _ (h.less (by omega)),?_⟩;rintro y rfl;exact ⟨⟨a8,.aV hl⟩,⟨rfl,rfl,by simp⟩⟩
def la (S:aO):aA:=⟨S.map fun _=>[],1⟩
def cE (rows:List Rw) (id:Int):Int:=fidx (fun r:Rw=>r.id==id) rows 0
def rowsUp:List Rw->Int->Nat
 | [],_=>0
 | r::rs,id=>bif decide (r.id<id) then rowsUp rs id+1 else 0
def oC (rows:List Rw) (k:Nat) (id:Int):List Rw:=bif decide (k<rows.length)&&(rows.getD k .zero).id==id then rows.drop (k+1) else rows.drop k
def jt (rows:List Rw) (r:Rw):List Rw:=rows.take (rowsUp rows r.id)++r::oC rows (rowsUp rows r.id) r.id
def iw (x:aA) (t:Nat) (r:Rw):aA:=⟨x.ak.set t (jt (x.ak.getD t []) r),x.next⟩
def gf (rows:List Rw) (k:Nat):List Rw:=rows.take k++rows.drop (k+1)
def iv (x:aA) (t k:Nat):aA:=⟨x.ak.set t (gf (x.ak.getD t []) k),x.next⟩
def sumN (f:Nat->Nat):Nat->Nat->Nat
 | 0,_=>0
 | n+1,i=>f i+sumN f n (i+1)
def gZ (S:aO) (i c:Nat):aL:=(S.getD i .zero).av.getD c .zero
def jO (x:aA) (i k:Nat):Rw:=(x.ak.getD i []).getD k .zero
def j9 (x:aA) (i k c:Nat):aQ:=(jO x i k).cells.getD c []
def nh (x:aA) (id:Int) (i c k:Nat):Nat:=(cu (j9 x i k c) ⟨4,id,[]⟩).toNat
def wm (S:aO) (x:aA) (nm:List UInt8) (id:Int) (i c:Nat):Nat:=bif !(gZ S i c).fF||(gZ S i c).ref != nm then 0 else sumN (nh x id i c) (x.ak.getD i []).length 0
def tI (S:aO) (x:aA) (nm:List UInt8) (id:Int) (i:Nat):Nat:=sumN (wm S x nm id i) (S.getD i .zero).av.length 0
def ey (S:aO) (x:aA) (t:Nat) (id:Int):Nat:=sumN (tI S x (S.getD t .zero).name id) x.ak.length 0
def ra (there:List Rw) (d:aQ) (n:Nat):Bool:=decide (0<=cE there (d.getD n .zero).n)
def re (there:List Rw) (x:aA) (i c k:Nat):Bool:=allN (ra there (j9 x i k c)) (j9 x i k c).length 0
def Hr (S:aO) (x:aA) (i c:Nat):Bool:=(gZ S i c).kind != 4||allN (re (x.ak.getD (dk S (gZ S i c).ref).toNat []) x i c) (x.ak.getD i []).length 0
def vQ (S:aO) (x:aA) (i:Nat):Bool:=allN (Hr S x i) (S.getD i .zero).av.length 0
def nc (S:aO) (x:aA):Bool:=allN (vQ S x) x.ak.length 0
def tO (S:aO) (x:aA) (i k j n:Nat):Bool:=decide (j9 x i k ((S.getD i .zero).uniq.getD n 0).toNat=j9 x i j ((S.getD i .zero).uniq.getD n 0).toNat)
def IE (S:aO) (x:aA) (i k j:Nat):Bool:= !allN (tO S x i k j) (S.getD i .zero).uniq.length 0
def tN (S:aO) (x:aA) (i k:Nat):Bool:=allN (IE S x i k) k 0
def tP (S:aO) (x:aA) (i:Nat):Bool:=decide ((S.getD i .zero).uniq.length=0)||allN (tN S x i) (x.ak.getD i []).length 0
def nn (S:aO) (x:aA):Bool:=allN (tP S x) x.ak.length 0
def ka (S:aO) (x:aA):Int:=bif !nc S x then 13 else bif !nn S x then 12 else 0
def swK (S:aO) (i:Nat):Nat->Nat->aA->Bool->aA×Bool
 | 0,_,x,g=>(x,g)
 | n+1,k,x,g=>bif decide (k<(x.ak.getD i []).length) then
   (bif !(S.getD i .zero).root&&ey S x i (jO x i k).id==0 then swK S i n k (iv x i k) true else swK S i n (k+1) x g) else (x,g)
def tK (S:aO):Nat->Nat->aA->Bool->aA×Bool
 | 0,_,x,g=>(x,g)
 | n+1,i,x,g=>tK S n (i+1) (swK S i ((x.ak.getD i []).length) 0 x g).1 (swK S i ((x.ak.getD i []).length) 0 x g).2
def jI (there:List Rw) (d:aQ):aQ:=d.filter fun a=>decide (0<=cE there a.n)
def fi (there:List Rw) (c:Nat) (r:Rw):Rw:=⟨r.id,r.cells.set c (jI there (r.cells.getD c []))⟩
def idsF:List Op'->Int->List Int
 | [],_=>[]
 | o::t,n=>bif o.kind==1 then n::idsF t (n+1) else 0::idsF t n
def m3 (ops:List Op') (t:List UInt8):Int:=fidx (fun o:Op'=>o.kind==1&&o.name==t) ops 0
def iP (ops:List Op') (ids:List Int) (t:List UInt8):Int:=bif decide (0<=m3 ops t) then ids.getD (m3 ops t).toNat 0 else 0
def setN (ops:List Op') (ids:List Int):List (List UInt8)->aQ->Option aQ
 | [],v=>some v
 | t::ts,v=>bif iP ops ids t==0 then none else setN ops ids ts (eH v ⟨4,iP ops ids t,[]⟩)
def setsL (ops:List Op') (ids:List Int):List Sx->List Sx->List Sx×Int
 | [],out=>(out,0)
 | x::xs,out=>match setN ops ids x.names x.val with
  | none=>(out,13)
  | some v=>setsL ops ids xs (out++[⟨x.aC,v,[]⟩])
def gh (ops:List Op') (ids:List Int) (l:List Sx):List Sx×Int:=setsL ops ids l []
def jb (c:aL):aQ:=bif c.min==0 then [] else bif c.kind==1 then [⟨c.kind,max c.low (min c.high 0),[]⟩] else [⟨c.kind,0,[]⟩]
def gM (t:Tb) (id:Int):Rw:=⟨id,t.av.map jb⟩
def setRL (t:Tb):List Sx->Rw->Rw×Int
 | [],r=>(r,0)
 | s::ss,r=>bif dn (t.av.getD (bf t s.aC).toNat .zero) s.val != 0 then (.zero,dn (t.av.getD (bf t s.aC).toNat .zero) s.val)
  else setRL t ss ⟨r.id,r.cells.set (bf t s.aC).toNat s.val⟩
def joinF:aQ->aQ->aQ
 | a,[]=>a
 | a,x::b=>joinF (eH a x) b
def dP (a b:aQ):aQ:=a.filter fun x=> !cu b x
def jw:List UInt8:=[95,117,117,105,100]
def dw (t:Tb) (r:Rw) (nm:List UInt8):aQ:=bif decide (bf t nm<0) then [⟨4,r.id,[]⟩] else r.cells.getD (bf t nm).toNat []
def ej (t:Tb) (r:Rw) (c:aZ):Bool:=
 let d:=dw t r c.aC
 bif c.func==1 then decide (d=c.val) else bif c.func==2 then !decide (d=c.val)
 else bif c.func==7 then (dP c.val d).length==0 else bif c.func==8 then (dP c.val d).length==c.val.length
 else bif d.length==0 then false
 else
  let a:=(d.getD 0 .zero).n
  let b:=(c.val.getD 0 .zero).n
  bif c.func==3 then decide (a<b) else bif c.func==4 then decide (a<=b) else bif c.func==5 then decide (a>b) else decide (a>=b)
def dL (t:Tb) (r:Rw) (l:List aZ):Bool:=l.all fun c=>ej t r c
def ew (t:Tb) (rows:List Rw) (l:List aZ):List Int:=(rows.filter fun r=>dL t r l).map Rw.id
def fW (t:Tb) (c:aZ):Int:=
 let k:=bf t c.aC
 let kind:=bif decide (0<=k) then (t.av.getD k.toNat .zero).kind else 4
 bif decide (k<0)&&c.aC != jw then 11
 else bif decide (0<c.val.length)&&(c.val.getD 0 .zero).kind != kind then 9
 else bif bC c.func 3 6&&(kind != 1||(t.av.getD k.toNat .zero).max != 1||c.val.length != 1) then 9
 else 0
def firstC {α:Type} (f:α->Int):List α->Int
 | []=>0
 | x::xs=>bif f x != 0 then f x else firstC f xs
def iO (t:Tb) (m:Mt):Int:=
 let k:=bf t m.aC
 let kind:=(t.av.getD k.toNat .zero).kind
 bif decide (k<0) then 11
 else bif decide (0<m.val.length)&&(m.val.getD 0 .zero).kind != kind then 9
 else bif decide (m.func<=5)&&(kind != 1||m.val.length != 1) then 9 else 0
def lb (t:Tb) (l:List Sx) (i:Nat):Int:=
 let s:=l.getD i .zero
 let k:=bf t s.aC
 let kind:=(t.av.getD k.toNat .zero).kind
 bif decide (k<0) then 11
 else bif (l.take i).any (fun q=>q.aC==s.aC) then 8
 else bif (decide (0<s.val.length)&&(s.val.getD 0 .zero).kind != kind)||(decide (0<s.names.length)&&kind != 4) then 9 else 0
def kW (t:Tb) (nm:List UInt8):Int:=bif nm != jw&&decide (bf t nm<0) then 11 else 0
def im (S:aO) (o:Op'):Int:=
 bif decide (7<=o.kind) then (bif o.kind==10 && !jo o.name then 3 else 0)
 else
  let k:=dk S o.table
  let t:=S.getD k.toNat .zero
  bif decide (k<0) then 10
  else bif o.kind==1&&o.name != [] && !jo o.name then 3
  else bif firstC (kW t) o.av != 0 then firstC (kW t) o.av
  else bif firstC (fW t) o.aS != 0 then firstC (fW t) o.aS
  else bif firstC (lb t o.row) (List.range o.row.length) != 0 then firstC (lb t o.row) (List.range o.row.length)
  else firstC (iO t) o.cC
abbrev iW (rows:List Rw):Prop:=rows.Pairwise fun a b=>a.id<b.id
theorem BP (r:Rw):jt [] r=[r]:=rfl
theorem vV {a:Rw} {t:List Rw} {r:Rw} (h:a.id<r.id):jt (a::t) r=a::jt t r:=by
 unfold jt;rw [rowsUp,decide_eq_true h,cond_true,List.take_succ_cons,List.cons_append];congr 3;unfold oC;simp only [List.length_cons,List.getD_cons_succ,List.drop_succ_cons,Nat.add_lt_add_iff_right]
theorem vU {a:Rw} {t:List Rw} {r:Rw} (h:¬a.id<r.id):jt (a::t) r=r::(if a.id=r.id then t else a::t):=by
 unfold jt;rw [rowsUp,decide_eq_false h,cond_false,List.take_zero,List.nil_append];unfold oC;simp only [List.length_cons,List.getD_cons_zero,Nat.zero_add,List.drop_succ_cons,List.drop_zero,Nat.zero_lt_succ,decide_true,Bool.true_and];by_cases e:a.id=r.id
 ·rw [if_pos e,show (a.id==r.id)=true by simpa using e,cond_true]
 ·rw [if_neg e,show (a.id==r.id)=false by simpa using e,cond_false]
theorem xX {r x:Rw}:∀ {rows:List Rw},x∈jt rows r->x=r\/x∈rows
 | [],h=> .inl (by simpa [BP] using h)
 | a::t,h=>by
  by_cases e:a.id<r.id
  ·rw [vV e] at h;rcases List.mem_cons.1 h with h | h
   ·exact .inr (by simp [h])
   ·exact (xX h).imp id (fun h=>List.mem_cons_of_mem _ h)
  ·rw [vU e] at h;rcases List.mem_cons.1 h with h | h
   ·exact .inl h
   ·split at h
    ·exact .inr (List.mem_cons_of_mem _ h)
    ·exact .inr h
theorem aD4 {r:Rw}:∀ {rows:List Rw},r∈jt rows r
 | []=>by simp [BP]
 | a::t=>by
  by_cases e:a.id<r.id
  ·rw [vV e];exact List.mem_cons_of_mem _ aD4
  ·rw [vU e];simp
theorem Pp {r:Rw} {j:Int}:∀ {rows:List Rw},(∃y∈rows,y.id=j)->∃y∈jt rows r,y.id=j
 | [],⟨_,h,_⟩=>by cases h
 | a::t,⟨y,h,hj⟩=>by
  by_cases e:a.id<r.id
  ·rw [vV e];rcases List.mem_cons.1 h with rfl | h
   ·exact ⟨y,by simp,hj⟩
   ·obtain ⟨z,hz,YZ⟩:=Pp (r:=r) ⟨y,h,hj⟩;exact ⟨z,List.mem_cons_of_mem _ hz,YZ⟩
  ·rw [vU e];by_cases e2:a.id=r.id
   ·rw [if_pos e2];rcases List.mem_cons.1 h with rfl | h
    ·exact ⟨r,by simp,by rw [<- e2];exact hj⟩
    ·exact ⟨y,by simp [h],hj⟩
   ·rw [if_neg e2];exact ⟨y,List.mem_cons_of_mem _ h,hj⟩
theorem Ps {r:Rw}:∀ {rows:List Rw},iW rows->iW (jt rows r)
 | [],_=>by simp [BP]
 | a::t,h=>by
  obtain ⟨h1,h2⟩:=List.pairwise_cons.1 h;by_cases e:a.id<r.id
  ·rw [vV e];refine List.pairwise_cons.2 ⟨fun y hy => ?_,Ps h2⟩;rcases xX hy with rfl | hy
   ·exact e
   ·exact h1 y hy
  ·rw [vU e];split
   ·rename_i e2;exact List.pairwise_cons.2 ⟨fun y hy=>by have:=h1 y hy;omega,h2⟩
   ·refine List.pairwise_cons.2 ⟨fun y hy => ?_,h⟩;rcases List.mem_cons.1 hy with rfl | hy
    ·omega
    ·have:=h1 y hy;omega
theorem Pq {r:Rw}:∀ {rows:List Rw},(jt rows r).length<=rows.length+1
 | []=>by simp [BP]
 | a::t=>by
  by_cases e:a.id<r.id
  ·rw [vV e,List.length_cons,List.length_cons];have:=Pq (r:=r) (rows:=t);omega
  ·rw [vU e];split <;> simp
theorem Pr {r:Rw}:∀ {rows:List Rw},iW rows->(∃y∈rows,y.id=r.id)->(jt rows r).length=rows.length
 | [],_,⟨_,h,_⟩=>by cases h
 | a::t,h,⟨y,hy,hj⟩=>by
  obtain ⟨h1,h2⟩:=List.pairwise_cons.1 h;by_cases e:a.id<r.id
  ·rw [vV e,List.length_cons,List.length_cons];rcases List.mem_cons.1 hy with rfl | hy
   ·omega
   ·rw [Pr h2 ⟨y,hy,hj⟩]
  ·rw [vU e];split
   ·simp
   ·rename_i e2;rcases List.mem_cons.1 hy with rfl | hy
    ·exact absurd hj e2
    ·have:=h1 y hy;omega
theorem sw {α:Type} {p:α->Bool}:∀ {l:List α} {i:Nat},0<=fidx p l i↔∃x∈l,p x=true
 | [],i=>by simp [fidx]
 | a::t,i=>by
  rw [fidx];cases h:p a
  ·rw [cond_false,sw (l:=t)];simp [h]
  ·rw [cond_true];exact ⟨fun _=>⟨a,by simp,h⟩,fun _=>ag⟩
theorem O9 {rows:List Rw} {id:Int}:0<=cE rows id↔∃r∈rows,r.id=id:=by
 unfold cE;rw [sw];simp
theorem Hw (rows:List Rw) (k:Nat):(gf rows k).Sublist rows:=by
 unfold gf;have h:=(List.Sublist.refl (rows.take k)).append (List.drop_sublist 1 (rows.drop k));rw [List.take_append_drop,List.drop_drop] at h;exact h
theorem Vo {rows:List Rw} {k:Nat} {j:Int} (hk:k<rows.length) (h:∃y∈rows,y.id=j) (bc:(rows.getD k .zero).id≠j):∃y∈gf rows k,y.id=j:=by
 obtain ⟨y,hy,hj⟩:=h;have e:rows.take k++rows.getD k .zero::rows.drop (k+1)=rows:=by
  rw [List.getD_eq_getElem?_getD,List.getElem?_eq_getElem hk,Option.getD_some,List.getElem_cons_drop,List.take_append_drop]
 rw [<- e] at hy;unfold gf;rcases List.mem_append.1 hy with h | h
 ·exact ⟨y,List.mem_append.2 (.inl h),hj⟩
 ·rcases List.mem_cons.1 h with rfl | h
  ·exact absurd hj bc
  ·exact ⟨y,List.mem_append.2 (.inr h),hj⟩
theorem sC {α:Type} {l:List α} {i j:Nat} {x d:α} (h:i<l.length):(l.set i x).getD j d=if i=j then x else l.getD j d:=by
 rw [List.getD_eq_getElem?_getD,List.getElem?_set];split
 ·rename_i e;subst e;simp [h]
 ·rw [List.getD_eq_getElem?_getD]
def gH (a b:At):Prop:=a.kind<b.kind\/(a.kind=b.kind/\(a.n<b.n\/(a.n=b.n/\a.t<b.t)))
theorem JY {a b:Int} (h:a≠b):(wU a b<0↔a<b)/\(wU a b>0↔b<a):=by
 unfold wU;by_cases hl:a<b
 ·rw [decide_eq_true hl];simp;omega
 ·rw [decide_eq_false hl];simp;omega
theorem IC {a b:List UInt8} (h:a≠b):¬a<b↔b<a:=by
 constructor
 ·intro hl;have h1:b<=a:=List.not_lt.1 hl;by_cases h2:b<a
  ·exact h2
  ·exact absurd (List.le_antisymm (List.not_lt.1 h2) h1) h
 ·exact fun h1 h2=>List.lt_irrefl a (List.lt_trans h2 h1)
theorem TW {a b:List UInt8} (h:a≠b):(z7 a b<0↔a<b)/\(z7 a b>0↔b<a):=by
 unfold z7;rw [bytesLess_eq];by_cases hl:a<b
 ·rw [decide_eq_true hl];simp only [cond_true];refine ⟨⟨fun _=>hl,fun _=>ag⟩,⟨fun h=>ag,fun h2=>absurd hl ((IC h).2 h2)⟩⟩
 ·rw [decide_eq_false hl];simp only [cond_false];exact ⟨⟨fun h=>ag,fun h=>absurd h hl⟩,⟨fun _=>(IC h).1 hl,fun _=>ag⟩⟩
theorem DA (a b:At):(kF a b<0↔gH a b)/\(kF a b>0↔gH b a):=by
 unfold kF gH;by_cases h1:a.kind=b.kind
 ·rw [show (a.kind != b.kind)=false by simp [h1]];simp only [cond_false];by_cases h2:a.n=b.n
  ·rw [show (a.n != b.n)=false by simp [h2]];simp only [cond_false];by_cases h3:a.t=b.t
   ·rw [show (a.t != b.t)=false by simp [h3]];simp only [cond_false];have:=List.lt_irrefl b.t;simp [h1,h2,h3,this]
   ·rw [show (a.t != b.t)=true by simp [h3]];simp only [cond_true];obtain ⟨q1,q2⟩:=TW h3;rw [q1,q2];simp [h1,h2]
  ·rw [show (a.n != b.n)=true by simp [h2]];simp only [cond_true];obtain ⟨q1,q2⟩:=JY h2;have jX:¬b.n=a.n:=fun e=>h2 e.symm;rw [q1,q2];simp [h1,h2,jX]
 ·rw [show (a.kind != b.kind)=true by simp [h1]];simp only [cond_true];obtain ⟨q1,q2⟩:=JY h1;have jB:¬b.kind=a.kind:=fun e=>h1 e.symm;rw [q1,q2];simp [h1,jB]
theorem SY {a b c:At} (h:gH a b) (k:gH b c):gH a c:=by
 unfold gH at *;rcases h with h | ⟨h1,h | ⟨h2,h3⟩⟩ <;> rcases k with k | ⟨k1,k | ⟨k2,k3⟩⟩
 ·exact .inl ag
 ·exact .inl ag
 ·exact .inl ag
 ·exact .inl ag
 ·exact .inr ⟨ag,.inl ag⟩
 ·exact .inr ⟨ag,.inl ag⟩
 ·exact .inl ag
 ·exact .inr ⟨ag,.inl ag⟩
 ·exact .inr ⟨ag,.inr ⟨ag,List.lt_trans h3 k3⟩⟩
theorem SZ {a b:At} (h:a≠b):gH a b\/gH b a:=by
 unfold gH;by_cases h1:a.kind=b.kind
 ·by_cases h2:a.n=b.n
  ·have h3:a.t≠b.t:=fun e=>h (by obtain ⟨k,n,t⟩:=a;obtain ⟨k',n',t'⟩:=b;simp_all);by_cases h4:a.t<b.t
   ·exact .inl (.inr ⟨h1,.inr ⟨h2,h4⟩⟩)
   ·exact .inr (.inr ⟨h1.symm,.inr ⟨h2.symm,(IC h3).1 h4⟩⟩)
  ·by_cases h3:a.n<b.n
   ·exact .inl (.inr ⟨h1,.inl h3⟩)
   ·exact .inr (.inr ⟨h1.symm,.inl ag⟩)
 ·by_cases h3:a.kind<b.kind
  ·exact .inl (.inl h3)
  ·exact .inr (.inl ag)
theorem Kb (a:At) (d:aQ):∀k,k<=d.length->∀j,datK a d k<=j->j<k->gH a (d.getD j ⟨0,0,[]⟩)
 | 0,_,j,h1,h2=>ag
 | k+1,hk,j,h1,h2=>by
  rw [datK] at h1;by_cases hc:kF (d.getD k ⟨0,0,[]⟩) a>0
  ·rw [decide_eq_true hc] at h1;simp only [cond_true] at h1;by_cases hj:j=k
   ·rw [hj];exact (DA _ _).2.1 hc
   ·exact Kb a d k ag j h1 ag
  ·rw [decide_eq_false hc] at h1;simp only [cond_false] at h1;omega
theorem Kc (a:At) (d:aQ):∀k,datK a d k=0\/¬gH a (d.getD (datK a d k - 1) ⟨0,0,[]⟩)
 | 0=> .inl rfl
 | k+1=>by
  rw [datK];by_cases hc:kF (d.getD k ⟨0,0,[]⟩) a>0
  ·rw [decide_eq_true hc];exact Kc a d k
  ·rw [decide_eq_false hc];refine .inr fun h=>hc ((DA _ _).2.2 ?_);simpa using h
theorem zV {d:aQ} {i:Nat} (h:i<d.length):d.getD i ⟨0,0,[]⟩=d[i]:=by
 rw [List.getD_eq_getElem?_getD,List.getElem?_eq_getElem h];rfl
theorem ag8 {d:aQ} {a x:At}:x∈eH d a↔x=a\/x∈d:=by
 unfold eH;cases hh:cu d a with
 | true=>
  have:=Lz.1 hh;simp only [cond_true];exact ⟨.inr,fun h=>h.elim (fun e=>e▸this) id⟩
 | false=>
  simp only [cond_false];have hs:=List.take_append_drop (datK a d d.length) d;constructor
  ·intro h;rcases List.mem_append.1 h with h | h
   ·exact .inr (List.mem_of_mem_take h)
   ·rcases List.mem_cons.1 h with h | h
    ·exact .inl h
    ·exact .inr (List.mem_of_mem_drop h)
  ·rintro (rfl | h)
   ·simp
   ·rw [<- hs,List.mem_append] at h;rcases h with h | h
    ·exact List.mem_append_left _ h
    ·exact List.mem_append_right _ (List.mem_cons_of_mem _ h)
theorem UW {d:aQ} {a:At} (h:d.Pairwise gH):(eH d a).Pairwise gH:=by
 unfold eH;cases hh:cu d a with
 | true=>exact h
 | false=>
  simp only [cond_false];have hn:a∉d:=fun hm=>by rw [Lz.2 hm] at hh;cases hh
  have hk:=DX a d d.length;have u9:=Kb a d d.length (Nat.le_refl _);have hle:=Kc a d d.length;generalize datK a d d.length=k at *;have hs:=List.take_append_drop k d;have hp:=h;rw [<- hs] at hp;obtain ⟨p1,p2,p3⟩:=List.pairwise_append.1 hp;have vA:∀x∈d.drop k,gH a x:=fun x hx=>by
   obtain ⟨i,hi,rfl⟩:=List.getElem_of_mem hx;rw [List.length_drop] at hi;have:=u9 (k+i) ag ag;rw [zV ag] at this;rw [List.getElem_drop];exact this
  have Xh:∀x∈d.take k,gH x a:=fun x hx=>by
   rcases hle with hle | hle
   ·rw [hle] at hx;simp at hx
   ·have vi:0<k:=by
     rcases Nat.eq_zero_or_pos k with h0 | h0
     ·rw [h0] at hx;simp at hx
     ·exact h0
    have YQ:x∈d:=List.mem_of_mem_take hx;have bc:x≠a:=fun e=>hn (e▸YQ);have hl:d.getD (k - 1) ⟨0,0,[]⟩≠a:=fun e=>hn (by rw [<- e,zV ag];exact List.getElem_mem _);have AT:gH (d.getD (k - 1) ⟨0,0,[]⟩) a:=(SZ hl).resolve_right hle;obtain ⟨i,hi,rfl⟩:=List.getElem_of_mem hx;rw [List.length_take] at hi;rw [List.getElem_take] at *;by_cases xz:i=k - 1
    ·subst xz;rw [zV ag] at AT;exact AT
    ·have:=(List.pairwise_iff_getElem.1 h) i (k - 1) ag ag ag;rw [zV ag] at AT;exact SY this AT
  refine List.pairwise_append.2 ⟨p1,List.pairwise_cons.2 ⟨vA,p2⟩,fun x hx y hy => ?_⟩;rcases List.mem_cons.1 hy with rfl | hy
  ·exact Xh x hx
  ·exact p3 x hx y hy
structure cq (k:Int) (d:aQ):Prop where
 ok:∀a∈d,fV a=true/\a.kind=k
 pw:d.Pairwise gH
theorem cq.nil (k:Int):cq k []:=⟨(fun a h=>by cases h),.nil⟩
theorem cq.put {k:Int} {d:aQ} (h:cq k d) {a:At} (ha:fV a=true/\a.kind=k):cq k (eH d a):=
 ⟨fun x hx=>(ag8.1 hx).elim (fun e=>e▸ha) (h.ok x),UW h.pw⟩
theorem cq.one {k:Int} {a:At} (ha:fV a=true/\a.kind=k):cq k [a]:=⟨fun x hx=>by rw [List.mem_singleton] at hx;rw [hx];exact ha,by simp⟩
theorem rP {x:Src} {k:Int} {c:Nat} (h:x.OK (c+3)) (hk:1<=k/\k<=4):fV (di x k).1=true/\(di x k).1.kind=k:=by
 unfold di;by_cases h1:k=1
 ·have:=dJ (n:=12) h ag;rw [if_pos h1];refine ⟨?_,h1.symm⟩;simp [fV,vH,bC];omega
 ·rw [if_neg h1];by_cases h2:k=2
  ·have hm:=(qW (L:=rO) h (by simp [rO])).2;rw [if_pos h2];refine ⟨?_,h2.symm⟩;have hp:∀w∈rO,qX w=true:=by decide
   simp [fV,hp _ hm]
  ·rw [if_neg h2];by_cases h3:k=3
   ·have:=dJ (n:=2) h ag;rw [if_pos h3];refine ⟨?_,h3.symm⟩;simp [fV,bC];omega
   ·have:=dJ (n:=6) h ag;rw [if_neg h3];refine ⟨?_,by show (4:Int)=k;omega⟩;simp [fV,pJ,bC];omega
theorem KB {k:Int} (hk:1<=k/\k<=4):∀(n:Nat) (x:Src) (d:aQ) (c:Nat),x.OK (c+n*3)->cq k d->cq k (dtmL k n x d).1
 | 0,x,d,c,h,hd=>hd
 | n+1,x,d,c,h,hd=>by
  rw [dtmL];exact KB hk n _ _ c (lX x k (c:=c+n*3) (h.less ag)) (hd.put (rP (c:=c+n*3) (h.less ag) hk))
theorem Ad {x:Src} {k:Int} {c:Nat} (h:x.OK (c+15)) (hk:1<=k/\k<=4):cq k (jc x k).1/\(jc x k).1.length<=4:=by
 have h1:=dJ (c:=c+12) (n:=5) (h.less ag) ag;have h2:=KA k (aU x 5).1.toNat (aU x 5).2 [];refine ⟨KB hk _ _ [] c (h1.1.less ag) (.nil k),?_⟩;show (dtmL k (aU x 5).1.toNat (aU x 5).2 []).1.length<=4;simp only [List.length_nil] at h2;omega
abbrev nR:Nat:=7
abbrev oV:Nat:=41
abbrev si:Nat:=229
abbrev uw:Nat:=228
abbrev mM:Nat:=157
abbrev mK:Nat:=51
abbrev gp:Nat:=44
abbrev ze:Nat:=85
def ui:aL:=⟨[110,97,109,101],2,1,1,0,0,[],false⟩
def rT:aL:=⟨[97,98,111,117,116],4,0,4,0,0,[112,111,114,116],false⟩
def JG:aL:=⟨[116,97,103],1,0,1,0,99,[],false⟩
def JH:aL:=⟨[117,112],3,1,1,0,0,[],false⟩
def JB:aL:=⟨[99,111,117,110,116],1,1,1,-1000,1000,[],false⟩
def DN:aL:=⟨[112,111,114,116,115],4,0,8,0,0,[112,111,114,116],true⟩
def Iv:Tb:=⟨[110,111,116,101],[ui,rT],[],true⟩
def Iw:Tb:=⟨[112,111,114,116],[ui,JG,JH],[0],false⟩
def Ix:Tb:=⟨[115,119,105,116,99,104],[ui,JB,DN],[0],true⟩
def aI:aO:=[Iv,Iw,Ix]
def mA:Vw:=fun t cs i=>bif Nat.beq t gp then some (ao ((af ao cs).getD i Tb.zero)) else bif Nat.beq t ze then some (aY ((af aY cs).getD i aL.zero)) else tR t cs i
theorem aB3:fnT E0 0 nR [] []=(
 dz (.agg [.dsl 3 false [.str [110,111,116,101],.dsl 2 false [.str [110,97,109,101],aa 2,aa 1,aa 1,aa 0,aa 0,.str [],.bool false,.str [97,98,111,117,116],aa 4,aa 0,aa 4,aa 0,aa 0,.str [112,111,114,
  116],.bool false],.dsl 0 false [],.bool true,.str [112,111,114,116],.dsl 3 false [.str [110,97,109,101],aa 2,aa 1,aa 1,aa 0,aa 0,.str [],.bool false,.str [116,97,103],aa 1,aa 0,aa 1,aa 0,aa 99,.str
  [],.bool false,.str [117,112],aa 3,aa 1,aa 1,aa 0,aa 0,.str [],.bool false],.dsl 1 false [aa 0],.bool false,.str [115,119,105,116,99,104],.dsl 3 false [.str [110,97,109,101],aa 2,aa 1,aa 1,aa 0,aa
  0,.str [],.bool false,.str [99,111,117,110,116],aa 1,aa 1,aa 1,aa (-1000:Int),aa 1000,.str [],.bool false,.str [112,111,114,116,115],aa 4,aa 0,aa 8,aa 0,aa 0,.str [112,111,114,116],.bool true],
  .dsl 1 false [aa 0],.bool true]]) [] []:T _):=fz
def rf (S:aO):cy:=fun f vs hp=>match vs,hp with
 | [],[]=>bif Nat.beq f nR then some ⟨(),fun _=>⟨.agg [ab ao S],[],[]⟩⟩ else none
 | [.int _ n,.int _ lo,.int _ hi],[]=>bif Nat.beq f mK then some ⟨decide (lo<=n)&&decide (n<=hi),fun y=>⟨.bool y,[],[]⟩⟩ else none
 | [.ptr 0 0,.int _ n],[some ([.dsl _ _ cs,.int _ k,.int _ s],_)]=>bif Nat.beq f lx then some ⟨aU (aX cs k s) n,fun y=>⟨.int .i64 y.1,[ar y.2],[0]⟩⟩
  else bif Nat.beq f Ah then some ⟨di (aX cs k s) n,fun y=>⟨.agg (aj y.1),[ar y.2],[0]⟩⟩
  else bif Nat.beq f uC then some ⟨jc (aX cs k s) n,fun y=>⟨ab aj y.1,[ar y.2],[0]⟩⟩
  else bif Nat.beq f w9 then some ⟨bq (aX cs k s) n,fun y=>⟨.bool y.1,[ar y.2],[0]⟩⟩ else none
 | _,_=>none
def CL (S:aO) (v:Int):Env:={P:=Pz,vw:=mA,res:=rf S,vs:=[(3,4,.int .i64 v),(5,6,.int .i64 v)]}
theorem JZ (S:aO) (x:Src) (v:Int) (t:Int):fnT (CL S v) 0 oV [.ptr 0 0,.int .i64 t] [ar x]=(
 let q2:=List.getD (af ao (ae ao S)) t.toNat (Tb.mk [] [] [] false);
 let q6:=ae aY (Tb.av q2);
 let q:=af aY q6;
 let q1:=aL.mk [] (0:Int) (0:Int) (0:Int) (0:Int) (0:Int) [] false;
 let q3:=decide (3<=v)&&decide (v<=6);
 let q4:=(↑(List.length (Tb.av q2)):Int);
 let q5:=([aa 1,aa 2,aa 7,aa 8]:List V);.bind PUnit.unit fun y0=>cz 7 [] [] (.agg [ab ao S]) [] [] (.ai [0<=t/\t<(S.length:Int),td 4 t (ae ao S)=(ao q2)] (.bind (bq (aX (ae aP x.l) (x.k
  : Int) x.s) (8:Int)) fun y1=>
 let q7:=aX (ae aP y1.2.l) (y1.2.k:Int) y1.2.s;cz 105 [pp 0,aa 8] [ar x] (.bool y1.1) [ar y1.2] [0] (bif y1.1 then .bind (aU q7 (4:Int)) fun y2=>cz 103 [pp 0,aa 4] [ar y1.2] (aa y2.1) [ar y2.2] [0]
  (.ai [0<=y2.1/\y2.1<4] (.ai [q5[0+y2.1.toNat*1]?=some (aa v)] (.bind (di (aX (ae aP y2.2.l) (y2.2.k:Int) y2.2.s) (4:Int)) fun y3=>cz 106 [pp 0,aa 4] [ar y2.2] (.agg (aj y3.1)) [ar y3.2] [0] (dz
  (.agg [.str [95,117,117,105,100],aa v,.dsl 1 false (aj y3.1)]) [ar y3.2] [0])))) else .bind (aU q7 q4) fun y4=>
 let q8:=List.getD q y4.1.toNat q1;cz 103 [pp 0,aa q4] [ar y1.2] (aa y4.1) [ar y4.2] [0] (.ai [0<=y4.1/\y4.1<q4,td 8 y4.1 q6=[.str (aL.name q8),aa (aL.kind q8),aa (aL.min q8),aa (aL.max q8),aa (aL.low q8),
  aa (aL.high q8),.str (aL.ref q8),.bool (aL.fF q8)]] (.bind (aU (aX (ae aP y4.2.l) (y4.2.k:Int) y4.2.s) (4:Int)) fun y5=>cz 103 [pp 0,aa 4] [ar y4.2] (aa y5.1) [ar y5.2] [0] (.ai [0<=y5.1/\y5.1 <
  4] (.ai [q5[0+y5.1.toNat*1]?=some (aa v)] (.bind (jc (aX (ae aP y5.2.l) (y5.2.k:Int) y5.2.s) (aL.kind q8)) fun y6=>
 let q9:V:= .agg [.str (aL.name q8),aa v,ab aj y6.1];
 let bK:=bq (aX (ae aP y6.2.l) (y6.2.k:Int) y6.2.s) (2:Int);
 let bS:=(y6.1.length:Int);cz 107 [pp 0,aa (aL.kind q8)] [ar y5.2] (ab aj y6.1) [ar y6.2] [0] (bif aL.kind q8==1 then .bind bK fun y7=>
 let cF:=aX (ae aP y7.2.l) (y7.2.k:Int) y7.2.s;cz 105 [pp 0,aa 2] [ar y6.2] (.bool y7.1) [ar y7.2] [0] (bif y7.1 then .bind (aU cF (4:Int)) fun y8=>
 let dq:=(3:Int)+y8.1;
 let dS:V:= .agg [.str (aL.name q8),aa (wz dq),ab aj y6.1];
 let gT:=decide (3<=wz dq)&&decide (wz dq<=6);cz 103 [pp 0,aa 4] [ar y7.2] (aa y8.1) [ar y8.2] [0] (.bind (bq (aX (ae aP y8.2.l) (y8.2.k:Int) y8.2.s) (2:Int)) fun y9=>
 let jN:=di (aX (ae aP y9.2.l) (y9.2.k:Int) y9.2.s) (aL.kind q8);cz 105 [pp 0,aa 2] [ar y8.2] (.bool y9.1) [ar y9.2] [0] (bif y9.1 then .bind jN fun cY=>
 let jr:V:= .agg [.str (aL.name q8),aa (wz dq),.dsl 1 false (aj cY.1)];cz 106 [pp 0,aa (aL.kind q8)] [ar y9.2] (.agg (aj cY.1)) [ar cY.2] [0] (.bind gT fun cG=>cz 51 [aa (wz dq),aa 3,aa 6] [] (.bool
  cG) [] [] (bif cG then dz jr [ar cY.2] [0] else dz jr [ar cY.2] [0])) else .bind gT fun dD=>cz 51 [aa (wz dq),aa 3,aa 6] [] (.bool dD) [] [] (bif dD then bif bS != 1 then .bind jN fun ff=>cz 106 [pp 0,aa
  (aL.kind q8)] [ar y9.2] (.agg (aj ff.1)) [ar ff.2] [0] (dz (.agg [.str (aL.name q8),aa (wz dq),.dsl 1 false (aj ff.1)]) [ar ff.2] [0]) else dz dS [ar y9.2] [0] else dz dS [ar y9.2] [0]))) else .bind (bq
  cF (2:Int)) fun dK=>
 let na:=di (aX (ae aP dK.2.l) (dK.2.k:Int) dK.2.s) (aL.kind q8);cz 105 [pp 0,aa 2] [ar y7.2] (.bool dK.1) [ar dK.2] [0] (bif dK.1 then .bind na fun gW=>
 let mq:V:= .agg [.str (aL.name q8),aa v,.dsl 1 false (aj gW.1)];cz 106 [pp 0,aa (aL.kind q8)] [ar dK.2] (.agg (aj gW.1)) [ar gW.2] [0] (.bind q3 fun RB=>cz 51 [aa v,aa 3,aa 6] [] (.bool RB) [] [] (bif
  RB then dz mq [ar gW.2] [0] else dz mq [ar gW.2] [0])) else .bind q3 fun RC=>cz 51 [aa v,aa 3,aa 6] [] (.bool RC) [] [] (bif RC then bif bS != 1 then .bind na fun CF=>cz 106 [pp 0,aa (aL.kind q8)] [ar
  dK.2] (.agg (aj CF.1)) [ar CF.2] [0] (dz (.agg [.str (aL.name q8),aa v,.dsl 1 false (aj CF.1)]) [ar CF.2] [0]) else dz q9 [ar dK.2] [0] else dz q9 [ar dK.2] [0]))) else .bind bK fun oJ=>
 let fS:=di (aX (ae aP oJ.2.l) (oJ.2.k:Int) oJ.2.s) (aL.kind q8);cz 105 [pp 0,aa 2] [ar y6.2] (.bool oJ.1) [ar oJ.2] [0] (bif oJ.1 then .bind fS fun zo=>
 let kv:V:= .agg [.str (aL.name q8),aa v,.dsl 1 false (aj zo.1)];cz 106 [pp 0,aa (aL.kind q8)] [ar oJ.2] (.agg (aj zo.1)) [ar zo.2] [0] (.bind q3 fun RD=>cz 51 [aa v,aa 3,aa 6] [] (.bool RD) [] [] (bif
  RD then dz kv [ar zo.2] [0] else dz kv [ar zo.2] [0])) else .bind q3 fun RE=>cz 51 [aa v,aa 3,aa 6] [] (.bool RE) [] [] (bif RE then bif bS != 1 then .bind fS fun CG=>cz 106 [pp 0,aa (aL.kind q8)] [ar
  oJ.2] (.agg (aj CG.1)) [ar CG.2] [0] (dz (.agg [.str (aL.name q8),aa v,.dsl 1 false (aj CG.1)]) [ar CG.2] [0]) else dz q9 [ar oJ.2] [0] else dz q9 [ar oJ.2] [0]))))))))))):T _):=fz
theorem Zm (n lo hi:Int):fnT E0 0 mK [.int .i64 n,.int .i64 lo,.int .i64 hi] []=(
 bif decide (lo<=n) then dz (.bool (decide (n<=hi))) [] [] else dz (.bool false) [] []:T _):=kz
end Go.Proofs.YtlomaojlpodibaaGreat
end

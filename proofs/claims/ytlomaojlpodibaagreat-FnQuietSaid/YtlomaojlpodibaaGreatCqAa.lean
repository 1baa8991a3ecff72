/-
  The ground for this claim's walks: rows of cells that are the call's own, 'append' onto them, bytes and strings, what a call may have turned.
  A small evaluator over values whose addresses are names: values, how they stand for the machine's values, what a step may change.
  The small evaluator: its plain operations.
  The small evaluator's plain operations do what the machine does.
  The small evaluator's operations on memory do what the machine does.
  The small evaluator's appends, conversions, slices and comparisons do what the machine does.
  The small evaluator's plain operations, all together.
  The small evaluator's plain operations: the whole.
  The small evaluator's plain operations: one law for all.
  The small evaluator: some more operations.
  The small evaluator: calls, regions, code, functions.
  The small evaluator: renaming and calls do what the machine does.
  The small evaluator: one operation of a region; the regions.
  The small evaluator: a region in whatever order.
  The small evaluator: regions.
  The small evaluator: code and functions.
-/
import Derived.Test.YtlomaojlpodibaaGreatRows
import Derived.WalkKit
import Derived.WalkSpells
import Derived.WalkLawsBesides
import Derived.BigQuiet
import Derived.Lib.Hide
import Derived.Deep.CutRange
import Derived.Deep.DeepCutAuto
import Derived.Deep.LoopGhost
import Derived.Lib.LaidTab
import Derived.Lib.ItoaNum
import Derived.Deep.MidRow
import Derived.Great.FillDense
import Derived.Laws.StructEq
import Derived.Laws.Cover3
import Derived.Laws.MakeOwn
import Derived.Laws.Slices
import Derived.LoopN
import Derived.Orders
noncomputable section
namespace Go.Proofs.YtlomaojlpodibaaGreat
theorem bh (p:Prop) [Decidable p]:(decide p=true)=p:=decide_eq_true_eq
theorem bl {p:Prop} [Decidable p]:(decide p=false)↔¬p:=decide_eq_false_iff_not
theorem bm {α:Type _} [BEq α] [LawfulBEq α] {a b:α}:(a==b)=true↔a=b:=beq_iff_eq
theorem bn {α:Type _} [BEq α] [LawfulBEq α] {a b:α}:(a==b)=false↔a≠b:=beq_eq_false_iff_ne
theorem aB {p:Prop} (h:p:=by (repeat' with_reducible apply And.intro) <;> first | omega | with_reducible rfl | assumption | exact True.intro | trivial | rfl):p:=h
theorem bg (p:Prop):(p/\True)=p:=and_true p
theorem bo {α:Sort _} (a b:α):(a≠b)=¬(a=b):=ne_eq a b
theorem a8 {p:Prop} (h:p:=by first | exact True.intro | exact rfl):p:=h
theorem ag {p:Prop} (h:p:=by omega):p:=h
open Go.RowKit
set_option maxRecDepth 100000
def Row (w:World) (g:Nat) (e:TypeId) (cur:Array Value):Prop:=∃fr:Nat×Nat,w.heap[g]?=some (.cells cur e fr)/\(fr.2<=fr.1\/cur.size<=fr.1)
section
variable {w w':World} {g:Nat} {e:TypeId} {cur:Array Value}
theorem Row.lt (h:Row w g e cur):g<w.heap.size:=by
 obtain ⟨fr,h,_⟩:=h;exact (Array.getElem?_eq_some_iff.1 h).1
theorem Row.cell (h:Row w g e cur) (i:Nat):w.cell? ⟨g,i,none⟩=cur[i]?:=by
 obtain ⟨fr,h,_⟩:=h;simp [World.cell?,h]
theorem Row.free (h:Row w g e cur) (i:Nat) (hi:i<cur.size):w.frozen? ⟨g,i,none⟩=false:=by
 obtain ⟨⟨lo,iJ⟩,h,k⟩:=h;simp only [World.frozen?,h];simp only at k;rcases k with k | k <;> simp <;> omega
theorem Row.aL7 (h:Row w g e cur) (next:Array Value) (hs:next.size=cur.size):Row (w.setRow g next) g e next:=by
 obtain ⟨fr,h,k⟩:=h;exact ⟨fr,setRow_heap w g cur next e fr h,by rw [hs];exact k⟩
end
theorem tH (P:Program) (g o:Nat) (t:TypeId):∀(vs:List Value) (i:Nat) (cur:Array Value) (w:World),Row w g t cur->o+i+vs.length<=cur.size->(∀v∈vs,v.oneCell'=true) ->
  (storeCells ⟨g,o,none⟩ vs i).run P w= .ok () (w.setRow g (cur.toList.take (o+i)++vs++cur.toList.drop (o+i+vs.length)).toArray)
 | [],i,cur,w,⟨fr,hg,_⟩,_,_=>by
  simp only [storeCells,List.append_nil,List.length_nil,Nat.add_zero,List.take_append_drop,Array.toArray_toList];rw [setRow_self w g cur t fr hg];rfl
 | v::rest,i,cur,w,hr,hl,h1=>by
  have hi:o+i<cur.size:=by simp at hl;omega
  have WN:(⟨g,o,none⟩:Addr).add i=⟨g,o+i,none⟩:=by unfold Addr.add;split <;> simp_all
  have mQ:w.cell? ⟨g,o+i,none⟩=some cur[o+i]:=by rw [hr.cell];simp [hi]
  have Xx:w.frozen? ⟨g,o+i,none⟩=false:=hr.free _ hi;have cL:(store ((⟨g,o,none⟩:Addr).add i) v).run P w= .ok () (w.setRow g (cur.setIfInBounds (o+i) v)):=by
   obtain ⟨fr,hg,_⟩:=hr;rw [WN,run_store P w _ v _ (h1 v (by simp)),mQ];simp [Xx,setCell_eq_setRow w g (o+i) cur t fr v hg]
  have ih:=tH P g o t rest (i+1) (cur.setIfInBounds (o+i) v) (w.setRow g (cur.setIfInBounds (o+i) v)) (hr.aL7 _ (by simp)) (by simp at hl ⊢;omega) (fun x hx=>h1 x (by simp [hx]));simp only [storeCells,Sem.run_bind,cL,Result.andThen_ok,ih,setRow_setRow];congr 3;have e:=list_seg_step cur.toList (o+i) v rest (by simp at hl ⊢;omega);simpa [Array.toList_setIfInBounds,Nat.add_assoc] using e
def tZ (w:World) (a:Option Addr) (xs:List Value):Prop:=xs=[]\/∃ad,a=some ad/\ad.block<w.heap.size/\∀j u,xs[j]?=some u->w.cell? (ad.add j)=some u
section
variable {w w':World} {lo:Nat} {e:TypeId} {size:Nat} {v:Value} {n:Nat} {xs:List Value}
end
section
variable {P:Program} {ops:Array Oper} {rest:List Oper} {o:Oper} {a:Act} {w:World} {Q:Exit->Act->World->Prop} {K:Act->World->Prop}
end
def bv (l:List UInt8):List Value:=l.map fun b=> .int .u8 b.toNat
theorem Hy {P:Program} (w:World) (src dst e:TypeId) (hs:P.underlying src=some (.slice e)) (he:P.underlying e=some (.int .u8)) (hd:P.underlying dst=some .string)
  (a:Option Addr) (n cap:Nat) (l:List UInt8) (hn:n=l.length) (hl:tZ w a (bv l)):(convert src dst (.slice a n cap)).run P w= .ok (.string ⟨l.toArray⟩) w:=by
 subst hn;rcases hl with h | ⟨ad,rfl,_,hc⟩
 ·have:l=[]:=by simpa [bv] using h
  subst this;cases a with
  | none=>simp [convert,run_underlying hs,run_underlying hd,run_underlying he,Conv.bytesToString];rfl
  | some ad=>exact run_convert_bytes_back w src dst e ad cap [] hs he hd (by simp)
 ·exact run_convert_bytes_back w src dst e ad cap l hs he hd (fun j hj=>hc j _ (by simp [bv,hj]))
theorem Wt {w a:World} (h:w.grownBy a none):Below w.heap.size w a:=⟨h.os,h.tape,h.output,h.size,fun k hk=>h.block k hk (by simp)⟩
end Go.Proofs.YtlomaojlpodibaaGreat
namespace Go.Proofs.YtlomaojlpodibaaGreat
open Go.RowKit
set_option maxRecDepth 100000
inductive BK where
 | iface (t:TypeId)
 | bound (f:FuncId) (n:Nat)
 | map
def BK.mk:BK->Array Value->Value
 | .iface t,vs=> .iface t (vs.getD 0 (.tuple #[]))
 | .bound f n,vs=> .func (.func f) (vs.extract 0 n) (vs.extract n vs.size)
 | .map,vs=>match vs.getD 0 (.tuple #[]) with
  | .pointer (some a)=> .map (some a.block)
  | _=> .map none
inductive V where
 | int (k:IntKind) (n:Int)
 | bool (b:Bool)
 | str (s:List UInt8)
 | jJ
 | ptr (b off:Nat)
 | sl (b off n:Nat) (full:Bool)
 | dsl (n:Nat) (full:Bool) (cs:List V)
 | dptr (cs:List V)
 | aw (cs:List V)
 | cS (cs:List V)
 | agg (cs:List V)
 | tup (vs:List V)
 | fn (f:FuncId) (cap:List V)
 | box (k:BK) (cs:List V)
 | eptr (b base rel:Nat)
 | osl (T:TypeId) (n:Nat) (o:Bool) (cs:List V)
 | kU
 | lit (v:Value)
 | cw
abbrev bM:=List V×TypeId
abbrev Hp:=List (Option bM)
def ofScalar:Value->V
 | .int k n=> .int k n
 | .bool b=> .bool b
 | .string s=> .str s.data.toList
 | .pointer none=> .jJ
 | .slice none 0 0=> .dsl 0 true []
 | .nilFunc=> .kU
 | .nilIface=> .lit .nilIface
 | .map none=> .lit (.map none)
 | _=> .cw
def ofValue:Value->V
 | .agg cs=> .agg (cs.toList.map ofScalar)
 | v=>ofScalar v
mutual
def V.refs:V->List Nat
 | .ptr b _=>[b]
 | .sl b _ _ _=>[b]
 | .agg cs=>V.refsL cs
 | .tup cs=>V.refsL cs
 | .fn _ cs=>V.refsL cs
 | .box _ cs=>V.refsL cs
 | .eptr b _ _=>[b]
 | _=>[]
def V.refsL:List V->List Nat
 | []=>[]
 | c::cs=>V.refs c++V.refsL cs
end
structure Mu where
 nm:Nat->Option Nat
 ft:Nat->List Nat
instance:CoeFun Mu (fun _=>Nat->Option Nat):=⟨Mu.nm⟩
def Mu.own (μ:Mu) (b g:Nat):Prop:=μ b=some g\/g∈μ.ft b
def cf:Mu:=⟨fun _=>none,fun _=>[]⟩
def wM (v:Value):Prop:=∃a,v= .slice a 0 0/\(a=none\/∃g off,a=some ⟨g,off,none⟩)
mutual
def V.R (P:Program) (I:Nat->Prop):Mu->World->V->Value->Prop
 | _,_,.int k n,v=>v= .int k n
 | _,_,.bool b,v=>v= .bool b
 | _,_,.str s,v=>v= .string ⟨s.toArray⟩
 | _,_,.jJ,v=>v= .pointer none
 | μ,_,.ptr b off,v=>∃g,μ b=some g/\v= .pointer (some ⟨g,off,none⟩)
 | μ,w,.sl b off n full,v=>(∃g cap e N i,μ b=some g/\v= .slice (some ⟨g,off,none⟩) n cap/\n<=cap/\cap<=maxLen/\(full=true->cap=n)/\w.shape? g=some (e,N)/\P.info? e=some i/\off+cap*i.size<=N)\/(off=0/\n=0/\wM v)
 | _,w,.dsl n full cs,v=>∃a cap,v= .slice a n cap/\n<=cap/\(full=true->cap=n)/\(a=none/\cap=0\/∃g off,a=some ⟨g,off,none⟩)/\(cs=[]\/n=0\/∃g off,a=some ⟨g,off,none⟩/\I g/\∃cells e fr,w.heap[g]?=some (.cells cells e fr)/\V.RL P I cf w cs ((cells.toList.drop off).take cs.length))
 | _,w,.dptr cs,v=>∃g off,v= .pointer (some ⟨g,off,none⟩)/\(cs=[]\/I g/\∃cells e fr,w.heap[g]?=some (.cells cells e fr)/\V.RL P I cf w cs ((cells.toList.drop off).take cs.length))
 | μ,_,.eptr b base rel,v=>∃g,μ b=some g/\v= .pointer (some ⟨g,base+rel,none⟩)
 | _,_,.osl _ _ _ _,_=>False
 | _,_,.aw _,_=>False
 | _,_,.cS _,_=>False
 | μ,w,.agg cs,v=>∃vs,v= .agg vs/\V.RL P I μ w cs vs.toList
 | μ,w,.tup cs,v=>∃vs,v= .tuple vs/\V.RL P I μ w cs vs.toList
 | μ,w,.fn f cap,v=>∃vs,v= .func (.func f) #[] vs/\V.RL P I μ w cap vs.toList
 | μ,w,.box k cs,v=>∃vs,v=k.mk vs/\V.RL P I μ w cs vs.toList
 | _,_,.kU,v=>v= .nilFunc
 | _,_,.lit u,v=>v=u
 | _,_,.cw,_=>True
def V.RL (P:Program) (I:Nat->Prop):Mu->World->List V->List Value->Prop
 | _,_,[],vs=>vs=[]
 | μ,w,c::cs,vs=>∃u us,vs=u::us/\V.R P I μ w c u/\V.RL P I μ w cs us
end
section
variable {P:Program} {I I':Nat->Prop} {μ μ':Mu} {w w':World}
structure cO (I:Nat->Prop) (w w':World) (X:Nat->Prop):Prop where
 os:w'.os=w.os
 tape:w'.tape=w.tape
 output:w'.output=w.output
 size:w.heap.size<=w'.heap.size
 block:∀k,k<w.heap.size->¬X k->w'.heap[k]?=w.heap[k]?
 shape:∀k s,w.shape? k=some s->w'.shape? k=some s
 qN:∀k,I k->k<w.heap.size->w'.heap[k]?=w.heap[k]?
def ak:List (String×IntKind×List Int):=[("internal/strconv.uint64pow10", .u64,Lib.pow10Tab)]
def D7:List String:=["strconv.ErrSyntax", "strconv.ErrRange"]
structure lS (P:Program) (I:Nat->Prop) (w:World):Prop where
 lt:∀k,I k->k<w.heap.size
 laid:∀x∈ak,∀g,P.globalNamed x.1=some g->I g/\Lib.TabIs P w x.1 x.2.1 x.2.2
 VF:∀x∈D7,∀g,P.globalNamed x=some g->I g/\∃ev,w.cell? ⟨g,0,none⟩=some ev/\(ev= .nilIface\/∃te pe,ev= .iface te pe)
instance (P:Program) (I:Nat->Prop) (w:World):CoeFun (lS P I w) (fun _=>∀k,I k->k<w.heap.size):=⟨lS.lt⟩
theorem lS.step {P:Program} {w':World} {X:Nat->Prop} (h:lS P I w) (hE:cO I w w' X) (hs:∀k,I k->I' k) (bQ:∀k,I' k->k<w'.heap.size):lS P I' w':=
 ⟨bQ,fun x hx g hg=>by
  obtain ⟨h1,h2⟩:=h.laid x hx g hg;refine ⟨hs g h1,?_⟩;unfold Lib.TabIs World.var? at h2 ⊢;rw [hg] at h2 ⊢;simp only [Option.bind_some] at h2 ⊢;rw [hE.qN g h1 (h.lt g h1)];exact h2,
 fun x hx g hg=>by
  obtain ⟨h1,ev,h2,h3⟩:=h.VF x hx g hg;refine ⟨hs g h1,ev,?_,h3⟩;unfold World.cell? at h2 ⊢;rw [hE.qN g h1 (h.lt g h1)];exact h2⟩
def Sub (I I':Nat->Prop):Prop:=∀k,I k->I' k
def dE (μ μ':Mu):Prop:=∀b g,μ b=some g->μ' b=some g
theorem Sub.refl (I:Nat->Prop):Sub I I:=fun _ h=>h
theorem cO.refl (w:World) (X:Nat->Prop):cO I w w X:=⟨rfl,rfl,rfl,Nat.le_refl _,fun _ _ _=>rfl,fun _ _ h=>h,fun _ _ _=>rfl⟩
theorem cO.trans {a b c:World} {X Y:Nat->Prop} (h:cO I a b X) (k:cO I' b c Y) (hI:Sub I I') (hY:∀j,j<a.heap.size->Y j->X j):cO I a c X:=
 ⟨k.os.trans h.os,k.tape.trans h.tape,k.output.trans h.output,Nat.le_trans h.size k.size,
  fun j hj hn=>(k.block j (Nat.lt_of_lt_of_le hj h.size) (fun hy=>hn (hY j hj hy))).trans (h.block j hj hn),fun j s hs=>k.shape j s (h.shape j s hs),
  fun j hi hj=>(k.qN j (hI j hi) (Nat.lt_of_lt_of_le hj h.size)).trans (h.qN j hi hj)⟩
theorem cO.mono {a b:World} {X Y:Nat->Prop} (h:cO I a b X) (WL:∀j,X j->Y j):cO I a b Y:=
 ⟨h.os,h.tape,h.output,h.size,fun j hj hn=>h.block j hj (fun hx=>hn (WL j hx)),h.shape,h.qN⟩
theorem cO.less {a b:World} {X:Nat->Prop} (h:cO I' a b X) (hI:Sub I I'):cO I a b X:=
 ⟨h.os,h.tape,h.output,h.size,h.block,h.shape,fun k hk=>h.qN k (hI k hk)⟩
theorem dE.refl (μ:Mu):dE μ μ:=fun _ _ h=>h
theorem dE.trans {a b c:Mu} (h:dE a b) (k:dE b c):dE a c:=fun x g e=>k x g (h x g e)
theorem oD {g:Nat} {cs:Array Value} {e:TypeId} {fr:Nat×Nat} (h:w.heap[g]?=some (.cells cs e fr)):w.shape? g=some (e,cs.size):=by
 simp [World.shape?,h]
theorem aM3 {g:Nat} {s:TypeId×Nat} (h:w.shape? g=some s):g<w.heap.size:=by
 unfold World.shape? at h;split at h
 ·rename_i hh;exact (Array.getElem?_eq_some_iff.1 hh).1
 ·cases h
theorem aM2 (w:World) (o:Obj) (k:Nat) (s:TypeId×Nat) (h:w.shape? k=some s):(w.alloc o).shape? k=some s:=by
 have:=aM3 h;unfold World.shape? at *;rw [Below.heap_alloc w o k this];exact h
theorem cO.alloc (w:World) (o:Obj) (X:Nat->Prop):cO I w (w.alloc o) X:=
 ⟨rfl,rfl,rfl,by simp,fun k hk _=>Below.heap_alloc w o k hk,fun k s h=>aM2 w o k s h,fun k _ hk=>Below.heap_alloc w o k hk⟩
theorem cO.drew (w:World) (X:Nat->Prop):cO I w w.drew X:=⟨rfl,rfl,rfl,Nat.le_refl _,fun _ _ _=>rfl,fun _ _ h=>h,fun _ _ _=>rfl⟩
theorem cO.setRow (w:World) (g:Nat) (bJ cs:Array Value) (e:TypeId) (fr:Nat×Nat) (hg:w.heap[g]?=some (.cells bJ e fr)) (hs:cs.size=bJ.size) (hI:¬I g):cO I w (w.setRow g cs) (fun k=>k=g):=by
 refine ⟨rfl,rfl,rfl,by simp,fun k hk hn=>setRow_other w g k cs hn,fun k s h => ?_,fun k hk _=>setRow_other w g k cs (by rintro rfl;exact hI hk)⟩;by_cases vj:k=g
 ·subst vj;rw [oD (setRow_heap w k bJ cs e fr hg),hs,<- oD hg,h]
 ·unfold World.shape? at *;rw [setRow_other w g k cs vj];exact h
mutual
theorem V.R.keep {X:Nat->Prop} (hE:cO I w w' X) (hI:Sub I I'):∀ {μ μ':Mu} (_:dE μ μ') (c:V) (v:Value),V.R P I μ w c v->V.R P I' μ' w' c v
 | _,_,hM,.int _ _,_,h=>by simpa [V.R] using h
 | _,_,hM,.bool _,_,h=>by simpa [V.R] using h
 | _,_,hM,.str _,_,h=>by simpa [V.R] using h
 | _,_,hM,.jJ,_,h=>by simpa [V.R] using h
 | _,_,hM,.ptr _ _,_,h=>by
  simp only [V.R] at h ⊢
  obtain ⟨g,hg,h⟩:=h
  exact ⟨g,hM _ _ hg,h⟩
 | _,_,hM,.sl _ _ _ _,_,h=>by
  simp only [V.R] at h ⊢
  rcases h with ⟨g,cap,e,N,i,h1,h2,h3,h4,h5,h6,h7⟩ | h
  ·exact .inl ⟨g,cap,e,N,i,hM _ _ h1,h2,h3,h4,h5,hE.shape _ _ h6,h7⟩
  ·exact .inr h
 | _,_,hM,.dsl _ _ cs,_,h=>by
  simp only [V.R] at h ⊢
  obtain ⟨a,cap,h1,h2,h3,xl,h4⟩:=h
  refine ⟨a,cap,h1,h2,h3,xl,?_⟩
  rcases h4 with h4 | h4 | ⟨g,off,Lv,h4,cells,e,fr,h5,h6⟩
  ·exact .inl h4
  ·exact .inr (.inl h4)
  ·exact .inr <| .inr ⟨g,off,Lv,hI _ h4,cells,e,fr,(hE.qN g h4 (Array.getElem?_eq_some_iff.1 h5).1).trans h5,V.RL.keep hE hI (dE.refl _) cs _ h6⟩
 | _,_,hM,.dptr cs,_,h=>by
  simp only [V.R] at h ⊢
  obtain ⟨g,off,h1,h4⟩:=h
  refine ⟨g,off,h1,?_⟩
  rcases h4 with h4 | ⟨h4,cells,e,fr,h5,h6⟩
  ·exact .inl h4
  ·exact .inr ⟨hI _ h4,cells,e,fr,(hE.qN g h4 (Array.getElem?_eq_some_iff.1 h5).1).trans h5,V.RL.keep hE hI (dE.refl _) cs _ h6⟩
 | _,_,hM,.eptr _ _ _,_,h=>by
  simp only [V.R] at h ⊢
  obtain ⟨g,hg,h⟩:=h
  exact ⟨g,hM _ _ hg,h⟩
 | _,_,hM,.osl _ _ _ _,_,h=>by simp [V.R] at h
 | _,_,hM,.aw _,_,h=>by simp [V.R] at h
 | _,_,hM,.cS _,_,h=>by simp [V.R] at h
 | _,_,hM,.agg cs,_,h=>by
  simp only [V.R] at h ⊢
  obtain ⟨vs,h1,h2⟩:=h
  exact ⟨vs,h1,V.RL.keep hE hI hM cs _ h2⟩
 | _,_,hM,.tup cs,_,h=>by
  simp only [V.R] at h ⊢
  obtain ⟨vs,h1,h2⟩:=h
  exact ⟨vs,h1,V.RL.keep hE hI hM cs _ h2⟩
 | _,_,hM,.fn _ cs,_,h=>by
  simp only [V.R] at h ⊢
  obtain ⟨vs,h1,h2⟩:=h
  exact ⟨vs,h1,V.RL.keep hE hI hM cs _ h2⟩
 | _,_,hM,.box _ cs,_,h=>by
  simp only [V.R] at h ⊢
  obtain ⟨vs,h1,h2⟩:=h
  exact ⟨vs,h1,V.RL.keep hE hI hM cs _ h2⟩
 | _,_,hM,.kU,_,h=>by simpa [V.R] using h
 | _,_,hM,.lit _,_,h=>by simpa [V.R] using h
 | _,_,hM,.cw,_,_=>by simp [V.R]
theorem V.RL.keep {X:Nat->Prop} (hE:cO I w w' X) (hI:Sub I I'):∀ {μ μ':Mu} (_:dE μ μ') (cs:List V) (vs:List Value),V.RL P I μ w cs vs->V.RL P I' μ' w' cs vs
 | _,_,hM,[],_,h=>by simpa [V.RL] using h
 | _,_,hM,c::cs,_,h=>by
  simp only [V.RL] at h ⊢
  obtain ⟨u,us,h1,h2,h3⟩:=h
  exact ⟨u,us,h1,V.R.keep hE hI hM c u h2,V.RL.keep hE hI hM cs us h3⟩
end
theorem N0 (μ:Mu):dE cf μ:=fun _ _ h=>(by cases h)
theorem ud {c:V} {v:Value} (h:V.R P I cf w c v):V.R P I μ w c v:=h.keep (.refl w (fun _=>False)) (.refl I) (N0 μ)
theorem zM {cs:List V} {vs:List Value} (h:V.RL P I cf w cs vs):V.RL P I μ w cs vs:=h.keep (.refl w (fun _=>False)) (.refl I) (N0 μ)
theorem V.RL.length:∀ {cs:List V} {vs:List Value},V.RL P I μ w cs vs->vs.length=cs.length
 | [],_,h=>by simp only [V.RL] at h;simp [h]
 | _::cs,_,h=>by
  simp only [V.RL] at h;obtain ⟨u,us,rfl,_,h⟩:=h;simp [V.RL.length h]
theorem V.RL.get:∀ {cs:List V} {vs:List Value},V.RL P I μ w cs vs->∀ {j:Nat} {c:V},cs[j]?=some c->∃u,vs[j]?=some u/\V.R P I μ w c u
 | [],_,_,_,_,hj=>by simp at hj
 | _::cs,_,h,j,c,hj=>by
  simp only [V.RL] at h;obtain ⟨u,us,rfl,h1,h⟩:=h;cases j with
  | zero=>simp at hj;subst hj;exact ⟨u,by simp,h1⟩
  | succ j=>simpa using V.RL.get h (j:=j) (by simpa using hj)
theorem V.RL.of:∀ {cs:List V} {vs:List Value},vs.length=cs.length->(∀(j:Nat) (c:V) (u:Value),cs[j]?=some c->vs[j]?=some u->V.R P I μ w c u)->V.RL P I μ w cs vs
 | [],vs,hl,_=>by simp only [V.RL];exact List.eq_nil_of_length_eq_zero (by simpa using hl)
 | c::cs,[],hl,_=>by simp at hl
 | c::cs,v::vs,hl,h=>by
  simp only [V.RL];exact ⟨v,vs,rfl,h 0 c v (by simp) (by simp),V.RL.of (by simpa using hl) fun j c u hc hu=>h (j+1) c u (by simpa using hc) (by simpa using hu)⟩
theorem V.RL.append {a b:List V} {va vb:List Value} (h:V.RL P I μ w a va) (k:V.RL P I μ w b vb):V.RL P I μ w (a++b) (va++vb):=by
 refine .of (by simp [h.length,k.length]) fun j c u hc hu => ?_;have hl:=h.length;rw [List.getElem?_append] at hc hu;by_cases hj:j<a.length
 ·rw [if_pos hj] at hc;rw [if_pos ag] at hu;obtain ⟨u',hu',hr⟩:=h.get hc;rw [hu] at hu';cases hu';exact hr
 ·rw [if_neg hj] at hc;rw [if_neg ag,hl] at hu;obtain ⟨u',hu',hr⟩:=k.get hc;rw [hu] at hu';cases hu';exact hr
theorem V.RL.drop {a:List V} {va:List Value} (h:V.RL P I μ w a va) (n:Nat):V.RL P I μ w (a.drop n) (va.drop n):=by
 refine .of (by simp [h.length]) fun j c u hc hu => ?_;rw [List.getElem?_drop] at hc hu;obtain ⟨u',hu',hr⟩:=h.get hc;rw [hu] at hu';cases hu';exact hr
theorem V.RL.take {a:List V} {va:List Value} (h:V.RL P I μ w a va) (n:Nat):V.RL P I μ w (a.take n) (va.take n):=by
 refine .of (by simp [h.length]) fun j c u hc hu => ?_;rw [List.getElem?_take] at hc hu;split at hc
 ·rename_i hj;rw [if_pos hj] at hu;obtain ⟨u',hu',hr⟩:=h.get hc;rw [hu] at hu';cases hu';exact hr
 ·cases hc
def V.seals:V->Option (Bool×List V)
 | .aw c=>some (false,c)
 | .cS c=>some (true,c)
 | _=>none
def mkS:Bool->List V->V
 | true,c=> .cS c
 | false,c=> .aw c
def flat:List V->List V
 | []=>[]
 | x::t=>match x with
  | .aw c=>match t with
   | []=>c
   | _::_=>c++flat t
  | .cS c=>match t with
   | []=>c
   | _::_=>c++flat t
  | x=>x::flat t
theorem iF {o:Bool} {c:List V}:∀ {t:List V},flat (mkS o c::t)=c++flat t
 | []=>by cases o <;> simp [flat,mkS]
 | y::u=>by cases o <;> rfl
theorem VX {c t:List V}:flat (.aw c::t)=c++flat t:=iF (o:=false)
def dx:List V->Bool
 | []=>false
 | x::t=>match x with
  | .aw _=>true
  | .cS _=>true
  | _=>dx t
theorem Qo (o:Bool) (c:List V):(mkS o c).seals=some (o,c):=by cases o <;> rfl
theorem gg (x:V):(∃o c,x=mkS o c)\/x.seals=none:=by
 cases x <;> first | (exact .inr rfl) | (exact .inl ⟨false,_,rfl⟩) | (exact .inl ⟨true,_,rfl⟩)
theorem xq {o:Bool} {c t:List V}:dx (mkS o c::t)=true:=by cases o <;> rfl
theorem pv {x:V} {t:List V} (hx:x.seals=none):dx (x::t)=dx t:=by
 cases x <;> first | rfl | simp [V.seals] at hx
theorem fH {x:V} {t:List V} (hx:x.seals=none):flat (x::t)=x::flat t:=by
 cases x <;> first | rfl | simp [V.seals] at hx
theorem Dp {c:V} {v:Value} (h:V.R P I μ w c v):c.seals=none:=by
 cases c <;> first | rfl | simp [V.R] at h
theorem xh:∀ {l:List V} {vs:List Value},V.RL P I μ w l vs->flat l=l
 | [],_,_=>rfl
 | x::t,_,h=>by
  simp only [V.RL] at h;obtain ⟨u,us,_,h1,h2⟩:=h;rw [fH (Dp h1),xh h2]
theorem GM:∀ {l:List V} {vs:List Value},V.RL P I μ w l vs->dx l=false
 | [],_,_=>rfl
 | x::t,_,h=>by
  simp only [V.RL] at h;obtain ⟨u,us,_,h1,h2⟩:=h;rw [pv (Dp h1),GM h2]
theorem jW:∀ {l:List V},dx l=false->flat l=l
 | [],_=>rfl
 | x::t,h=>by
  rcases gg x with ⟨o,c,rfl⟩ | hx
  ·rw [xq] at h;cases h
  ·rw [pv hx] at h;rw [fH hx,jW h]
def V.isO:V->Bool
 | .osl _ _ _ _=>true
 | _=>false
mutual
def V.O (P:Program) (I:Nat->Prop) (w:World) (F:List Nat) (c:V) (v:Value):Prop:=match c with
 | .osl T n o cs=>(n=0/\F=[]/\wM v)\/∃g cap i cells fr F',v= .slice (some ⟨g,0,none⟩) n cap/\F=g::F'/\n<=cap/\cap<=maxLen/\P.info? T=some i/\w.heap[g]?=some (.cells cells T fr)/\(fr.2<=fr.1\/cells.size<=fr.1)/\cap*i.size<=cells.size/\cs.length<=cells.size/\(match o with
  | true=>V.OL P I w F' cs (cells.toList.take cs.length)
  | false=>F'=[]/\V.RL P I cf w cs (cells.toList.take cs.length))
 | c=>F=[]/\V.R P I cf w c v
def V.OL (P:Program) (I:Nat->Prop) (w:World) (F:List Nat) (l:List V) (vs:List Value):Prop:=match l with
 | []=>F=[]/\vs=[]
 | c::cs=>∃u us F1 F2,vs=u::us/\F=F1++F2/\V.O P I w F1 c u/\V.OL P I w F2 cs us
end
def OS (P:Program) (I:Nat->Prop) (w:World):Bool->List Nat->List V->List Value->Prop
 | true,F,c,us=>V.OL P I w F c us
 | false,F,c,us=>F=[]/\V.RL P I cf w c us
theorem ub {F:List Nat} {T:TypeId} {n:Nat} {o:Bool} {cs:List V} {v:Value}:V.O P I w F (.osl T n o cs) v↔(n=0/\F=[]/\wM v)\/∃g cap i cells fr F',v= .slice (some ⟨g,0,none⟩) n cap/\F=g::F'/\n<=cap/\cap<=maxLen/\P.info? T=some i/\w.heap[g]?=some (.cells cells T fr)/\(fr.2<=fr.1\/cells.size<=fr.1)/\cap*i.size<=cells.size/\cs.length<=cells.size/\OS P I w o F' cs (cells.toList.take cs.length):=by
 cases o <;> (rw [V.O];rfl)
theorem uc {F:List Nat} {c:V} {v:Value} (h:c.isO=false):V.O P I w F c v↔F=[]/\V.R P I cf w c v:=by
 cases c
 case osl=>simp [V.isO] at h
 all_goals
  rw [V.O];all_goals (intro T n o cs e;cases e)
theorem lT {F:List Nat} {vs:List Value}:V.OL P I w F [] vs↔F=[]/\vs=[]:=by rw [V.OL]
theorem mD {F:List Nat} {c:V} {cs:List V} {vs:List Value}:V.OL P I w F (c::cs) vs↔∃u us F1 F2,vs=u::us/\F=F1++F2/\V.O P I w F1 c u/\V.OL P I w F2 cs us:=by rw [V.OL]
theorem V.OL.length:∀ {cs:List V} {F:List Nat} {vs:List Value},V.OL P I w F cs vs->vs.length=cs.length
 | [],F,vs,h=>by obtain ⟨_,rfl⟩:=lT.1 h;rfl
 | c::cs,F,vs,h=>by
  obtain ⟨u,us,F1,F2,rfl,_,_,h⟩:=mD.1 h;simp [V.OL.length h]
theorem zI:∀ {a b:List V} {F:List Nat} {vs:List Value},V.OL P I w F (a++b) vs↔∃F1 F2 us us',vs=us++us'/\F=F1++F2/\V.OL P I w F1 a us/\V.OL P I w F2 b us'
 | [],b,F,vs=>by
  simp only [List.nil_append];constructor
  ·exact fun h=>⟨[],F,[],vs,rfl,rfl,lT.2 ⟨rfl,rfl⟩,h⟩
  ·rintro ⟨F1,F2,us,us',rfl,rfl,h1,h2⟩;obtain ⟨rfl,rfl⟩:=lT.1 h1;exact h2
 | c::a,b,F,vs=>by
  rw [List.cons_append,mD];constructor
  ·rintro ⟨u,us,F1,F2,rfl,rfl,h1,h2⟩;obtain ⟨F3,F4,j2,jv,rfl,rfl,h3,h4⟩:=zI.1 h2;exact ⟨F1++F3,F4,u::j2,jv,rfl,by simp,mD.2 ⟨u,j2,F1,F3,rfl,rfl,h1,h3⟩,h4⟩
  ·rintro ⟨F1,F2,us,us',rfl,rfl,h1,h2⟩;obtain ⟨u,j2,F3,F4,rfl,rfl,h3,h4⟩:=mD.1 h1;exact ⟨u,j2++us',F3,F4++F2,rfl,by simp,h3,zI.2 ⟨F4,F2,j2,us',rfl,rfl,h4,h2⟩⟩
theorem V.OL.append {a b:List V} {F G:List Nat} {va vb:List Value} (h:V.OL P I w F a va) (k:V.OL P I w G b vb):V.OL P I w (F++G) (a++b) (va++vb):=zI.2 ⟨F,G,va,vb,rfl,rfl,h,k⟩
theorem V.OL.split {l:List V} {F:List Nat} {vs:List Value} (h:V.OL P I w F l vs) (n:Nat):∃F1 F2,F=F1++F2/\V.OL P I w F1 (l.take n) (vs.take n)/\V.OL P I w F2 (l.drop n) (vs.drop n):=by
 rw [<- List.take_append_drop n l] at h;obtain ⟨F1,F2,us,us',rfl,rfl,h1,h2⟩:=zI.1 h;have hl:=h1.length;refine ⟨F1,F2,rfl,?_,?_⟩
 ·by_cases hn:n<=l.length
  ·rw [List.take_left' (by rw [hl,List.length_take];omega)];exact h1
  ·have h0:l.drop n=[]:=List.drop_of_length_le ag;rw [h0] at h2;obtain ⟨rfl,rfl⟩:=lT.1 h2;have e:us.take n=us:=List.take_of_length_le (by rw [hl,List.length_take];omega);rw [List.append_nil,e];exact h1
 ·by_cases hn:n<=l.length
  ·rw [List.drop_left' (by rw [hl,List.length_take];omega)];exact h2
  ·have h0:l.drop n=[]:=List.drop_of_length_le ag;rw [h0] at h2 ⊢;obtain ⟨rfl,rfl⟩:=lT.1 h2;rw [List.append_nil,List.drop_of_length_le (by rw [hl,List.length_take];omega)];exact lT.2 ⟨rfl,rfl⟩
theorem Jo {c:V} {v:Value} (h:V.R P I μ w c v):c.isO=false:=by cases c <;> first | rfl | simp [V.R] at h
theorem Df:∀ {cs:List V} {vs:List Value},V.RL P I cf w cs vs->V.OL P I w [] cs vs
 | [],vs,h=>by simp only [V.RL] at h;exact lT.2 ⟨rfl,h⟩
 | c::cs,vs,h=>by
  simp only [V.RL] at h;obtain ⟨u,us,rfl,h1,h2⟩:=h;exact mD.2 ⟨u,us,[],[],rfl,rfl,(uc (Jo h1)).2 ⟨rfl,h1⟩,Df h2⟩
mutual
theorem V.O.keep {X:Nat->Prop} (hE:cO I w w' X) (hI:Sub I I'):∀(c:V) (F:List Nat) (v:Value),(∀k∈F,¬X k)->V.O P I w F c v->V.O P I' w' F c v
 | c,F,v,hX,h=>by
  cases hc:c.isO with
  | false=>
   rw [uc hc] at h ⊢
   exact ⟨h.1,h.2.keep hE hI (.refl _)⟩
  | true=>match c,hc with
   | .osl T n o cs,_=>
    rw [ub] at h ⊢
    rcases h with h | ⟨g,cap,i,cells,fr,F',h1,rfl,h3,h4,h5,h6,h7,h8,h9,iH⟩
    ·exact .inl h
    ·refine .inr ⟨g,cap,i,cells,fr,F',h1,rfl,h3,h4,h5,(hE.block g (Array.getElem?_eq_some_iff.1 h6).1 (hX g (by simp))).trans h6,h7,h8,h9,?_⟩
     cases o with
     | true=>exact V.OL.keep hE hI cs F' _ (fun k hk=>hX k (by simp [hk])) iH
     | false=>exact ⟨iH.1,iH.2.keep hE hI (.refl _)⟩
theorem V.OL.keep {X:Nat->Prop} (hE:cO I w w' X) (hI:Sub I I'):∀(cs:List V) (F:List Nat) (vs:List Value),(∀k∈F,¬X k)->V.OL P I w F cs vs->V.OL P I' w' F cs vs
 | [],F,vs,_,h=>by rw [lT] at h ⊢;exact h
 | c::cs,F,vs,hX,h=>by
  rw [mD] at h ⊢
  obtain ⟨u,us,F1,F2,rfl,rfl,h1,h2⟩:=h
  exact ⟨u,us,F1,F2,rfl,rfl,V.O.keep hE hI c F1 u (fun k hk=>hX k (by simp [hk])) h1,V.OL.keep hE hI cs F2 us (fun k hk=>hX k (by simp [hk])) h2⟩
end
def OX (P:Program) (I:Nat->Prop) (μ:Mu) (w:World) (F:List Nat) (c:V) (u:Value):Prop:=match c.isO with
 | true=>V.O P I w F c u
 | false=>F=[]/\V.R P I μ w c u
def OXL (P:Program) (I:Nat->Prop) (μ:Mu) (w:World):List Nat->List V->List Value->Prop
 | F,[],vs=>F=[]/\vs=[]
 | F,c::cs,vs=>∃u us F1 F2,vs=u::us/\F=F1++F2/\OX P I μ w F1 c u/\OXL P I μ w F2 cs us
def CR (P:Program) (I:Nat->Prop) (μ:Mu) (w:World):List Nat->List V->List Value->Prop
 | F,[],vs=>F=[]/\vs=[]
 | F,x::t,vs=>match x.seals with
  | some (o,c)=>∃us cM F1 F2,vs=us++cM/\F=F1++F2/\OS P I w o F1 c us/\CR P I μ w F2 t cM
  | none=>∃u us F1 F2,vs=u::us/\F=F1++F2/\OX P I μ w F1 x u/\CR P I μ w F2 t us
theorem CR.gC {o:Bool} {F:List Nat} {c t:List V} {vs:List Value}:CR P I μ w F (mkS o c::t) vs↔∃us cM F1 F2,vs=us++cM/\F=F1++F2/\OS P I w o F1 c us/\CR P I μ w F2 t cM:=by
 rw [CR,Qo]
theorem CR.BS {F:List Nat} {c t:List V} {vs:List Value}:CR P I μ w F (.aw c::t) vs↔∃us cM,vs=us++cM/\V.RL P I cf w c us/\CR P I μ w F t cM:=by
 refine (CR.gC (o:=false)).trans ⟨?_,?_⟩
 ·rintro ⟨us,cM,F1,F2,rfl,rfl,⟨rfl,h1⟩,h2⟩;exact ⟨us,cM,rfl,h1,h2⟩
 ·rintro ⟨us,cM,rfl,h1,h2⟩;exact ⟨us,cM,[],F,rfl,rfl,⟨rfl,h1⟩,h2⟩
theorem CR.fl {F:List Nat} {x:V} {t:List V} {vs:List Value} (hx:x.seals=none):CR P I μ w F (x::t) vs↔∃u us F1 F2,vs=u::us/\F=F1++F2/\OX P I μ w F1 x u/\CR P I μ w F2 t us:=by
 rw [CR,hx]
theorem CR.fP {F:List Nat} {vs:List Value}:CR P I μ w F [] vs↔F=[]/\vs=[]:=by simp only [CR]
theorem OS.pY {o:Bool} {F:List Nat} {c:List V} {us:List Value} (h:OS P I w o F c us):V.OL P I w F c us:=by
 cases o
 ·obtain ⟨rfl,h⟩:=h;exact Df h
 ·exact h
theorem OS.keep {X:Nat->Prop} (hE:cO I w w' X) (hI:Sub I I') {o:Bool} {F:List Nat} {c:List V} {us:List Value} (hX:∀k∈F,¬X k) (h:OS P I w o F c us):OS P I' w' o F c us:=by
 cases o
 ·exact ⟨h.1,h.2.keep hE hI (.refl _)⟩
 ·exact V.OL.keep hE hI c F us hX h
theorem ua {c:V} {u:Value} (h:V.R P I μ w c u):OX P I μ w [] c u:=by
 unfold OX;rw [Jo h];exact ⟨rfl,h⟩
theorem zJ {F:List Nat} {c:V} {u:Value} (h:V.O P I w F c u):OX P I μ w F c u:=by
 unfold OX;cases hc:c.isO with
 | true=>exact h
 | false=>
  obtain ⟨e,h3⟩:=(uc hc).1 h;exact ⟨e,ud h3⟩
theorem OX.plain {F:List Nat} {c:V} {u:Value} (h:OX P I μ w F c u) (hc:c.isO=false):F=[]/\V.R P I μ w c u:=by
 unfold OX at h;rwa [hc] at h
theorem Di:∀ {cs:List V} {vs:List Value},V.RL P I μ w cs vs->OXL P I μ w [] cs vs
 | [],vs,h=>by simp only [V.RL] at h;exact ⟨rfl,h⟩
 | c::cs,vs,h=>by
  simp only [V.RL] at h;obtain ⟨u,us,rfl,h1,h2⟩:=h;exact ⟨u,us,[],[],rfl,rfl,ua h1,Di h2⟩
theorem Dh:∀ {cs:List V} {F:List Nat} {vs:List Value},V.OL P I w F cs vs->OXL P I μ w F cs vs
 | [],F,vs,h=>lT.1 h
 | c::cs,F,vs,h=>by
  obtain ⟨u,us,F1,F2,h1,h2,h3,h4⟩:=mD.1 h;exact ⟨u,us,F1,F2,h1,h2,zJ h3,Dh h4⟩
theorem OXL.length:∀ {cs:List V} {F:List Nat} {vs:List Value},OXL P I μ w F cs vs->vs.length=cs.length
 | [],F,vs,h=>by obtain ⟨_,rfl⟩:=h;rfl
 | c::cs,F,vs,h=>by
  obtain ⟨u,us,F1,F2,rfl,_,_,h⟩:=h;simp [OXL.length h]
theorem OXL.append:∀ {a b:List V} {F G:List Nat} {va vb:List Value},OXL P I μ w F a va->OXL P I μ w G b vb->OXL P I μ w (F++G) (a++b) (va++vb)
 | [],b,F,G,va,vb,h,k=>by obtain ⟨rfl,rfl⟩:=h;exact k
 | c::a,b,F,G,va,vb,h,k=>by
  obtain ⟨u,us,F1,F2,rfl,rfl,h1,h2⟩:=h;exact ⟨u,us++vb,F1,F2++G,rfl,by simp,h1,h2.append k⟩
theorem OXL.split:∀ {l:List V} {F:List Nat} {vs:List Value},OXL P I μ w F l vs->∀n:Nat,∃F1 F2,F=F1++F2/\OXL P I μ w F1 (l.take n) (vs.take n)/\OXL P I μ w F2 (l.drop n) (vs.drop n)
 | [],F,vs,h,n=>by
  obtain ⟨rfl,rfl⟩:=h;exact ⟨[],[],rfl,by simpa using ⟨rfl,rfl⟩,by simpa using ⟨rfl,rfl⟩⟩
 | c::l,F,vs,h,0=>⟨[],F,rfl,⟨rfl,rfl⟩,h⟩
 | c::l,F,vs,h,n+1=>by
  obtain ⟨u,us,F1,F2,rfl,rfl,h1,h2⟩:=h;obtain ⟨G1,G2,rfl,h3,h4⟩:=h2.split n;exact ⟨F1++G1,G2,by simp,⟨u,us.take n,F1,G1,rfl,rfl,h1,h3⟩,h4⟩
theorem OXL.zh:∀ {cs:List V} {F:List Nat} {vs:List Value},OXL P I μ w F cs vs->(cs.all fun c=> !c.isO)=true->F=[]/\V.RL P I μ w cs vs
 | [],F,vs,h,_=>by obtain ⟨rfl,rfl⟩:=h;simp [V.RL]
 | c::cs,F,vs,h,ha=>by
  obtain ⟨u,us,F1,F2,rfl,rfl,h1,h2⟩:=h;rw [List.all_cons,Bool.and_eq_true] at ha;obtain ⟨rfl,h3⟩:=h1.plain (by simpa using ha.1);obtain ⟨rfl,h4⟩:=h2.zh ha.2;refine ⟨rfl,?_⟩;simp only [V.RL];exact ⟨u,us,rfl,h3,h4⟩
theorem OXL.get:∀ {cs:List V} {F:List Nat} {vs:List Value},OXL P I μ w F cs vs->∀ {j:Nat} {c:V},cs[j]?=some c->c.isO=false->∃u,vs[j]?=some u/\V.R P I μ w c u
 | [],_,_,_,_,_,hj,_=>by simp at hj
 | _::cs,_,_,h,j,c,hj,hc=>by
  obtain ⟨u,us,F1,F2,rfl,rfl,h1,h2⟩:=h;cases j with
  | zero=>simp at hj;subst hj;exact ⟨u,by simp,(h1.plain hc).2⟩
  | succ j=>simpa using h2.get (j:=j) (by simpa using hj) hc
theorem CR.mw:∀ {l:List V} {F:List Nat} {vs:List Value},CR P I μ w F l vs->OXL P I μ w F (flat l) vs
 | [],F,_,h=>CR.fP.1 h
 | x::t,F,vs,h=>by
  rcases gg x with ⟨o,c,rfl⟩ | hx
  ·obtain ⟨us,cM,F1,F2,rfl,rfl,h1,h2⟩:=CR.gC.1 h;rw [iF];exact (Dh h1.pY).append (CR.mw h2)
  ·obtain ⟨u,us,F1,F2,rfl,rfl,h1,h2⟩:=(CR.fl hx).1 h;rw [fH hx];exact ⟨u,us,F1,F2,rfl,rfl,h1,CR.mw h2⟩
theorem CR.length {l:List V} {F:List Nat} {vs:List Value} (h:CR P I μ w F l vs):vs.length=(flat l).length:=h.mw.length
theorem CR.x4:∀ {l:List V} {F:List Nat} {vs:List Value},dx l=false->OXL P I μ w F l vs->CR P I μ w F l vs
 | [],F,_,_,h=>CR.fP.2 h
 | x::t,F,vs,hs,h=>by
  obtain ⟨u,us,F1,F2,rfl,rfl,h1,h2⟩:=h;have hx:x.seals=none:=by
   rcases gg x with ⟨o,c,rfl⟩ | hx
   ·rw [xq] at hs;cases hs
   ·exact hx
  have ht:dx t=false:=by rw [<- hs,pv hx]
  exact (CR.fl hx).2 ⟨u,us,F1,F2,rfl,rfl,h1,CR.x4 ht h2⟩
theorem CR.of {l:List V} {vs:List Value} (h:V.RL P I μ w l vs):CR P I μ w [] l vs:=CR.x4 (GM h) (Di h)
theorem OX.keep {X:Nat->Prop} (hE:cO I w w' X) (hI:Sub I I') (hM:dE μ μ') {F:List Nat} {c:V} {u:Value} (hX:∀k∈F,¬X k) (h:OX P I μ w F c u):OX P I' μ' w' F c u:=by
 unfold OX at h ⊢;cases hc:c.isO with
 | true=>rw [hc] at h;exact V.O.keep hE hI c F u hX h
 | false=>rw [hc] at h;exact ⟨h.1,h.2.keep hE hI hM⟩
theorem CR.keep {X:Nat->Prop} (hE:cO I w w' X) (hI:Sub I I') (hM:dE μ μ'):∀ {l:List V} {F:List Nat} {vs:List Value},(∀k∈F,¬X k)->CR P I μ w F l vs->CR P I' μ' w' F l vs
 | [],F,_,_,h=>by rw [CR.fP] at h ⊢;exact h
 | x::t,F,vs,hX,h=>by
  rcases gg x with ⟨o,c,rfl⟩ | hx
  ·obtain ⟨us,cM,F1,F2,rfl,rfl,h1,h2⟩:=CR.gC.1 h;exact CR.gC.2 ⟨us,cM,F1,F2,rfl,rfl,h1.keep hE hI (fun k hk=>hX k (by simp [hk])),CR.keep hE hI hM (fun k hk=>hX k (by simp [hk])) h2⟩
  ·obtain ⟨u,us,F1,F2,rfl,rfl,h1,h2⟩:=(CR.fl hx).1 h;exact (CR.fl hx).2 ⟨u,us,F1,F2,rfl,rfl,h1.keep hE hI hM (fun k hk=>hX k (by simp [hk])),CR.keep hE hI hM (fun k hk=>hX k (by simp [hk])) h2⟩
theorem CR.append_iff:∀ {a b:List V} {F:List Nat} {vs:List Value},CR P I μ w F (a++b) vs↔∃F1 F2 us us',vs=us++us'/\F=F1++F2/\CR P I μ w F1 a us/\CR P I μ w F2 b us'
 | [],b,F,vs=>by
  simp only [List.nil_append];constructor
  ·exact fun h=>⟨[],F,[],vs,rfl,rfl,CR.fP.2 ⟨rfl,rfl⟩,h⟩
  ·rintro ⟨F1,F2,us,us',rfl,rfl,h1,h2⟩;obtain ⟨rfl,rfl⟩:=CR.fP.1 h1;exact h2
 | x::t,b,F,vs=>by
  rw [List.cons_append];rcases gg x with ⟨o,c,rfl⟩ | hx
  ·rw [CR.gC];constructor
   ·rintro ⟨us,cM,F1,F2,rfl,rfl,h1,h2⟩;obtain ⟨F3,F4,j2,jv,rfl,rfl,h3,h4⟩:=CR.append_iff.1 h2;exact ⟨F1++F3,F4,us++j2,jv,by simp,by simp,CR.gC.2 ⟨us,j2,F1,F3,rfl,rfl,h1,h3⟩,h4⟩
   ·rintro ⟨F1,F2,us,us',rfl,rfl,h1,h2⟩;obtain ⟨j2,jv,F3,F4,rfl,rfl,h3,h4⟩:=CR.gC.1 h1;exact ⟨j2,jv++us',F3,F4++F2,by simp,by simp,h3,CR.append_iff.2 ⟨F4,F2,jv,us',rfl,rfl,h4,h2⟩⟩
  ·rw [CR.fl hx];constructor
   ·rintro ⟨u,us,F1,F2,rfl,rfl,h1,h2⟩;obtain ⟨F3,F4,j2,jv,rfl,rfl,h3,h4⟩:=CR.append_iff.1 h2;exact ⟨F1++F3,F4,u::j2,jv,rfl,by simp,(CR.fl hx).2 ⟨u,j2,F1,F3,rfl,rfl,h1,h3⟩,h4⟩
   ·rintro ⟨F1,F2,us,us',rfl,rfl,h1,h2⟩;obtain ⟨u,j2,F3,F4,rfl,rfl,h3,h4⟩:=(CR.fl hx).1 h1;exact ⟨u,j2++us',F3,F4++F2,rfl,by simp,h3,CR.append_iff.2 ⟨F4,F2,j2,us',rfl,rfl,h4,h2⟩⟩
theorem CR.append {a b:List V} {F G:List Nat} {va vb:List Value} (h:CR P I μ w F a va) (k:CR P I μ w G b vb):CR P I μ w (F++G) (a++b) (va++vb):=CR.append_iff.2 ⟨F,G,va,vb,rfl,rfl,h,k⟩
theorem gz:∀(a b:List V),flat (a++b)=flat a++flat b
 | [],b=>rfl
 | x::t,b=>by
  rcases gg x with ⟨o,c,rfl⟩ | hx
  ·rw [List.cons_append,iF,iF,gz t b,List.append_assoc]
  ·rw [List.cons_append,fH hx,fH hx,gz t b,List.cons_append]
theorem CR.tq {o:Bool} {c:List V} {F:List Nat} {vs:List Value} (h:OS P I w o F c vs):CR P I μ w F [mkS o c] vs:=CR.gC.2 ⟨vs,[],F,[],by simp,by simp,h,CR.fP.2 ⟨rfl,rfl⟩⟩
theorem CR.yl {c:List V} {vs:List Value} (h:V.RL P I cf w c vs):CR P I μ w [] [.aw c] vs:=CR.tq (o:=false) ⟨rfl,h⟩
def hasO (l:List V):Bool:=l.any fun x=>match x with
 | .cS _=>true
 | .osl _ _ _ _=>true
 | _=>false
theorem CR.Hg:∀ {l:List V} {F:List Nat} {vs:List Value},hasO l=false->CR P I μ w F l vs->F=[]/\V.RL P I μ w (flat l) vs
 | [],F,vs,_,h=>by obtain ⟨rfl,rfl⟩:=CR.fP.1 h;simp [flat,V.RL]
 | x::t,F,vs,ho,h=>by
  unfold hasO at ho;rw [List.any_cons,Bool.or_eq_false_iff] at ho;rcases gg x with ⟨o,c,rfl⟩ | hx
  ·obtain ⟨us,cM,F1,F2,rfl,rfl,h1,h2⟩:=CR.gC.1 h;obtain ⟨rfl,h3⟩:=CR.Hg ho.2 h2;cases o
   ·obtain ⟨rfl,h1⟩:=h1;rw [iF];exact ⟨rfl,(zM h1).append h3⟩
   ·simp [mkS] at ho
  ·obtain ⟨u,us,F1,F2,rfl,rfl,h1,h2⟩:=(CR.fl hx).1 h;obtain ⟨rfl,h3⟩:=CR.Hg ho.2 h2;rw [fH hx];have hn:x.isO=false:=by cases x <;> first | rfl | simp at ho
   obtain ⟨rfl,h4⟩:=h1.plain hn;refine ⟨rfl,?_⟩;simp only [V.RL];exact ⟨u,us,rfl,h4,h3⟩
def iz (P:Program) (I:Nat->Prop) (μ:Mu) (w:World) (F:List Nat) (l:List V) (cs:Array Value):Prop:=
 (flat l).length<=cs.size/\CR P I μ w F l (cs.toList.take (flat l).length)
def mm:TypeId:=4294967291
def MapR (P:Program) (I:Nat->Prop) (w:World):List V->List MapEntry->Prop
 | [],es=>es=[]
 | [_],_=>False
 | k::v::l,es=>∃e es',es=e::es'/\V.R P I cf w k e.key/\V.R P I cf w v e.val/\MapR P I w l es'
theorem MapR.keep {X:Nat->Prop} (hE:cO I w w' X) (hI:Sub I I'):∀ {l:List V} {es:List MapEntry},MapR P I w l es->MapR P I' w' l es
 | [],_,h=>h
 | [_],_,h=>h
 | _::_::l,_,h=>by
  obtain ⟨e,es',h1,h2,h3,h4⟩:=h;exact ⟨e,es',h1,h2.keep hE hI (.refl _),h3.keep hE hI (.refl _),MapR.keep hE hI h4⟩
def Holds (P:Program) (I:Nat->Prop) (μ:Mu) (w:World) (b:Nat) (blk:bM):Prop:=
 (∃g cs fr,μ b=some g/\¬I g/\w.heap[g]?=some (.cells cs blk.2 fr)/\(fr.2<=fr.1\/cs.size<=fr.1)/\iz P I μ w (μ.ft b) blk.1 cs/\(g::μ.ft b).Nodup/\∀k∈μ.ft b,¬I k/\k<w.heap.size) \/
 (μ b=none/\μ.ft b=[]) \/
 (∃g es ck c,μ b=some g/\¬I g/\w.heap[g]?=some (.map es ck)/\blk=([.aw (.cS []::c)],mm)/\MapR P I w c es.toList/\μ.ft b=[])
theorem iz.of {l:List V} {cs:Array Value} (h4:l.length<=cs.size) (h5:V.RL P I μ w l (cs.toList.take l.length)):iz P I μ w [] l cs:=by
 have e:=xh h5;exact ⟨by rw [e];exact h4,by rw [e];exact .of h5⟩
theorem iz.aw {c:List V} {cs:Array Value} (h4:c.length<=cs.size) (h5:V.RL P I cf w c (cs.toList.take c.length)):iz P I μ w [] [.aw c] cs:=by
 have e:flat [.aw c]=c:=by simp [flat]
 exact ⟨by rw [e];exact h4,by rw [e];exact .yl h5⟩
theorem iz.keep {X:Nat->Prop} {F:List Nat} {l:List V} {cs:Array Value} (h:iz P I μ w F l cs) (hX:∀k∈F,¬X k) (hE:cO I w w' X) (hI:Sub I I') (hM:dE μ μ'):iz P I' μ' w' F l cs:=⟨h.1,h.2.keep hE hI hM hX⟩
def eL (T:TypeId):Bool:= !(Nat.beq T mm)
theorem Holds.PG {b g:Nat} {blk:bM} {cs:Array Value} {T:TypeId} {fr:Nat×Nat} (h:Holds P I μ w b blk) (hg:μ b=some g) (hw:w.heap[g]?=some (.cells cs T fr)):∃cs fr,¬I g/\w.heap[g]?=some (.cells cs blk.2 fr)/\(fr.2<=fr.1\/cs.size<=fr.1)/\iz P I μ w (μ.ft b) blk.1 cs/\(g::μ.ft b).Nodup/\∀k∈μ.ft b,¬I k/\k<w.heap.size:=by
 rcases h with ⟨g',cs,fr,h1,h⟩ | ⟨h1,_⟩ | ⟨g',es,ck,c,h1,_,h2,_⟩
 ·rw [hg] at h1;cases h1;exact ⟨cs,fr,h⟩
 ·rw [hg] at h1;cases h1
 ·rw [hg] at h1;cases h1;rw [hw] at h2;cases h2
theorem Holds.mr {b g:Nat} {blk:bM} {s:TypeId×Nat} (h:Holds P I μ w b blk) (hg:μ b=some g) (hw:w.shape? g=some s):∃cs fr,¬I g/\w.heap[g]?=some (.cells cs blk.2 fr)/\(fr.2<=fr.1\/cs.size<=fr.1)/\iz P I μ w (μ.ft b) blk.1 cs/\(g::μ.ft b).Nodup/\∀k∈μ.ft b,¬I k/\k<w.heap.size:=by
 unfold World.shape? at hw;split at hw
 ·rename_i hh;exact h.PG hg hh
 ·cases hw
theorem Holds.real {b g:Nat} {blk:bM} (h:Holds P I μ w b blk) (hT:eL blk.2=true) (hg:μ b=some g):∃cs fr,¬I g/\w.heap[g]?=some (.cells cs blk.2 fr)/\(fr.2<=fr.1\/cs.size<=fr.1)/\iz P I μ w (μ.ft b) blk.1 cs/\(g::μ.ft b).Nodup/\∀k∈μ.ft b,¬I k/\k<w.heap.size:=by
 rcases h with ⟨g',cs,fr,h1,h⟩ | ⟨h1,_⟩ | ⟨g',es,ck,c,h1,_,_,rfl,_⟩
 ·rw [hg] at h1;cases h1;exact ⟨cs,fr,h⟩
 ·rw [hg] at h1;cases h1
 ·simp [eL,mm] at hT
theorem Holds.aD9 {b g:Nat} {blk:bM} (h:Holds P I μ w b blk) (hs:¬dx blk.1=true) (hg:μ b=some g):∃cs fr,¬I g/\w.heap[g]?=some (.cells cs blk.2 fr)/\(fr.2<=fr.1\/cs.size<=fr.1)/\iz P I μ w (μ.ft b) blk.1 cs/\(g::μ.ft b).Nodup/\∀k∈μ.ft b,¬I k/\k<w.heap.size:=by
 rcases h with ⟨g',cs,fr,h1,h⟩ | ⟨h1,_⟩ | ⟨g',es,ck,c,h1,_,_,rfl,_⟩
 ·rw [hg] at h1;cases h1;exact ⟨cs,fr,h⟩
 ·rw [hg] at h1;cases h1
 ·exact absurd (by rfl) hs
theorem Holds.keep {X:Nat->Prop} {b:Nat} {blk:bM} (h:Holds P I μ w b blk) (hE:cO I w w' X) (hI:Sub I I') (hM:dE μ μ') (h0:μ b=none->μ' b=none) (hf:μ'.ft b=μ.ft b) (hX:∀g,μ.own b g->¬X g) (hn:∀g,μ.own b g->¬I' g):Holds P I' μ' w' b blk:=by
 rcases h with ⟨g,cs,fr,h1,_,h2,h3,h4,h5,h6⟩ | ⟨h1,h3⟩ | ⟨g,es,ck,c,h1,_,h2,h3,h4,h5⟩
 ·refine .inl ⟨g,cs,fr,hM _ _ h1,hn g (.inl h1),(hE.block g (Array.getElem?_eq_some_iff.1 h2).1 (hX g (.inl h1))).trans h2,h3,?_,by rw [hf];exact h5,fun k hk => ?_⟩
  ·rw [hf];exact h4.keep (fun k hk=>hX k (.inr hk)) hE hI hM
  ·rw [hf] at hk;exact ⟨hn k (.inr hk),Nat.lt_of_lt_of_le (h6 k hk).2 hE.size⟩
 ·exact .inr (.inl ⟨h0 h1,by rw [hf];exact h3⟩)
 ·exact .inr (.inr ⟨g,es,ck,c,hM _ _ h1,hn g (.inl h1),(hE.block g (Array.getElem?_eq_some_iff.1 h2).1 (hX g (.inl h1))).trans h2,h3,h4.keep hE hI,by rw [hf];exact h5⟩)
theorem Holds.lt {b g:Nat} {blk:bM} (h:Holds P I μ w b blk) (hg:μ.own b g):g<w.heap.size:=by
 rcases h with ⟨g',cs,fr,h1,_,h2,_,_,_,h6⟩ | ⟨h1,h3⟩ | ⟨g',es,ck,c,h1,_,h2,_,_,h3⟩
 ·rcases hg with hg | hg
  ·rw [hg] at h1;cases h1;exact (Array.getElem?_eq_some_iff.1 h2).1
  ·exact (h6 g hg).2
 ·rcases hg with hg | hg
  ·rw [hg] at h1;cases h1
  ·rw [h3] at hg;cases hg
 ·rcases hg with hg | hg
  ·rw [hg] at h1;cases h1;exact (Array.getElem?_eq_some_iff.1 h2).1
  ·rw [h3] at hg;cases hg
theorem Holds.kV {b g:Nat} {blk:bM} (h:Holds P I μ w b blk) (hg:μ.own b g):¬I g:=by
 rcases h with ⟨g',cs,fr,h1,h0,h2,_,_,_,h6⟩ | ⟨h1,h3⟩ | ⟨g',es,ck,c,h1,h0,h2,_,_,h3⟩
 ·rcases hg with hg | hg
  ·rw [hg] at h1;cases h1;exact h0
  ·exact (h6 g hg).1
 ·rcases hg with hg | hg
  ·rw [hg] at h1;cases h1
  ·rw [h3] at hg;cases hg
 ·rcases hg with hg | hg
  ·rw [hg] at h1;cases h1;exact h0
  ·rw [h3] at hg;cases hg
theorem Holds.cell {b:Nat} {blk:bM} (h:Holds P I μ w b blk) (hT:eL blk.2=true) {g:Nat} (hg:μ b=some g) {j:Nat} {c:V} (hj:(flat blk.1)[j]?=some c) (hc:c.isO=false):∃u,w.cell? ⟨g,j,none⟩=some u/\V.R P I μ w c u:=by
 obtain ⟨cs,fr,_,h2,_,⟨h4,h5⟩,_⟩:=h.real hT hg;obtain ⟨u,hu,hr⟩:=h5.mw.get hj hc;rw [List.getElem?_take] at hu;split at hu
 ·exact ⟨u,by simpa [World.cell?,h2] using hu,hr⟩
 ·cases hu
def V.one:V->Bool
 | .agg _ | .tup _ | .cw | .aw _ | .cS _ | .osl _ _ _ _=>false
 | .lit v=>v.oneCell'
 | _=>true
theorem V.one_cell {c:V} {v:Value} (h:V.R P I μ w c v) (h1:c.one=true):v.oneCell'=true/\v.cells = #[v]:=by
 cases c <;> simp only [V.one,Bool.false_eq_true] at h1 <;> simp only [V.R] at h
 all_goals (first
  | (subst h;exact ⟨rfl,rfl⟩)
  | (obtain ⟨g,_,rfl⟩:=h;exact ⟨rfl,rfl⟩)
  | (rcases h with ⟨g,cap,e,N,i,_,rfl,_⟩ | ⟨_,_,a,rfl,_⟩ <;> exact ⟨rfl,rfl⟩)
  | (obtain ⟨a,cap,rfl,_⟩:=h;exact ⟨rfl,rfl⟩)
  | (obtain ⟨g,off,rfl,_⟩:=h;exact ⟨rfl,rfl⟩)
  | (obtain ⟨vs,rfl,_⟩:=h;exact ⟨rfl,rfl⟩)
  | (rename_i k _;obtain ⟨vs,rfl,_⟩:=h;cases k <;> first | exact ⟨rfl,rfl⟩ | (simp only [BK.mk];split <;> exact ⟨rfl,rfl⟩))
  | (subst h;refine ⟨h1,?_⟩;cases v <;> simp_all [Value.oneCell',Value.cells]))
mutual
theorem zO:∀(v:V) (u:Value),v.refs=[]->V.R P I μ w v u->V.R P I cf w v u
 | .int _ _,_,_,h=>by simpa only [V.R] using h
 | .bool _,_,_,h=>by simpa only [V.R] using h
 | .str _,_,_,h=>by simpa only [V.R] using h
 | .jJ,_,_,h=>by simpa only [V.R] using h
 | .ptr _ _,_,hr,_=>by simp [V.refs] at hr
 | .sl _ _ _ _,_,hr,_=>by simp [V.refs] at hr
 | .dsl _ _ _,_,_,h=>by simpa only [V.R] using h
 | .dptr _,_,_,h=>by simpa only [V.R] using h
 | .eptr _ _ _,_,hr,_=>by simp [V.refs] at hr
 | .osl _ _ _ _,_,_,h=>by simp [V.R] at h
 | .aw _,_,_,h=>by simp [V.R] at h
 | .cS _,_,_,h=>by simp [V.R] at h
 | .agg cs,_,hr,h=>by
  simp only [V.refs] at hr
  simp only [V.R] at h ⊢
  obtain ⟨vs,h1,h2⟩:=h
  exact ⟨vs,h1,wO cs _ hr h2⟩
 | .tup cs,_,hr,h=>by
  simp only [V.refs] at hr
  simp only [V.R] at h ⊢
  obtain ⟨vs,h1,h2⟩:=h
  exact ⟨vs,h1,wO cs _ hr h2⟩
 | .fn _ cs,_,hr,h=>by
  simp only [V.refs] at hr
  simp only [V.R] at h ⊢
  obtain ⟨vs,h1,h2⟩:=h
  exact ⟨vs,h1,wO cs _ hr h2⟩
 | .box _ cs,_,hr,h=>by
  simp only [V.refs] at hr
  simp only [V.R] at h ⊢
  obtain ⟨vs,h1,h2⟩:=h
  exact ⟨vs,h1,wO cs _ hr h2⟩
 | .kU,_,_,h=>by simpa only [V.R] using h
 | .lit _,_,_,h=>by simpa only [V.R] using h
 | .cw,_,_,_=>by simp [V.R]
theorem wO:∀(cs:List V) (us:List Value),V.refsL cs=[]->V.RL P I μ w cs us->V.RL P I cf w cs us
 | [],_,_,h=>by simpa only [V.RL] using h
 | c::cs,_,hr,h=>by
  simp only [V.refsL,List.append_eq_nil_iff] at hr
  simp only [V.RL] at h ⊢
  obtain ⟨u,us',h1,h2,h3⟩:=h
  exact ⟨u,us',h1,zO c u hr.1 h2,wO cs us' hr.2 h3⟩
end
theorem CR.GO:∀ {l:List V} {F:List Nat} {vs:List Value},V.refsL l=[]->CR P I μ w F l vs->V.OL P I w F (flat l) vs
 | [],F,_,_,h=>lT.2 (CR.fP.1 h)
 | x::t,F,vs,hr,h=>by
  simp only [V.refsL,List.append_eq_nil_iff] at hr;rcases gg x with ⟨o,c,rfl⟩ | hx
  ·obtain ⟨us,cM,F1,F2,rfl,rfl,h1,h2⟩:=CR.gC.1 h;rw [iF];exact h1.pY.append (CR.GO hr.2 h2)
  ·obtain ⟨u,us,F1,F2,rfl,rfl,h1,h2⟩:=(CR.fl hx).1 h;rw [fH hx];refine mD.2 ⟨u,us,F1,F2,rfl,rfl,?_,CR.GO hr.2 h2⟩;unfold OX at h1;cases hc:x.isO with
   | true=>rwa [hc] at h1
   | false=>rw [hc] at h1;exact (uc hc).2 ⟨h1.1,zO _ _ hr.1 h1.2⟩
theorem CR.Bp:∀ {l:List V} {F:List Nat} {vs:List Value},V.refsL l=[]->hasO l=false->CR P I μ w F l vs->F=[]/\V.RL P I cf w (flat l) vs
 | [],F,vs,_,_,h=>by obtain ⟨rfl,rfl⟩:=CR.fP.1 h;simp [flat,V.RL]
 | x::t,F,vs,hr,ho,h=>by
  simp only [V.refsL,List.append_eq_nil_iff] at hr;unfold hasO at ho;rw [List.any_cons,Bool.or_eq_false_iff] at ho;rcases gg x with ⟨o,c,rfl⟩ | hx
  ·obtain ⟨us,cM,F1,F2,rfl,rfl,h1,h2⟩:=CR.gC.1 h;obtain ⟨rfl,h3⟩:=CR.Bp hr.2 ho.2 h2;cases o
   ·obtain ⟨rfl,h1⟩:=h1;rw [iF];exact ⟨rfl,h1.append h3⟩
   ·simp [mkS] at ho
  ·obtain ⟨u,us,F1,F2,rfl,rfl,h1,h2⟩:=(CR.fl hx).1 h;obtain ⟨rfl,h3⟩:=CR.Bp hr.2 ho.2 h2;rw [fH hx];have hn:x.isO=false:=by cases x <;> first | rfl | simp at ho
   obtain ⟨rfl,h4⟩:=h1.plain hn;refine ⟨rfl,?_⟩;simp only [V.RL];exact ⟨u,us,rfl,zO _ _ hr.1 h4,h3⟩
theorem CR.N2 {l:List V} {F:List Nat} {vs:List Value} (hr:V.refsL l=[]) (h:CR P I μ w F l vs):OS P I w (hasO l) F (flat l) vs:=by
 cases ho:hasO l with
 | true=>exact h.GO hr
 | false=>exact h.Bp hr ho
theorem OS.split {o:Bool} {F:List Nat} {l:List V} {vs:List Value} (h:OS P I w o F l vs) (n:Nat):∃F1 F2,F=F1++F2/\OS P I w o F1 (l.take n) (vs.take n)/\OS P I w o F2 (l.drop n) (vs.drop n):=by
 cases o
 ·obtain ⟨rfl,h⟩:=h;exact ⟨[],[],rfl,⟨rfl,h.take n⟩,⟨rfl,h.drop n⟩⟩
 ·exact V.OL.split h n
theorem zP (v:Value):V.R P I μ w (ofScalar v) v:=by
 unfold ofScalar;split <;> simp only [V.R];exact ⟨none,0,rfl,Nat.le_refl _,fun _=>rfl,.inl ⟨rfl,rfl⟩,.inl trivial⟩
theorem zL:∀(l:List Value),V.RL P I μ w (l.map ofScalar) l
 | []=>by simp [V.RL]
 | v::l=>by simp only [List.map_cons,V.RL];exact ⟨v,l,rfl,zP v,zL l⟩
theorem Jp (v:Value):V.R P I μ w (ofValue v) v:=by
 unfold ofValue;split
 ·simp only [V.R];exact ⟨_,rfl,zL _⟩
 ·exact zP v
end
abbrev aa (n:Int):V:= .int .i64 n
structure Out where
 v:V
 hp:Hp
 acc:List Nat
 wr:List Nat
def kx:TypeDesc->Bool
 | .struct _ | .array _ _=>true
 | _=>false
def dA (P:Program) (t:TypeId):Option Nat:=(P.info? t).map (·.size)
def cellsV:V->List V
 | .agg cs=>cs
 | c=>[c]
def V.flat:V->Bool
 | .agg _=>true
 | c=>c.one
def offs {α:Type} (base rel:Nat) (k:Nat->α):α:=match rel with
 | 0=>k base
 | r+1=>k (base+(r+1))
theorem pS {α:Type} (base rel:Nat) (k:Nat->α):offs base rel k=k (base+rel):=by cases rel <;> rfl
def V.asPtr:V->V
 | .eptr b base rel=>offs base rel fun o=> .ptr b o
 | v=>v
def jK (l:List V):Bool:=l.all fun c=> !c.isO
def evLoad (P:Program) (hp:Hp) (t:TypeId) (x:V):Option Out:=match x.asPtr with
 | .ptr b off=>
  match hp[b]?,P.underlying t,dA P t with
  | some (some blk),some d,some s=>
   match kx d with
   | true=>if (((flat blk.1).drop off).take s).length=s/\((!hasO blk.1||jK (((flat blk.1).drop off).take s))&&eL blk.2)=true then some ⟨.agg (((flat blk.1).drop off).take s),hp,[b],[]⟩ else none
   | false=>match (flat blk.1)[off]? with
    | some c=>match c.isO||Nat.beq blk.2 mm with
     | false=>some ⟨c,hp,[b],[]⟩
     | true=>none
    | none=>none
  | _,_,_=>none
 | .dptr cs=>
  match P.underlying t,dA P t with
  | some d,some s=>
   match kx d with
   | true=>if (cs.take s).length=s then some ⟨.agg (cs.take s),hp,[],[]⟩ else none
   | false=>match cs with
    | c::_=>some ⟨c,hp,[],[]⟩
    | []=>none
  | _,_=>none
 | _=>none
def spliceV (l:List V) (off s:Nat) (new:List V):Option (List V):=
 match dx l with
 | false=>some (l.take off++new++l.drop (off+s))
 | true=>match V.refsL l with
  | []=>some (mkS (hasO l) ((flat l).take off)::(new++[mkS (hasO l) ((flat l).drop (off+s))]))
  | _=>none
def evStore (P:Program) (hp:Hp) (t:TypeId) (x y:V):Option Out:=
 match x.asPtr with
 | .ptr b off=>
  match hp[b]?,dA P t with
  | some (some blk),some s=>
   if y.flat=true/\(cellsV y).length=s/\(cellsV y).all V.one=true/\off+s<=(flat blk.1).length/\eL blk.2=true then
    match spliceV blk.1 off s (cellsV y) with
    | some l=>some ⟨.cw,hp.set b (some (l,blk.2)),[b],[b]⟩
    | none=>none
   else none
  | _,_=>none
 | _=>none
def ofScalarN (v:Value):V:=match v with
 | .slice none 0 0=> .lit (.slice none 0 0)
 | v=>ofScalar v
def zcells (P:Program) (t:TypeId) (z:Array Value):List V:=match dA P t with
 | some s=>match Nat.ble 65 s with
  | true=>z.toList.map ofScalarN
  | false=>z.toList.map ofScalar
 | none=>z.toList.map ofScalar
def evAlloc (P:Program) (hp:Hp) (t:TypeId):Option Out:=
 match (P.info? t).bind (·.zero) with
 | some z=>some ⟨.ptr hp.length 0,hp++[some (zcells P t z.cells,t)],[],[]⟩
 | none=>none
def Ag (hp:Hp) (t:TypeId) (x:V):Option Out:=
 if x.flat=true then some ⟨.ptr hp.length 0,hp++[some (cellsV x,t)],[],[]⟩ else none
def fillV (place:Nat->Option (Nat×Nat)) (cells:List V):List (Nat×V)->Option (List V)
 | []=>some cells
 | (i,x)::rest=>
  match place i with
  | none=>none
  | some (off,size)=>
   if x.flat=true/\(cellsV x).length=size/\off+size<=cells.length then fillV place (cells.take off++cellsV x++cells.drop (off+size)) rest
   else none
def evBuild (P:Program) (hp:Hp) (t:TypeId) (ps:List (Nat×V)):Option Out:=
 match P.info? t,P.underlying t with
 | some it,some (.struct fields)=>
  match it.zero,fields.toList.mapM (fun f=>(P.info? f.type).map fun i=>(f.offset,i.size)) with
  | some z,some tc=>
   match fillV (tc[·]?) (zcells P t z.cells) ps with
   | some cells=>some ⟨.agg cells,hp,[],[]⟩
   | none=>none
  | _,_=>none
 | _,_=>none
def iy (z:List V) (n:Nat):List V:=(List.range n).map fun i=>z.getD (i % z.length) .cw
def evBuildSlice (P:Program) (hp:Hp) (t:TypeId) (n:Nat) (ps:List (Nat×V)):Option Out:=
 match P.underlying t with
 | some (.slice elem)=>
  match P.info? elem with
  | some i=>
   match i.zero with
   | some z=>
    if n*i.size<=16777216/\0<i.size/\z.cells.size=i.size then
     match fillV (fun k=>some (k*i.size,i.size)) (iy (z.cells.toList.map ofScalar) (n*i.size)) ps with
     | some cells=>some ⟨.sl hp.length 0 n true,hp++[some (cells,elem)],[],[]⟩
     | none=>none
    else none
   | none=>none
  | none=>none
 | _=>none
def evMakeSlice (P:Program) (hp:Hp) (t:TypeId):V->V->Option Out
 | .int _ l,.int _ c=>
  match P.underlying t with
  | some (.slice elem)=>
   match P.info? elem with
   | some i=>
    match i.zero with
    | some z=>
     if 0<=l/\l<=c/\c<=1048576/\i.bytes<=1048576/\0<i.size/\z.cells.size=i.size then
      some ⟨.sl hp.length 0 l.toNat (l==c),hp++[some ([.aw (iy (z.cells.toList.map ofScalar) (c.toNat*i.size))],elem)],[],[]⟩
     else none
    | none=>none
   | none=>none
  | _=>none
 | _,_=>none
def fX (l:List V) (off k:Nat):List V:=if off=0/\(flat l).length=k then l else ((flat l).drop off).take k
def srcV (hp:Hp) (size:Nat):V->Option (List Nat×Nat×List V)
 | .sl b off m _=>
  match hp[b]? with
  | some (some blk)=>if (((flat blk.1).drop off).take (m*size)).length=m*size/\(((flat blk.1).drop off).take (m*size)).all V.one=true then some ([b],m,fX blk.1 off (m*size)) else none
  | _=>none
 | .dsl m _ cs=>if (cs.take (m*size)).length=m*size/\(cs.take (m*size)).all V.one=true then some ([],m,[.aw (cs.take (m*size))]) else none
 | _=>none
def evAppend (P:Program) (hp:Hp) (t t':TypeId) (s x:V):Option Out:=
 match P.underlying t with
 | some (.slice elem)=>
  match P.info? elem with
  | some i=>
   match i.zero,t==t' with
   | some z,true=>
    if 0<i.size/\z.cells.size=i.size then
     match srcV hp i.size x with
     | some (bs,m,news)=>
      match s with
      | .sl b off n full=>
        match hp[b]? with
        | some (some blk)=>
         if (((flat blk.1).drop off).take (n*i.size)).length=n*i.size/\n+m<=maxLen/\(n+m)*i.bytes<=140737488355328/\blk.2=elem/\off=0 then
          some ⟨.sl hp.length 0 (n+m) false,hp.set b none++[some (fX blk.1 0 (n*i.size)++news,elem)],b::bs,[b]⟩
         else none
        | _=>none
      | .dsl n full cs=>
       match m with
       | 0=>some ⟨.dsl n full cs,hp,bs,[]⟩
       | _+1=>if full=true/\(cs.take (n*i.size)).length=n*i.size/\n+m<=maxLen/\(n+m)*i.bytes<=140737488355328 then
         some ⟨.sl hp.length 0 (n+m) false,hp++[some (.aw (cs.take (n*i.size))::news,elem)],bs,[]⟩ else none
      | _=>none
     | none=>none
    else none
   | _,_=>none
  | none=>none
 | _=>none
def evLen (P:Program) (hp:Hp) (t:TypeId):V->Option Out
 | .str l=>match P.underlying t with
  | some .string=>some ⟨.int .i64 l.length,hp,[],[]⟩
  | _=>none
 | .sl _ _ n _=>match P.underlying t with
  | some (.slice _)=>some ⟨.int .i64 n,hp,[],[]⟩
  | _=>none
 | .dsl n _ _=>match P.underlying t with
  | some (.slice _)=>some ⟨.int .i64 n,hp,[],[]⟩
  | _=>none
 | _=>none
def flatEq (P:Program) (f:Field) (x y:V):Option Bool:=
 match P.underlying f.type,x,y with
 | some (.int _),.int k a,.int k' b=>if k=k' then some (a==b) else none
 | some .bool,.bool a,.bool b=>some (a==b)
 | some .string,.str a,.str b=>some (a==b)
 | _,_,_=>none
def flatEqs (P:Program) (xs ys:List V):List Field->Option Bool
 | []=>some true
 | f::fs=>
  if f.name = "_" then none else
  match xs[f.offset]?,ys[f.offset]? with
  | some x,some y=>
   match flatEq P f x y with
   | some true=>flatEqs P xs ys fs
   | some false=>some false
   | none=>none
  | _,_=>none
def evCmp (op:BinOp) (a b:Int):Option V:=
 match op with
 | .eql=>some (.bool (a==b))
 | .neq=>some (.bool (a != b))
 | .lss=>some (.bool (decide (a<b)))
 | .leq=>some (.bool (decide (a<=b)))
 | .gtr=>some (.bool (decide (a>b)))
 | .geq=>some (.bool (decide (a>=b)))
 | _=>none
def evStr (op:BinOp) (a b:List UInt8):Option V:=
 match op with
 | .add=>if a.length+b.length<=4611686018427387904 then some (.str (a++b)) else none
 | .eql=>some (.bool (a==b))
 | .neq=>some (.bool !(a==b))
 | .lss=>some (.bool (Op.bytesLess a b))
 | .leq=>some (.bool (Op.bytesLess a b||a==b))
 | .gtr=>some (.bool !(Op.bytesLess a b||a==b))
 | .geq=>some (.bool !(Op.bytesLess a b))
 | _=>none
def evInt (op:BinOp) (k:IntKind) (a b:Int):Option V:=
 match op with
 | .add=>some (.int k (k.wrap (a+b)))
 | .sub=>some (.int k (k.wrap (a - b)))
 | .mul=>some (.int k (k.wrap (a*b)))
 | .quo=>if b=0 then none else some (.int k (k.wrap (a.tdiv b)))
 | .rem=>if b=0 then none else some (.int k (a.tmod b))
 | op=>evCmp op a b
def evBin (P:Program) (op:BinOp) (t:TypeId):V->V->Option V
 | .int k a,.int k' b=>if k=k' then evInt op k a b else none
 | .str a,.str b=>evStr op a b
 | .bool a,.bool b=>match P.underlying t,op with
  | some .bool,.eql=>some (.bool (a==b))
  | some .bool,.neq=>some (.bool (!(a==b)))
  | _,_=>none
 | .agg xs,.agg ys=>match P.underlying t,P.stoodInHeld t,P.eqGuardType P.depth t,op with
  | some (.struct fs),false,false,.eql=>(flatEqs P xs ys fs.toList).map fun r=> .bool r
  | some (.struct fs),false,false,.neq=>(flatEqs P xs ys fs.toList).map fun r=> .bool (!r)
  | _,_,_,_=>none
 | _,_=>none
def evUn (op:UnOp):V->Option V
 | .int k n=>match op with
  | .neg=>some (.int k (k.wrap (0 - n)))
  | _=>none
 | .bool b=>match op with
  | .not=>some (.bool (!b))
  | _=>none
 | _=>none
def bytesV:List V->Option (List UInt8)
 | []=>some []
 | .int .u8 n::cs=>if 0<=n/\n<256 then (bytesV cs).map (UInt8.ofNat n.toNat :: ·) else none
 | _=>none
def evConv (P:Program) (hp:Hp) (s d:TypeId):V->Option Out
 | .int _ n=>match P.underlying s,P.underlying d with
  | some (.int _),some (.int k)=>some ⟨.int k (k.wrap n),hp,[],[]⟩
  | _,_=>none
 | .str l=>match P.underlying s,P.underlying d with
  | some .string,some .string=>some ⟨.str l,hp,[],[]⟩
  | some .string,some (.slice e)=>match P.underlying e,P.info? e with
   | some (.int .u8),some i=>if l.length<=maxLen/\i.size=1 then some ⟨.sl hp.length 0 l.length false,hp++[some ([.aw (l.map fun b=>V.int .u8 b.toNat)],e)],[],[]⟩ else none
   | _,_=>none
  | _,_=>none
 | .sl b off n _=>match P.underlying s,P.underlying d with
  | some (.slice e),some .string=>match P.underlying e,hp[b]? with
   | some (.int .u8),some (some blk)=>
    if (((flat blk.1).drop off).take n).length=n then
     match bytesV (((flat blk.1).drop off).take n) with
     | some l=>some ⟨.str l,hp,[b],[]⟩
     | none=>none
    else none
   | _,_=>none
  | _,_=>none
 | .dsl n _ cs=>match P.underlying s,P.underlying d with
  | some (.slice e),some .string=>match P.underlying e with
   | some (.int .u8)=>
    if (cs.take n).length=n then
     match bytesV (cs.take n) with
     | some l=>some ⟨.str l,hp,[],[]⟩
     | none=>none
    else none
   | _=>none
  | _,_=>none
 | _=>none
def evBound (x:Option V) (jb lim:Nat):Option Nat:=
 match x with
 | none=>some jb
 | some (.int _ i)=>if 0<=i/\i<=lim then some i.toNat else none
 | _=>none
def evSlice (P:Program) (hp:Hp) (t:TypeId) (x:V) (lo hi mx:Option V):Option Out:=
 match x,mx with
 | .str l,none=>
  match P.underlying t,evBound hi l.length l.length with
  | some .string,some h=>match evBound lo 0 h with
   | some k=>some ⟨.str ((l.take h).drop k),hp,[],[]⟩
   | none=>none
  | _,_=>none
 | .sl b off n full,none=>
  match P.underlying t,evBound hi n n,hp[b]? with
  | some (.slice e),some h,some (some blk)=>match evBound lo 0 h,dA P e,blk.2==e with
   | some k,some s,true=>
    match lo with
    | none=>some ⟨.sl b off h (full&&h==n),hp,[b],[]⟩
    | some _=>if k<h then some ⟨.sl b (off+k*s) (h - k) (full&&h==n),hp,[b],[]⟩ else some ⟨.dsl 0 (full&&h==n) [],hp,[b],[]⟩
   | _,_,_=>none
  | _,_,_=>none
 | .sl b off n _,some m=>
  match P.underlying t,evBound (some m) 0 n,hi,hp[b]? with
  | some (.slice e),some m,some hi,some (some blk)=>match evBound (some hi) 0 m with
   | some h=>match evBound lo 0 h,dA P e,blk.2==e with
    | some k,some s,true=>
     if k=h then some ⟨.dsl 0 (m==h) [],hp,[b],[]⟩
     else some ⟨.sl b (off+k*s) (h - k) (m==h),hp,[b],[]⟩
    | _,_,_=>none
   | none=>none
  | _,_,_,_=>none
 | .dsl n full cs,none=>
  match P.underlying t,evBound hi n n with
  | some (.slice e),some h=>match evBound lo 0 h,dA P e with
   | some k,some s=>some ⟨.dsl (h - k) (full&&h==n) ((cs.take (h*s)).drop (k*s)),hp,[],[]⟩
   | _,_=>none
  | _,_=>none
 | .dsl n _ cs,some m=>
  match P.underlying t,evBound (some m) 0 n,hi with
  | some (.slice e),some m,some hi=>match evBound (some hi) 0 m with
   | some h=>match evBound lo 0 h,dA P e with
    | some k,some s=>some ⟨.dsl (h - k) (m==h) ((cs.take (h*s)).drop (k*s)),hp,[],[]⟩
    | _,_=>none
   | none=>none
  | _,_,_=>none
 | _,_=>none
def fieldOf (P:Program) (t:TypeId) (f:Nat):Option Field:=
 match P.underlying t with
 | some (.struct fields)=>fields[f]?
 | _=>none
def Hc (P:Program) (t:TypeId) (cs:List V) (off:Nat):Option V:=
 match P.underlying t,dA P t with
 | some d,some s=>match kx d with
  | true=>some (.agg ((cs.drop off).take s))
  | false=>cs[off]?
 | _,_=>none
def evIndex (P:Program) (t:TypeId):V->V->Option V
 | .str l,.int _ i=>match P.underlying t with
  | some .string=>if 0<=i then (l[i.toNat]?).map fun b=> .int .u8 b.toNat else none
  | _=>none
 | _,_=>none
def KN:V->V->Option V
 | .int k a,.int _ b=>some (.int k (if b<a then b else a))
 | _,_=>none
def KM:V->V->Option V
 | .int k a,.int _ b=>some (.int k (if b>a then b else a))
 | _,_=>none
def evPlain (P:Program) (e:Operand->V) (hp:Hp):Op->Option Out
 | .move x=>some ⟨e x,hp,[],[]⟩
 | .assign x=>some ⟨e x,hp,[],[]⟩
 | .pick c a b=>match e c with
  | .bool t=>some ⟨if t then e a else e b,hp,[],[]⟩
  | _=>none
 | .alloc t=>evAlloc P hp t
 | .box t x=>Ag hp t (e x)
 | .build t ps=>evBuild P hp t (ps.toList.map fun p=>(p.1,e p.2))
 | .buildSlice t n ps=>evBuildSlice P hp t n (ps.toList.map fun p=>(p.1,e p.2))
 | .load t x=>evLoad P hp t (e x)
 | .store t x y=>evStore P hp t (e x) (e y)
 | .nilCheck x=>match e x with
  | .ptr b off=>some ⟨.ptr b off,hp,[],[]⟩
  | .dptr cs=>some ⟨.dptr cs,hp,[],[]⟩
  | .eptr b base rel=>some ⟨.eptr b base rel,hp,[],[]⟩
  | _=>none
 | .binOp op t x y _=>(evBin P op t (e x) (e y)).map fun v=>⟨v,hp,[],[]⟩
 | .unOp op _ x=>(evUn op (e x)).map fun v=>⟨v,hp,[],[]⟩
 | .convert s d x=>evConv P hp s d (e x)
 | .makeFunc (.func f) first cap=>match first.toList with
  | []=>some ⟨.fn f (cap.toList.map e),hp,[],[]⟩
  | _=>none
 | .makeSlice t l c=>evMakeSlice P hp t (e l) (e c)
 | .slice t x lo hi mx=>evSlice P hp t (e x) (lo.map e) (hi.map e) (mx.map e)
 | .fieldAddr t x f=>match e x,fieldOf P t f with
  | .ptr b off,some fd=>match dA P fd.type with
   | some (_+1)=>some ⟨.ptr b (off+fd.offset),hp,[],[]⟩
   | _=>none
  | .dptr cs,some fd=>match dA P fd.type with
   | some (_+1)=>some ⟨.dptr (cs.drop fd.offset),hp,[],[]⟩
   | _=>none
  | .eptr b base rel,some fd=>match dA P fd.type with
   | some (_+1)=>some ⟨.eptr b base (rel+fd.offset),hp,[],[]⟩
   | _=>none
  | _,_=>none
 | .field t x f=>match e x,fieldOf P t f with
  | .agg cs,some fd=>(Hc P fd.type cs fd.offset).map fun v=>⟨v,hp,[],[]⟩
  | _,_=>none
 | .indexAddr t x i=>match e x,e i,P.underlying t with
  | .sl b off n _,.int _ i,some (.slice el)=>match dA P el with
   | some s=>if 0<=i/\i<n then some ⟨.eptr b (off+i.toNat*s) 0,hp,[],[]⟩ else none
   | none=>none
  | .dsl n _ cs,.int _ i,some (.slice el)=>match dA P el with
   | some s=>if 0<=i/\i<n then some ⟨.dptr (cs.drop (i.toNat*s)),hp,[],[]⟩ else none
   | none=>none
  | _,_,_=>none
 | .index t x i=>(evIndex P t (e x) (e i)).map fun v=>⟨v,hp,[],[]⟩
 | .extract x i=>match e x with
  | .tup vs=>(vs[i]?).map fun v=>⟨v,hp,[],[]⟩
  | _=>none
 | .call c=>match c.callee,c.args.toList,c.argTypes.toList with
  | .builtin .append,[s,x],[t,t']=>evAppend P hp t t' (e s) (e x)
  | .builtin .len,[x],[t]=>evLen P hp t (e x)
  | .builtin .min,[x,y],_=>(KN (e x) (e y)).map fun v=>⟨v,hp,[],[]⟩
  | .builtin .max,[x,y],_=>(KM (e x) (e y)).map fun v=>⟨v,hp,[],[]⟩
  | _,_,_=>none
 | _=>none
structure cV (P:Program) (I:Nat->Prop) (μ:Mu) (w:World) (hp:Hp) (acc:List Nat) (top:Nat):Prop where
 dB:lS P I w
 holds:∀b∈acc,∀blk,hp[b]?=some (some blk)->Holds P I μ w b blk
 inj:∀b∈acc,∀c∈acc,∀blk bG g,b≠c->hp[b]?=some (some blk)->hp[c]?=some (some bG)->μ.own b g->μ.own c g->False
 fresh:∀b,hp.length<=b->b<top->μ b=none
structure Good (P:Program) (I I':Nat->Prop) (μ μ':Mu) (w w':World) (hp dH:Hp) (acc wr:List Nat):Prop where
 dI:Sub I I'
 eY:∀k,I' k->I k\/(w.heap.size<=k/\k<w'.heap.size)\/∃c∈wr,μ.own c k/\∃blk,hp[c]?=some (some blk)
 cJ:cO I w w' (fun k=>∃b∈wr,μ.own b k)
 le:dE μ μ'
 cP:∀b g,μ' b=some g->μ b=some g\/(hp.length<=b/\b<dH.length)
 dj:∀b,b∉wr->¬(hp.length<=b/\b<dH.length)->μ'.ft b=μ.ft b
 holds:∀b,(b∈acc\/hp.length<=b)->∀blk,dH[b]?=some (some blk)->Holds P I' μ' w' b blk
 er:∀b,(hp.length<=b\/b∈wr)->∀blk,dH[b]?=some (some blk)->∀g,μ'.own b g->w.heap.size<=g\/∃c∈wr,μ.own c g/\∃blk,hp[c]?=some (some blk)
 inj:∀b c blk bG g,b≠c->(b∈acc\/hp.length<=b)->(c∈acc\/hp.length<=c)->dH[b]?=some (some blk)->dH[c]?=some (some bG)->μ'.own b g->μ'.own c g->False
structure Tidy (hp dH:Hp) (acc wr:List Nat):Prop where
 len:hp.length<=dH.length
 frame:∀b,b<hp.length->b∉wr->dH[b]?=hp[b]?
 lj:∀b∈wr,b∈acc
 jx:∀b∈acc,b<hp.length
 lh:∀b∈wr,∃blk,hp[b]?=some (some blk)
section
variable {P:Program} {I:Nat->Prop} {μ μ':Mu} {w w':World} {hp:Hp} {out:Out}
theorem Good.same {acc:List Nat} (hp:Hp) (pre:cV P I μ w hp acc hp.length):Good P I I μ μ w w hp hp acc []:=by
 refine ⟨.refl _,fun _ h=> .inl h,.refl _ _,.refl _,fun b g h=> .inl h,fun _ _ _=>rfl,fun b hb blk bz => ?_,fun b hb blk bz => ?_,fun b c blk bG g bc hb hc h1 h2 => ?_⟩
 ·rcases hb with hb | hb
  ·exact pre.holds b hb blk bz
  ·rw [List.getElem?_eq_none hb] at bz;cases bz
 ·rcases hb with hb | hb
  ·rw [List.getElem?_eq_none hb] at bz;cases bz
  ·cases hb
 ·rcases hb with hb | hb
  ·rcases hc with hc | hc
   ·exact pre.inj b hb c hc blk bG g bc h1 h2
   ·rw [List.getElem?_eq_none hc] at h2;cases h2
  ·rw [List.getElem?_eq_none hb] at h1;cases h1
def Mu.put (μ:Mu) (b g:Nat) (F:List Nat):Mu:=⟨fun c=>if c=b then some g else μ c,fun c=>if c=b then F else μ.ft c⟩
def Mu.eQ (μ:Mu) (b:Nat) (F:List Nat):Mu:=⟨μ.nm,fun c=>if c=b then F else μ.ft c⟩
theorem Mu.kX (μ:Mu) (b g:Nat) (F:List Nat):μ.put b g F b=some g:=by simp [Mu.put]
theorem Mu.qZ (μ:Mu) {b c:Nat} (g:Nat) (F:List Nat) (h:c≠b):μ.put b g F c=μ c:=by simp [Mu.put,h]
theorem Mu.oB (μ:Mu) (b g:Nat) (F:List Nat):(μ.put b g F).ft b=F:=by simp [Mu.put]
theorem Mu.tf (μ:Mu) {b c:Nat} (g:Nat) (F:List Nat) (h:c≠b):(μ.put b g F).ft c=μ.ft c:=by simp [Mu.put,h]
theorem Mu.gD (μ:Mu) (b:Nat) (F:List Nat):(μ.eQ b F).ft b=F:=by simp [Mu.eQ]
theorem Mu.kA (μ:Mu) {b c:Nat} (F:List Nat) (h:c≠b):(μ.eQ b F).ft c=μ.ft c:=by simp [Mu.eQ,h]
theorem Mu.vJ (μ:Mu) {b c g k:Nat} {F:List Nat} (h:c≠b) (hk:(μ.put b g F).own c k):μ.own c k:=by
 rcases hk with hk | hk
 ·rw [Mu.qZ _ _ _ h] at hk;exact .inl hk
 ·rw [Mu.tf _ _ _ h] at hk;exact .inr hk
theorem Mu.ta (μ:Mu) {b g k:Nat} {F:List Nat} (hk:(μ.put b g F).own b k):k=g\/k∈F:=by
 rcases hk with hk | hk
 ·rw [Mu.kX] at hk;cases hk;exact .inl rfl
 ·rw [Mu.oB] at hk;exact .inr hk
theorem Mu.Hh {b g:Nat} {F:List Nat} (h:μ b=none):dE μ (μ.put b g F):=fun c g' hc=>by
 rw [Mu.qZ];exact hc;rintro rfl;rw [h] at hc;cases hc
theorem Mu.tr (b:Nat) (F:List Nat):dE μ (μ.eQ b F):=fun c g' hc=>hc
theorem Mu.az8 (μ:Mu) {b c k:Nat} {F:List Nat} (h:c≠b) (hk:(μ.eQ b F).own c k):μ.own c k:=by
 rcases hk with hk | hk
 ·exact .inl hk
 ·rw [Mu.kA _ _ h] at hk;exact .inr hk
theorem lW {hp:Hp} {blk:bM} {b:Nat} {bG:bM} (h:(hp++[some blk])[b]?=some (some bG)):(b<hp.length/\hp[b]?=some (some bG))\/(b=hp.length/\bG=blk):=by
 rw [List.getElem?_append] at h;split at h
 ·rename_i hb;exact .inl ⟨hb,h⟩
 ·rename_i hb;right;cases hk:b - hp.length with
  | zero=>rw [hk] at h;simp at h;exact ⟨ag,h.symm⟩
  | succ k=>rw [hk] at h;simp at h
theorem vZ {hp:Hp} {b c:Nat} {blk:bM} (h:(hp.set b none)[c]?=some (some blk)):c≠b/\hp[c]?=some (some blk):=by
 rw [List.getElem?_set] at h;split at h
 ·first | (cases h;done) | (split at h <;> cases h)
 ·rename_i hc;exact ⟨fun e=>hc e.symm,h⟩
theorem vY {hp:Hp} {b c:Nat} {X blk:bM} (h:(hp.set b (some X))[c]?=some (some blk)):(c=b/\blk=X)\/(c≠b/\hp[c]?=some (some blk)):=by
 rw [List.getElem?_set] at h;split at h
 ·rename_i e;split at h
  ·cases h;exact .inl ⟨e.symm,rfl⟩
  ·cases h
 ·rename_i e;exact .inr ⟨fun x=>e x.symm,h⟩
theorem Good.xZ {acc:List Nat} {blk:bM} {cs:Array Value} {fr:Nat×Nat} {wd:World} (hd:wd=w\/wd=w.drew) (pre:cV P I μ w hp acc (hp.length+1)) (eg:fr.2<=fr.1\/cs.size<=fr.1)
  (hr:iz P I μ w [] blk.1 cs):
  Good P I I μ (μ.put hp.length w.heap.size []) w (wd.alloc (.cells cs blk.2 fr)) hp (hp++[some blk]) acc [] /\
   (wd.alloc (.cells cs blk.2 fr)).shape? w.heap.size=some (blk.2,cs.size):=by
 have cQ:wd.heap.size=w.heap.size:=by rcases hd with rfl | rfl <;> rfl
 have hE:cO I w (wd.alloc (.cells cs blk.2 fr)) (fun k=>∃b∈([]:List Nat),μ.own b k):=by
  rcases hd with rfl | rfl
  ·exact .alloc _ _ _
  ·exact (cO.drew w _).trans (.alloc _ _ _) (.refl _) (fun _ _ h=>h)
 have hle:dE μ (μ.put hp.length w.heap.size []):=Mu.Hh (pre.fresh _ (Nat.le_refl _) ag)
 have pC:(wd.alloc (.cells cs blk.2 fr)).heap[w.heap.size]?=some (.cells cs blk.2 fr):=by rw [<- cQ];exact heap_alloc_new wd _
 refine ⟨⟨.refl _,fun _ h=> .inl h,hE,hle,fun b g h => ?_,fun b _ hb => ?_,fun b hb bG bz => ?_,fun b hb bG bz g hg => ?_,fun b c bG fw g bc hb hc h1 h2 g1 g2 => ?_⟩,oD pC⟩
 ·by_cases bO:b=hp.length
  ·right;simp;omega
  ·left;rwa [Mu.qZ _ _ _ bO] at h
 ·exact Mu.tf _ _ _ (by rintro rfl;exact hb ⟨Nat.le_refl _,by simp⟩)
 ·rcases lW bz with ⟨hl,h⟩ | ⟨rfl,rfl⟩
  ·rcases hb with hb | hb
   ·have bc:b≠hp.length:=ag
    exact (pre.holds b hb bG h).keep hE (.refl _) hle (fun h0=>by rw [Mu.qZ _ _ _ bc];exact h0) (Mu.tf _ _ _ bc) (fun g _ hx=>by obtain ⟨c,hc,_⟩:=hx;cases hc) (fun g hg=>(pre.holds b hb bG h).kV hg)
   ·omega
  ·refine .inl ⟨w.heap.size,cs,fr,Mu.kX _ _ _ _,fun hi=>Nat.lt_irrefl _ (pre.dB _ hi),pC,eg,?_,?_,?_⟩
   ·rw [Mu.oB];exact hr.keep (by simp) hE (Sub.refl _) hle
   ·rw [Mu.oB];simp
   ·rw [Mu.oB];simp
 ·rcases lW bz with ⟨hl,h⟩ | ⟨rfl,rfl⟩
  ·rcases hb with hb | hb
   ·omega
   ·cases hb
  ·rcases Mu.ta _ hg with rfl | hg
   ·exact .inl (Nat.le_refl _)
   ·cases hg
 ·have bJ:∀b bG,(b∈acc\/hp.length<=b)->b<hp.length->hp[b]?=some (some bG)->∀g,μ.own b g->g<w.heap.size:=by
   intro b bG hb hl h g hg
   rcases hb with hb | hb
   ·exact (pre.holds b hb bG h).lt hg
   ·omega
  rcases lW h1 with ⟨hl,h⟩ | ⟨rfl,rfl⟩
  ·have g1':=Mu.vJ _ ag g1
   rcases lW h2 with ⟨jj,h'⟩ | ⟨rfl,rfl⟩
   ·have g2':=Mu.vJ _ ag g2
    rcases hb with hb | hb
    ·rcases hc with hc | hc
     ·exact pre.inj b hb c hc _ _ g bc h h' g1' g2'
     ·omega
    ·omega
   ·have:=bJ b bG hb hl h g g1'
    rcases Mu.ta _ g2 with rfl | g2
    ·omega
    ·cases g2
  ·rcases lW h2 with ⟨jj,h'⟩ | ⟨rfl,rfl⟩
   ·have:=bJ c fw hc jj h' g (Mu.vJ _ ag g2)
    rcases Mu.ta _ g1 with rfl | g1
    ·omega
    ·cases g1
   ·exact bc rfl
theorem Good.new {acc:List Nat} {blk:bM} {cs:Array Value} {fr:Nat×Nat} {wd:World} (hd:wd=w\/wd=w.drew) (pre:cV P I μ w hp acc (hp.length+1)) (hs:blk.1.length<=cs.size) (eg:fr.2<=fr.1\/cs.size<=fr.1)
  (hr:V.RL P I μ w blk.1 (cs.toList.take blk.1.length)):
  Good P I I μ (μ.put hp.length w.heap.size []) w (wd.alloc (.cells cs blk.2 fr)) hp (hp++[some blk]) acc [] /\
   (wd.alloc (.cells cs blk.2 fr)).shape? w.heap.size=some (blk.2,cs.size):=Good.xZ hd pre eg (.of hs hr)
theorem Tidy.same (hp:Hp) {acc:List Nat} (h:∀b∈acc,b<hp.length):Tidy hp hp acc []:=⟨Nat.le_refl _,fun _ _ _=>rfl,by simp,h,by simp⟩
theorem Tidy.new (hp:Hp) (blk:Option bM) {acc:List Nat} (h:∀b∈acc,b<hp.length):Tidy hp (hp++[blk]) acc []:=
 ⟨by simp,fun b hb _=>by rw [List.getElem?_append_left hb],by simp,h,by simp⟩
theorem Good.MW {acc:List Nat} {b g:Nat} {blk bG:bM} {cs:Array Value} {fr:Nat×Nat} {F:List Nat} {X:Nat->Prop} (pre:cV P I μ w hp acc (hp.length+1)) (hb:b∈acc) (bz:hp[b]?=some (some blk))
  (hE:cO I w w' X) (hX:∀k,X k->μ.own b k) (WK:∀k∈F,¬X k) (hF:F.Sublist (μ.ft b)) (hg:w.heap.size<=g/\g<w'.heap.size\/μ b=some g) (u7:¬I g)
  (hw:w'.heap[g]?=some (.cells cs bG.2 fr)) (eg:fr.2<=fr.1\/cs.size<=fr.1) (hr:iz P I μ w F bG.1 cs):
  Good P I I μ (μ.put hp.length g F) w w' hp (hp.set b none++[some bG]) acc [b]:=by
 have WA:cO I w w' (fun k=>∃c∈[b],μ.own c k):=hE.mono fun k hk=>⟨b,by simp,hX k hk⟩
 have hH:=pre.holds b hb blk bz
 have bO:b<hp.length:=(List.getElem?_eq_some_iff.1 bz).1
 have hle:dE μ (μ.put hp.length g F):=Mu.Hh (pre.fresh _ (Nat.le_refl _) ag)
 have aD:∀c fw,(hp.set b none++[some bG])[c]?=some (some fw)->(c<hp.length/\c≠b/\hp[c]?=some (some fw))\/(c=hp.length/\fw=bG):=by
  intro c fw h
  rcases lW h with ⟨hc,h⟩ | ⟨hc,h⟩
  ·obtain ⟨h1,h2⟩:=vZ h
   exact .inl ⟨by simpa using hc,h1,h2⟩
  ·exact .inr ⟨by simpa using hc,h⟩
 have qF:∀k∈F,μ.own b k:=fun k hk=> .inr (hF.subset hk)
 have eP:(g::F).Nodup:=by
  rw [List.nodup_cons]
  rcases hH with ⟨g',cs',fr',h1,_,h2,_,_,h5,h6⟩ | ⟨h1,h3⟩ | ⟨_,_,_,_,_,_,_,_,_,h3⟩
  ·rw [List.nodup_cons] at h5
   refine ⟨fun hm => ?_,h5.2.sublist hF⟩
   rcases hg with hg | hg
   ·have:=(h6 g (hF.subset hm)).2;omega
   ·rw [hg] at h1;cases h1
    exact h5.1 (hF.subset hm)
  ·rw [h3] at hF
   rw [List.sublist_nil.1 hF];simp
  ·rw [h3] at hF
   rw [List.sublist_nil.1 hF];simp
 refine ⟨.refl _,fun _ h=> .inl h,WA,hle,fun c k h => ?_,fun c hc hn => ?_,fun c hc fw h => ?_,fun c hc fw h k hk => ?_,fun c d b1 b2 k bc hc hd h1 h2 k1 k2 => ?_⟩
 ·by_cases cd:c=hp.length
  ·right;simp;omega
  ·left;rwa [Mu.qZ _ _ _ cd] at h
 ·exact Mu.tf _ _ _ (by rintro rfl;exact hn ⟨Nat.le_refl _,by simp⟩)
 ·rcases aD c fw h with ⟨hl,eV,h⟩ | ⟨rfl,rfl⟩
  ·rcases hc with hc | hc
   ·have bc:c≠hp.length:=ag
    exact (pre.holds c hc fw h).keep hE (.refl _) hle (fun h0=>by rw [Mu.qZ _ _ _ bc];exact h0) (Mu.tf _ _ _ bc) (fun k hk hx=>pre.inj c hc b hb _ _ k eV h bz hk (hX k hx)) (fun k hk=>(pre.holds c hc fw h).kV hk)
   ·omega
  ·refine .inl ⟨g,cs,fr,Mu.kX _ _ _ _,u7,hw,eg,?_,?_,fun k hk => ?_⟩
   ·rw [Mu.oB];exact hr.keep WK hE (Sub.refl _) hle
   ·rw [Mu.oB];exact eP
   ·rw [Mu.oB] at hk
    exact ⟨hH.kV (qF k hk),Nat.lt_of_lt_of_le (hH.lt (qF k hk)) hE.size⟩
 ·rcases aD c fw h with ⟨hl,eV,_⟩ | ⟨rfl,rfl⟩
  ·rcases hc with hc | hc
   ·omega
   ·exact absurd (by simpa using hc) eV
  ·rcases Mu.ta _ hk with rfl | hk
   ·rcases hg with hg | hg
    ·exact .inl hg.1
    ·exact .inr ⟨b,by simp,.inl hg,⟨_,bz⟩⟩
   ·exact .inr ⟨b,by simp,qF k hk,⟨_,bz⟩⟩
 ·have key:∀c b1,c<hp.length->c≠b->(c∈acc\/hp.length<=c)->hp[c]?=some (some b1)->μ.own c k->(μ.put hp.length g F).own hp.length k->False:=by
   intro c b1 cd eV hc h1 q1 q2
   have cW:c∈acc:=by rcases hc with hc | hc;exact hc;omega
   rcases Mu.ta _ q2 with e | q2
   ·subst e
    rcases hg with hg | hg
    ·have:=(pre.holds c cW _ h1).lt q1;omega
    ·exact pre.inj c cW b hb _ _ _ eV h1 bz q1 (.inl hg)
   ·exact pre.inj c cW b hb _ _ _ eV h1 bz q1 (qF k q2)
  rcases aD c b1 h1 with ⟨hl,eV,jB⟩ | ⟨ec,_⟩
  ·have MT:=Mu.vJ _ ag k1
   rcases aD d b2 h2 with ⟨jj,qH,jX⟩ | ⟨ed,_⟩
   ·have cW:c∈acc:=by rcases hc with hc | hc;exact hc;omega
    have mR:d∈acc:=by rcases hd with hd | hd;exact hd;omega
    exact pre.inj _ cW _ mR _ _ k bc jB jX MT (Mu.vJ _ ag k2)
   ·subst ed;exact key c b1 hl eV hc jB MT k2
  ·subst ec
   rcases aD d b2 h2 with ⟨jj,qH,jX⟩ | ⟨ed,_⟩
   ·exact key d b2 jj qH hd jX (Mu.vJ _ ag k2) k1
   ·exact bc ed.symm
theorem Good.rF {acc:List Nat} {b g:Nat} {blk bG:bM} {bJ cs:Array Value} {fr:Nat×Nat} {F:List Nat} (pre:cV P I μ w hp acc hp.length) (hb:b∈acc) (bz:hp[b]?=some (some blk)) (hg:μ b=some g)
  (hw:w.heap[g]?=some (.cells bJ blk.2 fr)) (he:bG.2=blk.2) (cQ:cs.size=bJ.size) (eg:fr.2<=fr.1\/bJ.size<=fr.1) (hF:F.Sublist (μ.ft b)) (hr:iz P I μ w F bG.1 cs):
  Good P I I μ (μ.eQ b F) w (w.setRow g cs) hp (hp.set b (some bG)) acc [b]:=by
 have hH:=pre.holds b hb blk bz
 have uW:cO I w (w.setRow g cs) (fun k=>k=g):= .setRow w g bJ cs _ fr hw cQ (hH.kV (.inl hg))
 have hE:cO I w (w.setRow g cs) (fun k=>∃c∈[b],μ.own c k):=uW.mono fun k hk=>⟨b,by simp,by rw [hk];exact .inl hg⟩
 have bO:b<hp.length:=(List.getElem?_eq_some_iff.1 bz).1
 obtain ⟨_,_,u7,_,_,_,eP,Lx⟩:=hH.PG hg hw
 rw [List.nodup_cons] at eP
 have py:g∉F:=fun h=>eP.1 (hF.subset h)
 have bQ:∀c fw,(hp.set b (some bG))[c]?=some (some fw)->c<hp.length:=by
  intro c fw h;have:=(List.getElem?_eq_some_iff.1 h).1;simpa using this
 have gd:∀c k,(μ.eQ b F).own c k->μ.own c k:=by
  intro c k hk
  by_cases eV:c=b
  ·subst eV
   rcases hk with hk | hk
   ·exact .inl hk
   ·rw [Mu.gD] at hk;exact .inr (hF.subset hk)
  ·exact Mu.az8 _ eV hk
 refine ⟨.refl _,fun _ h=> .inl h,hE,Mu.tr _ _,fun b g h=> .inl h,fun c hc _=>Mu.kA _ _ (by rintro rfl;simp at hc),fun c hc fw h => ?_,fun c hc fw h k hk => ?_,fun c d b1 b2 k bc hc hd h1 h2 k1 k2 => ?_⟩
 ·have cd:=bQ c fw h
  rcases vY h with ⟨rfl,rfl⟩ | ⟨eV,h⟩
  ·refine .inl ⟨g,cs,fr,hg,u7,?_,by rw [cQ];exact eg,?_,?_,fun k hk => ?_⟩
   ·rw [setRow_heap w g bJ cs _ fr hw,he]
   ·rw [Mu.gD];exact hr.keep (fun k hk e=>py (by have e':k=g:=e;rw [<- e'];exact hk)) uW (Sub.refl _) (Mu.tr _ _)
   ·rw [Mu.gD,List.nodup_cons];exact ⟨py,eP.2.sublist hF⟩
   ·rw [Mu.gD] at hk
    exact ⟨(Lx k (hF.subset hk)).1,Nat.lt_of_lt_of_le (Lx k (hF.subset hk)).2 uW.size⟩
  ·rcases hc with hc | hc
   ·refine (pre.holds c hc fw h).keep uW (.refl _) (Mu.tr _ _) (fun h=>h) (Mu.kA _ _ eV) (fun k hk hx => ?_) (fun k hk=>(pre.holds c hc fw h).kV hk)
    subst hx
    exact pre.inj c hc b hb _ _ k eV h bz hk (.inl hg)
   ·omega
 ·rcases hc with hc | hc
  ·have:=bQ c fw h;omega
  ·obtain rfl:c=b:=by simpa using hc
   exact .inr ⟨c,by simp,gd c k hk,⟨_,bz⟩⟩
 ·have cd:=bQ c b1 h1
  have ma:=bQ d b2 h2
  have cW:c∈acc:=by rcases hc with hc | hc;exact hc;omega
  have mR:d∈acc:=by rcases hd with hd | hd;exact hd;omega
  have al:∀(c:Nat) (b1:bM),(hp.set b (some bG))[c]?=some (some b1)->∃x:bM,hp[c]?=some (some x):=by
   intro c b1 h
   rcases vY h with ⟨rfl,_⟩ | ⟨_,h⟩
   ·exact ⟨_,bz⟩
   ·exact ⟨_,h⟩
  obtain ⟨_,jB⟩:=al c b1 h1
  obtain ⟨_,jX⟩:=al d b2 h2
  exact pre.inj _ cW _ mR _ _ k bc jB jX (gd c k k1) (gd d k k2)
end
section
variable {P:Program} {I:Nat->Prop} {μ μ':Mu} {w w':World} {hp:Hp} {out:Out}
theorem yk {t:TypeId} {d:TypeDesc} (h:P.underlying t=some d) (w:World):(isAgg t).run P w= .ok (kx d) w:=by
 unfold isAgg;rw [Sem.run_bind,run_underlying h w];cases d <;> rfl
theorem run_sizeOf {t:TypeId} {s:Nat} (h:dA P t=some s) (w:World):(sizeOf t).run P w= .ok s w:=by
 unfold dA at h;cases hi:P.info? t with
 | none=>rw [hi] at h;cases h
 | some i=>rw [hi] at h;simp at h;simp [sizeOf,typeInfo,hi,h]
theorem AA {c:V} {v:Value} (h:V.R P I μ w c v) (hf:c.flat=true):V.RL P I μ w (cellsV c) v.cells.toList:=by
 cases c
 case agg cs=>
  simp only [V.R] at h;obtain ⟨vs,rfl,h⟩:=h;exact h
 all_goals
  rw [(V.one_cell h hf).2];simp only [cellsV,V.RL];exact ⟨_,_,rfl,h,rfl⟩
theorem vI {cs:List V} {vs:List Value} (h:V.RL P I μ w cs vs) (h1:cs.all V.one=true):∀u∈vs,u.oneCell'=true:=by
 intro u hu;obtain ⟨j,hj,rfl⟩:=List.getElem_of_mem hu;have hl:=h.length;have hc:cs[j]?=some (cs[j]' ag):=List.getElem?_eq_getElem ag;obtain ⟨u',hu',hr⟩:=h.get hc;rw [List.getElem?_eq_getElem hj] at hu';cases hu'
 exact (V.one_cell hr (List.all_eq_true.1 h1 _ (List.getElem_mem ag))).1
theorem Holds.aH9 {b:Nat} {blk:bM} (h:Holds P I μ w b blk) (hT:eL blk.2=true) {g:Nat} (hg:μ b=some g):∃cs,Row w g blk.2 cs/\(flat blk.1).length<=cs.size/\CR P I μ w (μ.ft b) blk.1 (cs.toList.take (flat blk.1).length):=by
 obtain ⟨cs,fr,_,h2,h3,⟨h4,h5⟩,_⟩:=h.real hT hg;exact ⟨cs,⟨fr,h2,h3⟩,h4,h5⟩
theorem Holds.P8 {b:Nat} {blk:bM} {s:TypeId×Nat} (h:Holds P I μ w b blk) {g:Nat} (hg:μ b=some g) (hs:w.shape? g=some s):∃cs,Row w g blk.2 cs/\(flat blk.1).length<=cs.size/\CR P I μ w (μ.ft b) blk.1 (cs.toList.take (flat blk.1).length):=by
 obtain ⟨cs,fr,_,h2,h3,⟨h4,h5⟩,_⟩:=h.mr hg hs;exact ⟨cs,⟨fr,h2,h3⟩,h4,h5⟩
theorem CR.part {F:List Nat} {l:List V} {vs:List Value} (h:CR P I μ w F l vs) (off n:Nat) (ho:jK (((flat l).drop off).take n)=true):V.RL P I μ w (((flat l).drop off).take n) ((vs.drop off).take n):=by
 obtain ⟨_,F2,_,_,h2⟩:=h.mw.split off;obtain ⟨F3,_,_,h3,_⟩:=h2.split n;exact (h3.zh ho).2
theorem CR.part' {F:List Nat} {l:List V} {vs:List Value} (h:CR P I μ w F l vs) (off n:Nat) (ho:(!hasO l||jK (((flat l).drop off).take n))=true):V.RL P I μ w (((flat l).drop off).take n) ((vs.drop off).take n):=by
 rw [Bool.or_eq_true] at ho;rcases ho with ho | ho
 ·exact ((h.Hg (by simpa using ho)).2.drop off).take n
 ·exact h.part off n ho
theorem Row.range {g:Nat} {e:TypeId} {cs:Array Value} (h:Row w g e cs) (off n len:Nat):w.rangeAt g off (((cs.toList.take len).drop off).take n):=by
 intro j v hj;rw [h.cell];rw [List.getElem?_take] at hj;split at hj
 ·rw [List.getElem?_drop,List.getElem?_take] at hj;split at hj
  ·simpa using hj
  ·cases hj
 ·cases hj
theorem zU {x:V} {vx:Value} (h:V.R P I μ w x vx):V.R P I μ w x.asPtr vx:=by
 cases x <;> first | exact h | (simp only [V.asPtr,V.R,pS] at h ⊢;exact h)
theorem M4 {t:TypeId} {x:V} {vx:Value} (h:evLoad P hp t x=some out) (mj:V.R P I μ w x vx) (pre:cV P I μ w hp out.acc out.hp.length):
  out.hp=hp/\out.wr=[]/\(∀b∈out.acc,b<hp.length)/\∃val,(Instr.loadAt t vx).run P w= .ok val w/\V.R P I μ w out.v val:=by
 have hx:=zU mj;unfold evLoad at h;split at h;case h_3=>cases h
 case h_2 kH pI=>
  rw [pI] at hx;split at h;case h_2=>cases h
  case h_1 d s hu hs=>
  simp only [V.R] at hx;obtain ⟨g,off,rfl,fK⟩:=hx;split at h
  ·rename_i hd;split at h;case isFalse=>cases h
   case isTrue hl=>
   cases h
   have key:∃b9:List Value,w.rangeAt g off b9/\V.RL P I μ w (kH.take s) b9:=by
    rcases fK with rfl | ⟨_,cells,e,fr,hg,eX⟩
    ·exact ⟨[],fun j v hv=>by simp at hv,by simp [V.RL]⟩
    ·refine ⟨((cells.toList.drop off).take kH.length).take s,fun j v hv => ?_,zM (eX.take s)⟩;rw [List.getElem?_take] at hv;split at hv
     ·rw [List.getElem?_take] at hv;split at hv
      ·rw [List.getElem?_drop] at hv;simpa [World.cell?,hg] using hv
      ·cases hv
     ·cases hv
   obtain ⟨b9,Yr,kP⟩:=key;refine ⟨rfl,rfl,by simp,.agg b9.toArray,?_,by simp only [V.R];exact ⟨_,rfl,by simpa using kP⟩⟩;simp only [Instr.loadAt,Instr.sureAddr,Sem.run_bind,Sem.run_pure,Result.andThen_ok];refine run_loadVar_mid w g off t b9 d Yr hu ?_ ?_
   ·cases d <;> first | rfl | exact hd
   ·unfold dA at hs;rw [hs,kP.length,hl]
  ·rename_i hd;split at h;case h_2=>cases h
   case h_1 c rest=>
   cases h
   rcases fK with h0 | ⟨_,cells,e,fr,hg,eX⟩
   ·cases h0
   ·obtain ⟨u,lD,hr⟩:=eX.get (j:=0) (c:=c) rfl;rw [List.getElem?_take,if_pos (by simp),List.getElem?_drop] at lD;have mQ:w.cell? ⟨g,off,none⟩=some u:=by simpa [World.cell?,hg] using lD
    refine ⟨rfl,rfl,by simp,u,?_,ud hr⟩;simp only [Instr.loadAt,Instr.sureAddr,Sem.run_bind,Sem.run_pure,Result.andThen_ok,loadVar,yk hu,hd,Bool.false_eq_true,if_false,run_load,mQ]
 case h_1 b off pI=>
 rw [pI] at hx;split at h;case h_2=>cases h
 case h_1 blk d s hb hu hs=>
 simp only [V.R] at hx;obtain ⟨g,hg,rfl⟩:=hx;have bO:b<hp.length:=(List.getElem?_eq_some_iff.1 hb).1;split at h
 ·rename_i hd;split at h
  ·rename_i hl;cases h
   have eh:=hl.2;rw [Bool.and_eq_true] at eh;obtain ⟨cs,eD,cQ,eX⟩:=(pre.holds b (by simp) blk hb).aH9 eh.2 hg;have kP:=eX.part' off s eh.1;refine ⟨rfl,rfl,by simpa using bO,.agg (((cs.toList.take (flat blk.1).length).drop off).take s).toArray,?_,?_⟩
   ·simp only [Instr.loadAt,Instr.sureAddr,Sem.run_bind,Sem.run_pure,Result.andThen_ok];refine run_loadVar_mid w g off t (((cs.toList.take (flat blk.1).length).drop off).take s) d (eD.range off s _) hu ?_ ?_
    ·cases d <;> first | rfl | exact hd
    ·unfold dA at hs;rw [hs,kP.length,hl.1]
   ·simp only [V.R];exact ⟨_,rfl,by simpa using kP⟩
  ·cases h
 ·rename_i hd;split at h
  ·rename_i c hc;split at h;case h_2=>cases h
   case h_1 oc=>
   cases h
   rw [Bool.or_eq_false_iff] at oc;obtain ⟨u,lD,hr⟩:=(pre.holds b (by simp) blk hb).cell (by unfold eL;rw [oc.2];rfl) hg hc oc.1;refine ⟨rfl,rfl,by simpa using bO,u,?_,hr⟩;simp only [Instr.loadAt,Instr.sureAddr,Sem.run_bind,Sem.run_pure,Result.andThen_ok,loadVar,yk hu,hd,Bool.false_eq_true,if_false,run_load,lD]
  ·cases h
theorem Ct {α:Type} (l vs:List α) (off len:Nat) (h:off+vs.length<=len) (hl:len<=l.length):
  (l.take off++vs++l.drop (off+vs.length)).take len=(l.take len).take off++vs++(l.take len).drop (off+vs.length):=by
 apply List.ext_getElem?;intro j;have h1:(List.take off l).length=off:=by simp;omega
 have h2:(List.take off (List.take len l)).length=off:=by simp;omega
 simp only [List.getElem?_take,List.getElem?_append,List.length_append,h1,h2,List.getElem?_drop];by_cases hj:j<len
 ·simp only [hj,if_true];by_cases ha:j<off+vs.length
  ·simp only [ha,if_true]
  ·simp only [ha,if_false];rw [if_pos ag]
 ·rw [if_neg hj,if_neg ag,if_neg ag]
theorem HK {F:List Nat} {l new l':List V} {off s:Nat} {vs nv:List Value} (h:spliceV l off s new=some l') (hl:CR P I μ w F l vs) (hn:V.RL P I μ w new nv) (hs:new.length=s) (hle:off+s<=(flat l).length):
  (flat l').length=(flat l).length/\∃F',F'.Sublist F/\CR P I μ w F' l' (vs.take off++nv++vs.drop (off+s)):=by
 have ji:=xh hn;have AX:=GM hn;unfold spliceV at h;split at h
 ·rename_i mf;cases h
  have hf:=jW mf;have hx:=hl.mw;rw [hf] at hx hle ⊢;obtain ⟨F1,F2,rfl,h1,h2⟩:=hx.split off;obtain ⟨F3,F4,rfl,_,h4⟩:=h2.split s;rw [List.drop_drop,List.drop_drop] at h4;have hr:=(h1.append (Di hn)).append h4;have me:∀a b:List V,dx (a++b)=(dx a||dx b):=by
   intro a b;induction a with
   | nil=>rfl
   | cons x t ih=>
    rw [List.cons_append];rcases gg x with ⟨o,c,rfl⟩ | hx
    ·rw [xq,xq];rfl
    ·rw [pv hx,pv hx];exact ih
  have ht:∀n,dx (l.take n)=false/\dx (l.drop n)=false:=by
   intro n;have:=me (l.take n) (l.drop n);rw [List.take_append_drop,mf] at this;simpa using this.symm
  have og:dx (l.take off++new++l.drop (off+s))=false:=by rw [me,me,(ht off).1,(ht (off+s)).2,AX];rfl
  refine ⟨?_,F1++[]++F4,?_,.x4 og hr⟩
  ·rw [jW og];simp only [List.length_append,List.length_take,List.length_drop,hs];omega
  ·rw [List.append_nil];exact (List.Sublist.refl F1).append (List.sublist_append_right F3 F4)
 ·split at h;case h_2=>cases h
  case h_1 hrefs=>
  cases h
  have eI:=hl.N2 hrefs;obtain ⟨F1,F2,rfl,h1,h2⟩:=eI.split off;obtain ⟨F3,F4,rfl,_,h4⟩:=h2.split s;rw [List.drop_drop,List.drop_drop] at h4;refine ⟨?_,F1++F4,(List.Sublist.refl F1).append (List.sublist_append_right F3 F4),?_⟩
  ·rw [iF,gz,ji,iF];simp only [flat,List.length_append,List.length_take,List.length_drop,hs,List.append_nil];omega
  ·refine CR.gC.2 ⟨vs.take off,nv++vs.drop (off+s),F1,F4,by simp,rfl,h1,?_⟩;have:=(CR.of hn).append (.tq h4);simpa using this
theorem aP4 {t:TypeId} {x y:V} {vx vy:Value} (h:evStore P hp t x y=some out) (mj:V.R P I μ w x vx) (hy:V.R P I μ w y vy) (pre:cV P I μ w hp out.acc out.hp.length):
  ∃w' μ',(Instr.storeAt t vx vy).run P w= .ok () w'/\out.v= .cw/\Good P I I μ μ' w w' hp out.hp out.acc out.wr:=by
 have hx:=zU mj;unfold evStore at h;split at h;case h_2=>cases h
 case h_1 b off pI=>
 rw [pI] at hx;split at h;case h_2=>cases h
 case h_1 blk s hb hs=>
 simp only [V.R] at hx;obtain ⟨g,hg,rfl⟩:=hx;split at h;case isFalse=>cases h
 case isTrue hc=>
 obtain ⟨hf,hl,h1,hle,hT⟩:=hc;split at h;case h_2=>cases h
 case h_1 l' mg=>
 cases h
 obtain ⟨cs,fr,_,hw,eg,⟨cQ,jh⟩,_⟩:=(pre.holds b (by simp) blk hb).real hT hg;have eD:Row w g blk.2 cs:=⟨fr,hw,eg⟩;have iI:=AA hy hf;have fN:vy.cells.toList.length=s:=by rw [iI.length,hl]
 have cL:=tH P g off blk.2 vy.cells.toList 0 cs w eD ag (vI iI h1);simp only [Nat.add_zero] at cL;obtain ⟨eh,F',mP,sM⟩:=HK mg jh iI hl hle;refine ⟨w.setRow g (cs.toList.take off++vy.cells.toList++cs.toList.drop (off+vy.cells.toList.length)).toArray,μ.eQ b F',?_,rfl,?_⟩
 ·simp only [Instr.storeAt,Instr.sureAddr,Sem.run_bind,Sem.run_pure,Result.andThen_ok,storeVar,run_sizeOf hs];rw [if_neg (by simpa using fN)];exact cL
 ·have e:=Ct cs.toList vy.cells.toList off (flat blk.1).length ag (by simpa using cQ);have iL:vy.cells.size=s:=by simpa using fN
  refine Good.rF (bG:=(l',blk.2)) (by simpa using pre) (by simp) hb hg hw rfl ?_ eg mP ?_
  ·simp only [List.size_toArray,List.length_append,List.length_take,List.length_drop,Array.length_toList];omega
  ·refine ⟨?_,?_⟩
   ·show (flat l').length<=_;rw [eh];simp only [List.size_toArray,List.length_append,List.length_take,List.length_drop,Array.length_toList];omega
   ·show CR P I μ w F' l' (List.take (flat l').length _);rw [eh,e,fN];exact sM
theorem ak3 {t:TypeId} {x:V} {vx:Value} (hx:V.RL P I μ w (cellsV x) vx.cells.toList) {hp:Hp} {acc:List Nat} (pre:cV P I μ w hp acc (hp++[some (cellsV x,t)]).length):
  (newVar t vx).run P w= .ok ⟨w.heap.size,0,none⟩ (w.alloc (.cells vx.cells t)) /\
  Good P I I μ (μ.put hp.length w.heap.size []) w (w.alloc (.cells vx.cells t)) hp (hp++[some (cellsV x,t)]) acc []:=by
 refine ⟨by simp [newVar,newRow],?_⟩
 have hl:=hx.length
 simp at hl
 refine (Good.new (blk:=(cellsV x,t)) (.inl rfl) (by simpa using pre) (by simp;omega) (.inl (Nat.le_refl _)) ?_).1
 rw [List.take_of_length_le (by simp;omega)]
 exact hx
theorem SH (v:Value):V.R P I μ w (ofScalarN v) v:=by
 unfold ofScalarN;split
 ·simp [V.R]
 ·exact zP v
theorem Jm:∀l:List Value,V.RL P I μ w (l.map ofScalarN) l
 | []=>by simp [V.RL]
 | v::l=>by simp only [List.map_cons,V.RL];exact ⟨_,_,rfl,SH v,Jm l⟩
theorem Jn (t:TypeId) (z:Array Value):V.RL P I μ w (zcells P t z) z.toList:=by
 unfold zcells;split
 ·split
  ·exact Jm _
  ·exact zL _
 ·exact zL _
theorem aV5 (t:TypeId) (z:Array Value):(zcells P t z).length=z.size:=by
 unfold zcells;split
 ·split <;> simp
 ·simp
theorem SP {t:TypeId} (h:evAlloc P hp t=some out) (pre:cV P I μ w hp out.acc out.hp.length):
  ∃val w' μ',(Instr.alloc t true (.tuple #[])).run P w= .ok val w'/\V.R P I μ' w' out.v val/\Good P I I μ μ' w w' hp out.hp out.acc out.wr:=by
 unfold evAlloc at h;split at h;case h_2=>cases h
 case h_1 z hz=>
 cases h
 obtain ⟨i,hi,hz⟩:=Option.bind_eq_some_iff.1 hz;have hl:(zcells P t z.cells).length=z.cells.size:=aV5 _ _;refine ⟨.pointer (some ⟨w.heap.size,0,none⟩),w.alloc (.cells z.cells t),μ.put hp.length w.heap.size [],?_,?_,?_⟩
 ·simp [Instr.alloc,zeroValue,typeInfo,hi,hz,newVar,newRow]
 ·simp only [V.R];exact ⟨_,Mu.kX _ _ _ _,rfl⟩
 ·refine (Good.new (blk:=(zcells P t z.cells,t)) (.inl rfl) (by simpa using pre) (by simp only;omega) (.inl (Nat.le_refl _)) ?_).1;rw [List.take_of_length_le (by simp only [Array.length_toList];omega)];exact Jn _ _
theorem Tc {t:TypeId} {x:V} {vx:Value} (h:Ag hp t x=some out) (hx:V.R P I μ w x vx) (pre:cV P I μ w hp out.acc out.hp.length):
  ∃val w' μ',(Instr.box t vx).run P w= .ok val w'/\V.R P I μ' w' out.v val/\Good P I I μ μ' w w' hp out.hp out.acc out.wr:=by
 unfold Ag at h
 split at h
 case isFalse=>cases h
 case isTrue hf=>
 cases h
 obtain ⟨h1,h2⟩:=ak3 (t:=t) (AA hx hf) pre
 exact ⟨_,_,_,by simp [Instr.box,h1];rfl,by simp only [V.R];exact ⟨_,Mu.kX _ _ _ _,rfl⟩,h2⟩
theorem V3 (v:Value) (off:Nat) (cells:Array Value) (h:off+v.cells.size<=cells.size):
  (v.cells.zipIdx.foldl (fun cs (x:Value×Nat)=>cs.setIfInBounds (off+x.2) x.1) cells).toList=cells.toList.take off++v.cells.toList++cells.toList.drop (off+v.cells.size):=by
 rw [<- Array.foldl_toList,Array.toList_zipIdx];obtain ⟨h1,h2⟩:=Great.foldl_set off v.cells.toList 0 cells;apply List.ext_getElem?;intro k;have Lu:=h2 k;simp only [Array.length_toList,Nat.add_zero] at Lu;rw [Array.getElem?_toList,Lu];have hl:(List.take off cells.toList).length=off:=by simp;omega
 simp only [List.getElem?_append,List.length_append,hl,List.getElem?_take,List.getElem?_drop,Array.length_toList];by_cases ha:k<off
 ·rw [if_neg (by omega),if_pos (by omega),if_pos ha];simp [ha]
 ·by_cases hb:k<off+v.cells.size
  ·rw [if_pos (by omega),if_pos hb,if_neg ha]
  ·rw [if_neg (by omega),if_neg hb];rw [show off+v.cells.size+(k - (off+v.cells.size))=k by omega];simp
inductive rK (P:Program) (I:Nat->Prop) (μ:Mu) (w:World):List (Nat×V)->List (Nat×Value)->Prop where
 | nil:rK P I μ w [] []
 | cons {i:Nat} {x:V} {v:Value} {xs:List (Nat×V)} {vs:List (Nat×Value)} (h:V.R P I μ w x v) (t:rK P I μ w xs vs):rK P I μ w ((i,x)::xs) ((i,v)::vs)
theorem K1 (place:Nat->Option (Nat×Nat)) {xs:List (Nat×V)} {vs:List (Nat×Value)} (hp:rK P I μ w xs vs):∀ {cells:List V} {cv:Array Value} {r:List V},V.RL P I μ w cells cv.toList->fillV place cells xs=some r ->
  ∃rv,Instr.fill place cv vs=some rv/\V.RL P I μ w r rv.toList/\r.length=cells.length:=by
 induction hp with
 | nil=>intro cells cv r hc h;cases h;exact ⟨cv,rfl,hc,rfl⟩
 | @cons i x v xs vs hx _ ih=>
  intro cells cv r hc h;unfold fillV at h;split at h;case h_1=>cases h
  case h_2 off size gn=>
  split at h;case isFalse=>cases h
  case isTrue sK=>
  obtain ⟨hf,hl,hle⟩:=sK;have LO:=AA hx hf;have iL:v.cells.size=size:=by have:=LO.length;simp at this;omega
  have cd:=hc.length;simp at cd;have Xw:=V3 v off cv ag;have eX:V.RL P I μ w (cells.take off++cellsV x++cells.drop (off+size)) (v.cells.zipIdx.foldl (fun cs (x:Value×Nat)=>cs.setIfInBounds (off+x.2) x.1) cv).toList:=by
   rw [Xw,iL];exact ((hc.take off).append LO).append (hc.drop (off+size))
  obtain ⟨rv,h1,h2,h3⟩:=ih eX h;refine ⟨rv,?_,h2,?_⟩
  ·unfold Instr.fill;rw [gn];simp only;rw [if_neg (by simp;omega)];exact h1
  ·rw [h3];simp only [List.length_append,List.length_take,List.length_drop,hl];omega
theorem Te {t:TypeId} {ps:List (Nat×V)} {vs:Array (Nat×Value)} (h:evBuild P hp t ps=some out) (FW:rK P I μ w ps vs.toList):
  out.hp=hp/\out.wr=[]/\out.acc=[]/\∃val,(Instr.build t vs).run P w= .ok val w/\V.R P I μ w out.v val:=by
 unfold evBuild at h;split at h;case h_2=>cases h
 case h_1 it fields hi hu=>
 split at h;case h_2=>cases h
 case h_1 z tc hz gn=>
 split at h;case h_2=>cases h
 case h_1 cells hc=>
 cases h
 obtain ⟨rv,h1,h2,_⟩:=K1 _ FW (cv:=z.cells) (Jn _ _) hc;refine ⟨rfl,rfl,rfl,.agg rv,run_build w t vs rv ?_,by simp only [V.R];exact ⟨_,rfl,h2⟩⟩;simp only [Program.built,hi,hu,hz,gn];rw [<- h1];congr 1;funext i;simp
theorem zN (z:Array Value) (n:Nat):V.RL P I μ w (iy (z.toList.map ofScalar) n) ((Array.range n).map (z[· % z.size]!)).toList:=by
 refine .of (by simp [iy]) fun j c u hc hu => ?_;simp only [iy,List.length_map,Array.length_toList] at hc;rw [List.getElem?_map] at hc;simp only [Array.toList_map,List.getElem?_map,Array.toList_range] at hu;cases hj:(List.range n)[j]? with
 | none=>rw [hj] at hc;cases hc
 | some k=>
  rw [hj] at hc hu;simp at hc hu;subst hc hu;by_cases hk:k % z.size<z.size
  ·simp [hk,zP]
  ·simp [hk,V.R]
theorem Td {t:TypeId} {n:Nat} {ps:List (Nat×V)} {vs:Array (Nat×Value)} (h:evBuildSlice P hp t n ps=some out) (FW:rK P I μ w ps vs.toList) (pre:cV P I μ w hp out.acc out.hp.length):
  ∃val w' μ',(Instr.buildSlice t n vs).run P w= .ok val w'/\V.R P I μ' w' out.v val/\Good P I I μ μ' w w' hp out.hp out.acc out.wr:=by
 unfold evBuildSlice at h;split at h;case h_2=>cases h
 case h_1 elem hu=>
 split at h;case h_2=>cases h
 case h_1 i hi=>
 split at h;case h_2=>cases h
 case h_1 z hz=>
 split at h;case isFalse=>cases h
 case isTrue sK=>
 obtain ⟨hle,kO,jn⟩:=sK;split at h;case h_2=>cases h
 case h_1 cells hc=>
 cases h
 have eX:∃zz:Array Value,(if n*i.size=0 then (#[]:Array Value) else z.cells)=zz/\V.RL P I μ w (iy (z.cells.toList.map ofScalar) (n*i.size)) ((Array.range (n*i.size)).map (zz[· % zz.size]!)).toList:=by
  refine ⟨_,rfl,?_⟩;split
  ·rename_i h0;rw [h0];simp [iy,V.RL]
  ·exact zN _ _
 obtain ⟨zz,Bc,eX⟩:=eX;obtain ⟨rv,h1,h2,h3⟩:=K1 _ FW eX hc;have cQ:rv.size=n*i.size:=by
  have:=h2.length;simp at this;rw [this,h3];simp [iy]
 have cd:cells.length=n*i.size:=by rw [h3];simp [iy]
 obtain ⟨hg,de⟩:=Good.new (P:=P) (I:=I) (μ:=μ) (w:=w) (hp:=hp) (acc:=[]) (blk:=(cells,elem)) (cs:=rv) (fr:=(0,0)) (wd:=w) (.inl rfl) (by simpa using pre) (by simp;omega) (.inl (Nat.le_refl _)) (by rw [List.take_of_length_le (by simp;omega)];exact h2);refine ⟨.slice (some ⟨w.heap.size,0,none⟩) n n,_,_,?_,?_,hg⟩
 ·by_cases h0:n*i.size=0
  ·rw [if_pos h0] at Bc;subst Bc;simp [Instr.buildSlice,run_underlying hu,sizeOf,typeInfo,hi,h0] at h1 ⊢;simp [h1,newRow]
  ·rw [if_neg h0] at Bc;subst Bc;have hle':¬16777216<n*i.size:=ag;simp [Instr.buildSlice,run_underlying hu,sizeOf,typeInfo,zeroValue,hi,hz,h0,hle',h1,newRow]
 ·simp only [V.R];have hn:n<=n*i.size:=Nat.le_mul_of_pos_right _ kO;exact .inl ⟨_,n,elem,_,i,Mu.kX _ _ _ _,rfl,Nat.le_refl _,by simp only [maxLen];omega,fun _=>rfl,de,hi,by simp;omega⟩
end
section
variable {P:Program} {I:Nat->Prop} {μ μ':Mu} {w w':World} {hp:Hp} {out:Out}
theorem af9 {t:TypeId} {x y:V} {vx vy:Value} (h:evMakeSlice P hp t x y=some out) (hx:V.R P I μ w x vx) (hy:V.R P I μ w y vy) (pre:cV P I μ w hp out.acc out.hp.length):
  ∃val w' μ',(Instr.makeSlice t vx vy).run P w= .ok val w'/\V.R P I μ' w' out.v val/\Good P I I μ μ' w w' hp out.hp out.acc out.wr:=by
 unfold evMakeSlice at h;split at h;case h_2=>cases h
 case h_1 kl l kc c=>
 split at h;case h_2=>cases h
 case h_1 elem hu=>
 split at h;case h_2=>cases h
 case h_1 i hi=>
 split at h;case h_2=>cases h
 case h_1 z hz=>
 split at h;case isFalse=>cases h
 case isTrue sK=>
 obtain ⟨h0,XR,hc,hb,kO,jn⟩:=sK;cases h
 simp only [V.R] at hx hy;subst hx hy;have W5:(i.bytes:Int)*c<=281474976710656:=by
  have h1:(i.bytes:Int)*c<=(1048576:Int)*c:=Int.mul_le_mul_of_nonneg_right ag ag;omega
 have hr:=run_make (P:=P) w t elem i z hu hi hz kl kc l c h0 XR W5 ag;obtain ⟨hg,de⟩:=Good.xZ (P:=P) (I:=I) (μ:=μ) (w:=w) (hp:=hp) (acc:=[]) (blk:=([.aw (iy (z.cells.toList.map ofScalar) (c.toNat*i.size))],elem)) (cs:=madeCells z.cells (c.toNat*i.size)) (fr:=(0,0)) (wd:=w) (.inl rfl)
  (by simpa using pre) (.inl (Nat.le_refl _)) (.aw (by simp [iy,madeCells]) (by
   rw [List.take_of_length_le (by simp [iy,madeCells])];exact zN _ _))
 refine ⟨_,_,_,hr,?_,hg⟩;simp only [V.R];refine .inl ⟨_,c.toNat,elem,_,i,Mu.kX _ _ _ _,rfl,ag,by simp only [maxLen];omega,fun hf => ?_,de,hi,by simp [madeCells]⟩;have:=eq_of_beq hf;omega
theorem Dg {o:Bool}:OS P I w o [] [] []:=by
 cases o
 ·exact ⟨rfl,by simp [V.RL]⟩
 ·show V.OL P I w [] [] [];exact lT.2 ⟨rfl,rfl⟩
theorem GN:∀ {l:List V} {F:List Nat} {vs:List Value},OXL P I μ w F l vs->dx l=false
 | [],_,_,_=>rfl
 | x::t,_,_,h=>by
  obtain ⟨u,us,F1,F2,_,_,h1,h2⟩:=h;have ih:=GN h2;rcases gg x with ⟨o,c,rfl⟩ | hx
  ·cases o <;> (unfold OX at h1;simp [mkS,V.isO,V.R] at h1)
  ·rw [pv hx];exact ih
theorem Ka {F:List Nat} {l:List V} {vs:List Value} {off k:Nat} (h:CR P I μ w F l vs) (hk:(((flat l).drop off).take k).length=k):(∃F',F'.Sublist F/\CR P I μ w F' (fX l off k) ((vs.drop off).take k))/\(flat (fX l off k)).length=k:=by
 unfold fX;split
 ·rename_i hc;obtain ⟨rfl,rfl⟩:=hc;refine ⟨⟨F,.refl _,?_⟩,rfl⟩;rw [List.drop_zero,List.take_of_length_le (Nat.le_of_eq h.length)];exact h
 ·obtain ⟨F1,F2,rfl,_,h2⟩:=h.mw.split off;obtain ⟨F3,F4,rfl,h3,_⟩:=h2.split k;have hs:=GN h3;refine ⟨⟨F3,?_,.x4 hs h3⟩,by rw [jW hs];exact hk⟩;exact (List.sublist_append_left F3 F4).trans (List.sublist_append_right F1 _)
theorem GZ {l:List V} (h:l.all V.one=true):jK l=true:=by
 unfold jK;rw [List.all_eq_true] at h ⊢;intro c hc;have:=h c hc;cases c <;> first | rfl | simp [V.one] at this
theorem BX {size:Nat} {x:V} {vx:Value} {bs:List Nat} {m:Nat} {news:List V} (h:srcV hp size x=some (bs,m,news)) (hx:V.R P I μ w x vx) (hh:∀b∈bs,∀blk,hp[b]?=some (some blk)->Holds P I μ w b blk):
  ∃a c nv,vx= .slice a m c/\(flat news).length=m*size/\CR P I μ w [] news nv/\(∀u∈nv,u.oneCell'=true)/\tZ w a nv/\(∀b∈bs,b<hp.length)/\jK (flat news)=true:=by
 unfold srcV at h;split at h
 ·rename_i b off m' full;split at h;case h_2=>cases h
  case h_1 blk hb=>
  split at h;case isFalse=>cases h
  case isTrue hc=>
  cases h
  have bO:∀b'∈[b],b'<hp.length:=by simpa using (List.getElem?_eq_some_iff.1 hb).1
  have gA:jK (flat (fX blk.1 off (m*size)))=true:=by
   have lA:=GZ hc.2;unfold fX;split
   ·rename_i h0;obtain ⟨rfl,h0⟩:=h0;rwa [List.drop_zero,List.take_of_length_le ag] at lA
   ·have hf:∀l:List V,l.all V.one=true->flat l=l:=by
     intro l hl;refine jW ?_;induction l with
     | nil=>rfl
     | cons x t ih=>
      rw [List.all_cons,Bool.and_eq_true] at hl;rcases gg x with ⟨o,c,rfl⟩ | hx
      ·cases o <;> simp [mkS,V.one] at hl
      ·have:=ih hl.2;rw [pv hx];exact this
    rw [hf _ hc.2];exact lA
  simp only [V.R] at hx;rcases hx with ⟨g,cap,e,N,i,hg,rfl,_,_,_,de,_⟩ | ⟨rfl,rfl,a',rfl,dc⟩
  ·obtain ⟨cs,eD,cQ,eX⟩:=(hh b (by simp) blk hb).P8 hg de;have lA:=GZ hc.2;have sS:=eX.part off (m*size) lA;obtain ⟨⟨F',_,kP⟩,hlen⟩:=Ka (off:=off) eX hc.1;have hF:F'=[]:=by
    have xQ:=kP.mw;unfold fX at xQ;split at xQ
    ·rename_i h0;obtain ⟨rfl,h0⟩:=h0;rw [List.drop_zero,List.take_of_length_le ag] at lA;exact (xQ.zh lA).1
    ·rw [xh sS] at xQ;exact (xQ.zh lA).1
   subst hF;refine ⟨_,cap,_,rfl,hlen,kP,vI sS hc.2,.inr ⟨_,rfl,eD.lt,fun j u hu => ?_⟩,bO,gA⟩;rw [Addr.add_mid];exact eD.range off _ _ j u hu
  ·refine ⟨a',0,[],rfl,?_,?_,by simp,.inl rfl,bO,gA⟩
   ·have:(((flat blk.1).drop 0).take (0*size))=[]:=by simp
    simp only [Nat.zero_mul,fX];split
    ·rename_i h0;exact h0.2
    ·simp [flat]
   ·simp only [Nat.zero_mul,fX];split
    ·rename_i h0;have AP:=hh b (by simp) blk hb;have iI:flat blk.1=[]:=List.eq_nil_of_length_eq_zero h0.2;have:∀l:List V,flat l=[]->CR P I μ w [] l []:=by
      intro l;induction l with
      | nil=>intro _;exact CR.fP.2 ⟨rfl,rfl⟩
      | cons x t ih=>
       intro hl;rcases gg x with ⟨o,c,rfl⟩ | hx
       ·rw [iF,List.append_eq_nil_iff] at hl;rw [hl.1];exact CR.gC.2 ⟨[],[],[],[],rfl,rfl,Dg,ih hl.2⟩
       ·rw [fH hx] at hl;cases hl
     exact this _ iI
    ·simp only [List.take_zero];exact CR.fP.2 ⟨rfl,rfl⟩
 ·rename_i m' full cs;split at h;case isFalse=>cases h
  case isTrue hc=>
  cases h
  simp only [V.R] at hx;obtain ⟨a,cap,rfl,pA,_,vp,fK⟩:=hx;have key:∃nv:List Value,V.RL P I cf w (cs.take (m*size)) nv/\tZ w a nv:=by
   rcases fK with rfl | rfl | ⟨g,off,rfl,_,cells,e,fr,hg,eX⟩
   ·exact ⟨[],by simp [V.RL],.inl rfl⟩
   ·exact ⟨[],by simp [V.RL],.inl rfl⟩
   ·refine ⟨((cells.toList.drop off).take cs.length).take (m*size),eX.take _,.inr ⟨_,rfl,(Array.getElem?_eq_some_iff.1 hg).1,fun j v hv => ?_⟩⟩;rw [Addr.add_mid];rw [List.getElem?_take] at hv;split at hv
    ·rw [List.getElem?_take] at hv;split at hv
     ·rw [List.getElem?_drop] at hv;simpa [World.cell?,hg] using hv
     ·cases hv
    ·cases hv
  obtain ⟨nv,h1,h2⟩:=key;exact ⟨_,cap,nv,rfl,by simpa [flat] using hc.1,.yl h1,vI h1 hc.2,h2,by simp,by simpa [flat] using GZ hc.2⟩
 ·cases h
theorem Gu {a:Option Addr} {nv:List Value} (h:tZ w a nv) (bc:nv≠[]):∃ad,a=some ad/\∀j u,nv[j]?=some u->w.cell? (ad.add j)=some u:=by
 rcases h with h | ⟨ad,h1,_,h2⟩
 ·exact absurd h bc
 ·exact ⟨ad,h1,h2⟩
theorem uf {t ty elem:TypeId} {i:TypeInfo} (hu:P.underlying t=some (.slice elem)) (hi:P.info? elem=some i) (b:Option Addr) (n cap:Nat) (hn:n<=cap) (a:Option Addr) (c:Nat):
  (Builtin.append_ #[t,t] ty #[.slice b n cap,.slice a 0 c]).run P w= .ok (.slice b n cap) w:=by
 cases b <;> cases a <;> simp [Builtin.append_,run_underlying hu,sizeOf,typeInfo,hi,Builtin.lenOf,Builtin.firstCells,loadCells,loadCellsFrom,hn,storeCells]
theorem Dy {t ty elem:TypeId} {i:TypeInfo} {z:Value} (hu:P.underlying t=some (.slice elem)) (hi:P.info? elem=some i) (hz:i.zero=some z) (jn:z.cells.size=i.size) (kO:0<i.size)
  {b:Option Addr} {n cap:Nat} {F:List Nat} {olds news:List V} {ov nv:List Value} (AZ:(flat olds).length=n*i.size) (ho:CR P I μ w F olds ov) (hb:b=none/\n=0/\cap=0\/∃ad,b=some ad/\∀j u,ov[j]?=some u->w.cell? (ad.add j)=some u)
  {a:Option Addr} {m c:Nat} (hm:0<m) (xJ:(flat news).length=m*i.size) (hn:CR P I μ w [] news nv) (hl:tZ w a nv) (Fx:cap<n+m) (sE:n+m<=maxLen) (sI:(n+m)*i.bytes<=140737488355328):
  ∃fC row,(Builtin.append_ #[t,t] ty #[.slice b n cap,.slice a m c]).run P w= .ok (.slice (some ⟨w.heap.size,0,none⟩) (n+m) fC) (w.drew.alloc (.cells row elem))/\iz P I μ w F (olds++news) row/\row.size=fC*i.size/\n+m<=fC/\fC<=maxLen:=by
 have jY:=hn.length
 have vq:=ho.length
 have bc:nv≠[]:=by
  rintro rfl
  have:0<m*i.size:=Nat.mul_pos hm kO
  simp at jY;omega
 obtain ⟨ad,rfl,u4⟩:=Gu hl bc
 have aW5:n+m<=9223372036854775807:=by simp only [maxLen] at sE;omega
 have fin:∀fC,n+m<=fC->∀row:Array Value,row=ov.toArray++nv.toArray++Builtin.zeroCells z.cells (fC - (n+m)) ->
   iz P I μ w F (olds++news) row/\row.size=fC*i.size:=by
  intro fC gb row eD
  have lB:row.size=fC*i.size:=by
   rw [eD]
   simp only [Array.size_append,List.size_toArray,size_zeroCells,jn,vq,jY,AZ,xJ]
   rw [<- Nat.add_mul,<- Nat.add_mul];congr 1;omega
  have hlen:(flat (olds++news)).length=(n+m)*i.size:=by rw [gz,List.length_append,AZ,xJ,Nat.add_mul]
  have jl:row.toList.take (flat (olds++news)).length=ov++nv:=by
   rw [eD]
   have e:(ov.toArray++nv.toArray++Builtin.zeroCells z.cells (fC - (n+m))).toList=(ov++nv)++(Builtin.zeroCells z.cells (fC - (n+m))).toList:=by simp
   have e2:(flat (olds++news)).length=(ov++nv).length:=by simp only [gz,List.length_append,vq,jY]
   rw [e,e2];exact List.take_left
  have XS:(n+m)*i.size<=fC*i.size:=Nat.mul_le_mul_right _ gb
  refine ⟨⟨by rw [hlen,lB];exact XS,?_⟩,lB⟩
  rw [jl]
  have:=ho.append hn
  rwa [List.append_nil] at this
 rcases hb with ⟨rfl,rfl,rfl⟩ | ⟨bd,rfl,hb⟩
 ·have Yh:ov=[]:=List.eq_nil_of_length_eq_zero (by rw [vq,AZ];simp)
  subst Yh
  have hr:=run_append_nil (P:=P) w t ty elem i z hu hi hz ad m c nv (by rw [jY,xJ]) u4 hm ag (by simp only [Nat.zero_add] at sI;omega)
  have gb:0+m<=grownCap w m 0 elem:=by have:=grownCap_ge w m 0 elem;omega
  obtain ⟨h1,h2⟩:=fin (grownCap w m 0 elem) gb _ rfl
  refine ⟨grownCap w m 0 elem,_,?_,h1,h2,gb,grownCap_le_maxLen w m 0 elem ag⟩
  rw [hr];simp
 ·have hr:=run_append_grow (P:=P) w t ty elem i z hu hi hz bd n cap ov (by rw [vq,AZ]) hb ad m c nv (by rw [jY,xJ]) u4 Fx ag (growslice_fits ag sI)
  obtain ⟨h1,h2⟩:=fin (grownCap w (n+m) cap elem) (grownCap_ge w (n+m) cap elem) _ rfl
  exact ⟨_,_,hr,h1,h2,grownCap_ge w (n+m) cap elem,grownCap_le_maxLen w (n+m) cap elem sE⟩
theorem SS {t t' ty:TypeId} {x y:V} {vx vy:Value} (h:evAppend P hp t t' x y=some out) (hx:V.R P I μ w x vx) (hy:V.R P I μ w y vy) (pre:cV P I μ w hp out.acc out.hp.length):
  ∃val w' μ',(Builtin.append_ #[t,t'] ty #[vx,vy]).run P w= .ok val w'/\V.R P I μ' w' out.v val/\Good P I I μ μ' w w' hp out.hp out.acc out.wr:=by
 unfold evAppend at h
 split at h
 case h_2=>cases h
 case h_1 elem hu=>
 split at h
 case h_2=>cases h
 case h_1 i hi=>
 split at h
 case h_2=>cases h
 case h_1 z hz eJ=>
 have YH:t=t':=eq_of_beq eJ
 subst YH
 split at h
 case isFalse=>cases h
 case isTrue sK=>
 obtain ⟨kO,jn⟩:=sK
 split at h
 case h_2=>cases h
 case h_1 bs m news m0=>
 have Xl:∀row:Array Value,cO I w (w.drew.alloc (.cells row elem)) (fun _=>False):=fun row=>(cO.drew w _).trans (.alloc _ _ _) (.refl _) (fun _ _ h=>h)
 have pC:∀row:Array Value,(w.drew.alloc (.cells row elem)).heap[w.heap.size]?=some (.cells row elem (0,0)):=fun row=>heap_alloc_new w.drew _
 split at h
 ·-- au8 an own slice
  rename_i b off n full
  split at h
  case h_2=>cases h
  case h_1 blk hb=>
  split at h
  case isFalse=>cases h
  case isTrue hc=>
  obtain ⟨hl,sE,sI,he,kj⟩:=hc
  subst kj
  cases h
  simp only [V.R] at hx
  obtain ⟨a,c,nv,rfl,h1,h2,lA,h3,_⟩:=BX m0 hy fun b' bT=>pre.holds b' (by simp [bT])
  have vr:cV P I μ w hp (b::bs) (hp.length+1):=by simpa using pre
  have jY:=h2.length
  have FN:(n+m)*i.size=n*i.size+m*i.size:=Nat.add_mul _ _ _
  have Me:∀(F:List Nat) (fC:Nat) (row:Array Value),F.Sublist (μ.ft b)->iz P I μ w F (fX blk.1 0 (n*i.size)++news) row->row.size=fC*i.size->n+m<=fC->fC<=maxLen ->
    V.R P I (μ.put hp.length w.heap.size F) (w.drew.alloc (.cells row elem)) (.sl hp.length 0 (n+m) false) (.slice (some ⟨w.heap.size,0,none⟩) (n+m) fC) /\
    Good P I I μ (μ.put hp.length w.heap.size F) w (w.drew.alloc (.cells row elem)) hp (hp.set b none++[some (fX blk.1 0 (n*i.size)++news,elem)]) (b::bs) [b]:=by
   intro F fC row hF sL lB gb cN
   refine ⟨?_,?_⟩
   ·simp only [V.R]
    exact .inl ⟨_,fC,elem,row.size,i,Mu.kX _ _ _ _,rfl,gb,cN,by simp,oD (pC row),hi,by omega⟩
   ·exact Good.MW (bG:=(fX blk.1 0 (n*i.size)++news,elem)) vr (by simp) hb (Xl row) (fun k hk=>hk.elim) (fun k _ h=>h) hF (.inl ⟨Nat.le_refl _,by simp⟩) (fun hi=>Nat.lt_irrefl _ (pre.dB _ hi)) (pC row) (.inl (Nat.le_refl _)) sL
  rcases hx with ⟨g,cap,e',N,i',hg,rfl,pB,cN,mb,de,iJ,hN⟩ | ⟨_,rfl,a',rfl,dc⟩
  ·obtain ⟨cs,fr,u7,hw,eg,⟨cQ,jh⟩,eP,_⟩:=(pre.holds b (by simp) blk hb).mr hg de
   have eD:Row w g blk.2 cs:=⟨fr,hw,eg⟩
   obtain ⟨⟨F',mP,AM⟩,LK⟩:=Ka (off:=0) jh hl
   rw [List.drop_zero] at AM
   have qM:=oD hw
   rw [de] at qM
   cases qM
   rw [he,hi] at iJ
   cases iJ
   have X9:n*i.size<=(flat blk.1).length:=by simp at hl;omega
   have hlen:(flat (fX blk.1 0 (n*i.size)++news)).length=(n+m)*i.size:=by rw [gz,List.length_append,LK,h1,FN]
   by_cases F5:n+m<=cap
   ·have hmul:(n+m)*i.size<=cap*i.size:=Nat.mul_le_mul_right _ F5
    have AL:(cs.toList.take (n*i.size)++nv++cs.toList.drop (n*i.size+nv.length)).toArray.size=cs.size:=by
     simp only [List.size_toArray,List.length_append,List.length_take,List.length_drop,Array.length_toList];omega
    have hr:(Builtin.append_ #[t,t] ty #[.slice (some ⟨g,0,none⟩) n cap,.slice a m c]).run P w =
      .ok (.slice (some ⟨g,0,none⟩) (n+m) cap) (w.setRow g (cs.toList.take (n*i.size)++nv++cs.toList.drop (n*i.size+nv.length)).toArray):=by
     cases m with
     | zero=>
      have mj:nv=[]:=List.eq_nil_of_length_eq_zero (by rw [jY,h1];simp)
      subst mj
      rw [uf hu hi _ n cap pB a c]
      simp only [List.append_nil,List.length_nil,Nat.add_zero,List.take_append_drop,Array.toArray_toList]
      rw [setRow_self w g cs _ fr hw]
     | succ m=>
      have bc:nv≠[]:=by
       rintro rfl
       have:0<(m+1)*i.size:=Nat.mul_pos (Nat.succ_pos m) kO
       simp at jY;omega
      obtain ⟨ad,rfl,u4⟩:=Gu h3 bc
      have hf:=run_firstCells_some (P:=P) w i.size (m+1) ad (m+1) c nv (by rw [jY,h1]) u4
      have cL:=tH P g (n*i.size) blk.2 nv 0 cs w eD (by omega) lA
      simp only [Nat.add_zero] at cL
      simp [Builtin.append_,run_underlying hu,sizeOf,typeInfo,hi,Builtin.lenOf,F5,hf,Addr.add_lit,cL]
    have uW:cO I w (w.setRow g (cs.toList.take (n*i.size)++nv++cs.toList.drop (n*i.size+nv.length)).toArray) (fun k=>k=g):= .setRow w g cs _ _ fr hw AL u7
    have py:∀k∈F',¬k=g:=by
     rintro k hk rfl
     rw [List.nodup_cons] at eP
     exact eP.1 (mP.subset hk)
    refine ⟨_,_,μ.put hp.length g F',hr,?_,Good.MW (bG:=(fX blk.1 0 (n*i.size)++news,elem)) vr (by simp) hb uW (fun k hk=>by rw [hk];exact .inl hg) py mP (.inr hg) u7 (by rw [<- he];exact setRow_heap w g cs _ _ fr hw) (by rw [AL];exact eg) ⟨?_,?_⟩⟩
    ·simp only [V.R]
     refine .inl ⟨g,cap,elem,cs.size,i,Mu.kX _ _ _ _,rfl,F5,cN,by simp,?_,hi,by omega⟩
     rw [oD (setRow_heap w g cs _ _ fr hw),AL,he]
    ·show (flat (fX blk.1 0 (n*i.size)++news)).length<=_
     rw [AL,hlen];omega
    ·show CR P I μ w F' (fX blk.1 0 (n*i.size)++news) (List.take (flat (fX blk.1 0 (n*i.size)++news)).length _)
     have e1:(List.take (n*i.size) cs.toList++nv).length=(flat (fX blk.1 0 (n*i.size)++news)).length:=by
      rw [hlen,List.length_append,List.length_take,jY,h1,FN,Array.length_toList];congr 1;omega
     rw [<- e1]
     simp only [List.append_assoc]
     rw [<- List.append_assoc,List.take_left' rfl]
     rw [List.take_take,Nat.min_eq_left X9] at AM
     have:=AM.append h2
     rwa [List.append_nil] at this
   ·have hm:0<m:=by omega
    obtain ⟨fC,row,hr,sL,lB,gb,xu⟩:=Dy (P:=P) (ty:=ty) hu hi hz jn kO LK AM (.inr ⟨_,rfl,fun j u hu=>by rw [Addr.add_mid];exact eD.range 0 _ _ j u (by simpa using hu)⟩) (m:=m) (c:=c) hm h1 h2 h3 (show cap<n+m by omega) sE sI
    obtain ⟨k1,k2⟩:=Me F' fC row mP sL lB gb xu
    exact ⟨_,_,_,hr,k1,k2⟩
  ·-- au8 one Iy is nil
   have LJ:CR P I μ w [] (fX blk.1 0 (0*i.size)) []/\(flat (fX blk.1 0 (0*i.size))).length=0*i.size:=by
    have xI:∀l:List V,flat l=[]->CR P I μ w [] l []:=by
     intro l
     induction l with
     | nil=>intro _;exact CR.fP.2 ⟨rfl,rfl⟩
     | cons x t ih=>
      intro hl
      rcases gg x with ⟨o,c,rfl⟩ | hx
      ·rw [iF,List.append_eq_nil_iff] at hl
       rw [hl.1]
       exact CR.gC.2 ⟨[],[],[],[],rfl,rfl,Dg,ih hl.2⟩
      ·rw [fH hx] at hl;cases hl
    unfold fX
    split
    ·rename_i h0
     exact ⟨xI _ (List.eq_nil_of_length_eq_zero (by simpa using h0.2)),h0.2⟩
    ·simp only [Nat.zero_mul,List.take_zero]
     exact ⟨CR.fP.2 ⟨rfl,rfl⟩,rfl⟩
   cases m with
   | zero=>
    have mj:nv=[]:=List.eq_nil_of_length_eq_zero (by rw [jY,h1];simp)
    subst mj
    refine ⟨_,w,μ.put hp.length 0 [] |> fun _=>⟨μ.nm,fun c=>if c=hp.length then [] else μ.ft c⟩,uf hu hi a' 0 0 (Nat.le_refl _) a c,?_,?_⟩
    ·simp only [V.R];exact .inr ⟨a8,a8,a',rfl,dc⟩
    ·have bO:b<hp.length:=(List.getElem?_eq_some_iff.1 hb).1
     have kh:=vr.fresh hp.length (Nat.le_refl _) (by omega)
     have gd:∀c k,c≠hp.length->(Mu.own ⟨μ.nm,fun c=>if c=hp.length then [] else μ.ft c⟩ c k)->μ.own c k:=by
      intro c k hc hk
      rcases hk with hk | hk
      ·exact .inl hk
      ·simp only [hc,if_false] at hk;exact .inr hk
     have gA:∀k,¬Mu.own ⟨μ.nm,fun c=>if c=hp.length then [] else μ.ft c⟩ hp.length k:=by
      intro k hk
      rcases hk with hk | hk
      ·have dO:μ hp.length=some k:=hk
       rw [kh] at dO;cases dO
      ·simp at hk
     refine ⟨.refl _,fun _ h=> .inl h,.refl _ _,fun _ _ h=>h,fun b g h=> .inl h,fun c _ hn => ?_,fun c hc fw h => ?_,fun c hc fw h k hk => ?_,fun c d b1 b2 k bc hc hd h1 h2 k1 k2 => ?_⟩
     ·show (if c=hp.length then [] else μ.ft c)=μ.ft c
      rw [if_neg (by rintro rfl;exact hn ⟨Nat.le_refl _,by simp⟩)]
     ·rcases lW h with ⟨hl,h⟩ | ⟨hl,rfl⟩
      ·obtain ⟨eV,h⟩:=vZ h
       simp only [List.length_set] at hl
       have cW:c∈b::bs:=by rcases hc with hc | hc;exact hc;omega
       exact (vr.holds c cW fw h).keep (.refl w (fun _=>False)) (.refl _) (fun _ _ h=>h) (fun h=>h) (by show (if c=hp.length then [] else μ.ft c)=μ.ft c;rw [if_neg (by omega)]) (fun _ _ h=>h) (fun k hk=>(vr.holds c cW fw h).kV hk)
      ·simp only [List.length_set] at hl
       subst hl
       exact .inr (.inl ⟨kh,by simp⟩)
     ·rcases lW h with ⟨hl,h⟩ | ⟨hl,rfl⟩
      ·obtain ⟨eV,h⟩:=vZ h
       simp only [List.length_set] at hl
       rcases hc with hc | hc
       ·omega
       ·exact absurd (by simpa using hc) eV
      ·simp only [List.length_set] at hl
       subst hl
       exact (gA k hk).elim
     ·rcases lW h1 with ⟨hl,h1⟩ | ⟨hl,_⟩
      ·obtain ⟨eV,h1⟩:=vZ h1
       simp only [List.length_set] at hl
       rcases lW h2 with ⟨jj,h2⟩ | ⟨jj,_⟩
       ·obtain ⟨qH,h2⟩:=vZ h2
        simp only [List.length_set] at jj
        have cW:c∈b::bs:=by rcases hc with hc | hc;exact hc;omega
        have mR:d∈b::bs:=by rcases hd with hd | hd;exact hd;omega
        exact vr.inj c cW d mR _ _ k bc h1 h2 (gd c k (by omega) k1) (gd d k (by omega) k2)
       ·simp only [List.length_set] at jj
        subst jj;exact (gA k k2).elim
      ·simp only [List.length_set] at hl
       subst hl;exact (gA k k1).elim
   | succ m=>
    obtain ⟨fC,row,hr,sL,lB,gb,xu⟩:=Dy (P:=P) (ty:=ty) (b:=a') (cap:=0) hu hi hz jn kO LJ.2 LJ.1 (by rcases dc with h | ⟨g,off,h⟩;exact .inl ⟨h,rfl,rfl⟩;exact .inr ⟨_,h,by simp⟩) (m:=m+1) (c:=c) (by omega) h1 h2 h3 (by omega) sE sI
    obtain ⟨k1,k2⟩:=Me [] fC row (List.nil_sublist _) sL lB gb xu
    exact ⟨_,_,_,hr,k1,k2⟩
 ·rename_i n full kH
  split at h
  ·cases h
   simp only [V.R] at hx
   have kq:=hx
   obtain ⟨a0,cap,rfl,hn,_⟩:=hx
   obtain ⟨a,c,nv,rfl,_⟩:=BX m0 hy pre.holds
   exact ⟨_,_,_,uf hu hi a0 n cap hn a c,by simp only [V.R];exact kq,Good.same hp pre⟩
  ·split at h
   case isFalse=>cases h
   case isTrue hc=>
   obtain ⟨hf,hl,sE,sI⟩:=hc
   subst hf
   cases h
   simp only [V.R] at hx
   obtain ⟨a0,cap,rfl,_,mb,vp,fK⟩:=hx
   obtain rfl:cap=n:=by simpa using mb
   obtain ⟨a,c,nv,rfl,h1,h2,_,h3,_⟩:=BX m0 hy pre.holds
   have key:∃ov:List Value,V.RL P I cf w (kH.take (cap*i.size)) ov/\(a0=none/\cap=0/\cap=0\/∃ad,a0=some ad/\∀j u,ov[j]?=some u->w.cell? (ad.add j)=some u):=by
    have nilC:kH.take (cap*i.size)=[]->∃ov:List Value,V.RL P I cf w (kH.take (cap*i.size)) ov/\(a0=none/\cap=0/\cap=0\/∃ad,a0=some ad/\∀j u,ov[j]?=some u->w.cell? (ad.add j)=some u):=by
     intro h0
     refine ⟨[],by rw [h0];simp [V.RL],?_⟩
     rcases vp with ⟨rfl,h0⟩ | ⟨g,off,rfl⟩
     ·exact .inl ⟨rfl,h0,h0⟩
     ·exact .inr ⟨_,rfl,by simp⟩
    rcases fK with rfl | h0 | ⟨g,off,rfl,_,cells,e,fr,hg,eX⟩
    ·exact nilC (by simp)
    ·exact nilC (by rw [h0];simp)
    ·refine ⟨((cells.toList.drop off).take kH.length).take (cap*i.size),eX.take _,.inr ⟨_,rfl,fun j v hv => ?_⟩⟩
     rw [Addr.add_mid]
     rw [List.getElem?_take] at hv
     split at hv
     ·rw [List.getElem?_take] at hv
      split at hv
      ·rw [List.getElem?_drop] at hv
       simpa [World.cell?,hg] using hv
      ·cases hv
     ·cases hv
   obtain ⟨ov,ho,vq⟩:=key
   obtain ⟨fC,row,hr,sL,lB,gb,xu⟩:=Dy (P:=P) (ty:=ty) (μ:=μ) (olds:=[.aw (kH.take (cap*i.size))]) hu hi hz jn kO (by simpa [flat] using hl) (.yl ho) vq (Nat.succ_pos _) h1 h2 h3 (by omega) sE sI
   obtain ⟨hg,de⟩:=Good.xZ (P:=P) (I:=I) (μ:=μ) (w:=w) (hp:=hp) (blk:=([.aw (kH.take (cap*i.size))]++news,elem)) (cs:=row) (fr:=(0,0)) (wd:=w.drew) (.inr rfl) (by simpa using pre) (.inl (Nat.le_refl _)) sL
   refine ⟨_,_,_,hr,?_,hg⟩
   simp only [V.R]
   exact .inl ⟨_,fC,elem,row.size,i,Mu.kX _ _ _ _,rfl,gb,xu,by simp,de,hi,by omega⟩
 ·cases h
end
section
variable {P:Program} {I:Nat->Prop} {μ μ':Mu} {w w':World} {hp:Hp} {out:Out}
theorem ZY {t ty:TypeId} {x:V} {vx:Value} (h:evLen P hp t x=some out) (hx:V.R P I μ w x vx):
  out.hp=hp/\out.wr=[]/\out.acc=[]/\∃val,(Builtin.len_ #[t] ty #[vx]).run P w= .ok val w/\V.R P I μ w out.v val:=by
 unfold evLen at h;split at h;case h_4=>cases h
 all_goals (split at h <;> cases h) <;> rename_i hu <;> simp only [V.R] at hx
 ·subst hx;refine ⟨rfl,rfl,rfl,goInt _,by simp [Builtin.len_,run_underlying hu];rfl,by simp [V.R,goInt,ByteArray.size]⟩
 ·rcases hx with ⟨g,cap,e,N,i,_,rfl,_⟩ | ⟨_,rfl,a',rfl,_⟩
  ·refine ⟨rfl,rfl,rfl,_,by simp [Builtin.len_,run_underlying hu];rfl,by simp [V.R,goInt]⟩
  ·refine ⟨rfl,rfl,rfl,_,by simp [Builtin.len_,run_underlying hu];rfl,by simp [V.R,goInt]⟩
 ·obtain ⟨a,cap,rfl,_⟩:=hx;refine ⟨rfl,rfl,rfl,_,by simp [Builtin.len_,run_underlying hu];rfl,by simp [V.R,goInt]⟩
theorem K5 {d:Nat} {f:Field} {x y:V} {vx vy:Value} {r:Bool} (h:flatEq P f x y=some r) (hx:V.R P I μ w x vx) (hy:V.R P I μ w y vy):
  (Op.equalIn (d+1) f.type vx vy).run P w= .ok r w/\∃dd,P.underlying f.type=some dd/\kx dd=false:=by
 unfold flatEq at h;split at h;case h_4=>cases h
 all_goals rename_i hu;simp only [V.R] at hx hy
 ·subst hx hy;split at h
  ·rename_i hk;subst hk;cases h;exact ⟨run_equalIn_int w d _ _ _ _ _ hu,_,hu,rfl⟩
  ·cases h
 ·subst hx hy;cases h;exact ⟨run_equalIn_bool w d _ _ _ hu,_,hu,rfl⟩
 ·subst hx hy;cases h;refine ⟨?_,_,hu,rfl⟩;rw [run_equalIn_string w d _ _ _ hu];simp
theorem E9 {d:Nat} {xs ys:List V} {vx vy:Array Value} (hx:V.RL P I μ w xs vx.toList) (hy:V.RL P I μ w ys vy.toList):∀ {fs:List Field} {r:Bool},flatEqs P xs ys fs=some r ->
  (Op.eqFields (d+1) vx vy fs).run P w= .ok r w
 | [],r,h=>by cases h;simp [Op.eqFields]
 | f::fs,r,h=>by
  unfold flatEqs at h;split at h;case isTrue=>cases h
  case isFalse hn=>
  split at h;case h_2=>cases h
  case h_1 x y YT YX=>
  obtain ⟨u,hu,A1⟩:=hx.get YT;obtain ⟨v,hv,Mn⟩:=hy.get YX;have sS:∀(vs:Array Value) (u:Value) (dd:TypeDesc),vs.toList[f.offset]?=some u->P.underlying f.type=some dd->kx dd=false->(part f.type vs f.offset).run P w= .ok u w:=by
   intro vs u dd hu hd hr;rw [Array.getElem?_toList] at hu;simp only [part,Sem.run_bind,yk hd,Result.andThen_ok,hr,Bool.false_eq_true,if_false,hu,Sem.run_pure]
  split at h
  ·rename_i he;obtain ⟨h1,dd,hd,hr⟩:=K5 (d:=d) he A1 Mn;have ih:=E9 (d:=d) hx hy h;simp only [Op.eqFields,ne_eq,hn,not_false_eq_true,if_true,Sem.run_bind,sS vx u dd hu hd hr,sS vy v dd hv hd hr,Result.andThen_ok,h1,Bool.not_true,Bool.false_eq_true,if_false,ih]
  ·rename_i he;cases h
   obtain ⟨h1,dd,hd,hr⟩:=K5 (d:=d) he A1 Mn;simp only [Op.eqFields,ne_eq,hn,not_false_eq_true,if_true,Sem.run_bind,sS vx u dd hu hd hr,sS vy v dd hv hd hr,Result.andThen_ok,h1,Bool.not_false,Sem.run_pure]
  ·cases h
theorem Zs {t:TypeId} {op:BinOp} {k:IntKind} {a b:Int} {v:V} (h:evInt op k a b=some v):∃val,(binOp op t (.int k a) (.int k b)).run P w= .ok val w/\V.R P I μ w v val:=by
 unfold evInt at h;split at h
 ·cases h;exact ⟨.int k (k.wrap (a+b)),by simp [binOp,Op.intArith],by simp [V.R]⟩
 ·cases h;exact ⟨.int k (k.wrap (a - b)),by simp [binOp,Op.intArith],by simp [V.R]⟩
 ·cases h;exact ⟨.int k (k.wrap (a*b)),by simp [binOp,Op.intArith],by simp [V.R]⟩
 ·split at h
  ·cases h
  ·rename_i hb;cases h;exact ⟨.int k (k.wrap (a.tdiv b)),by simp [binOp,Op.intDiv,hb],by simp [V.R]⟩
 ·split at h
  ·cases h
  ·rename_i hb;cases h;exact ⟨.int k (a.tmod b),by simp [binOp,Op.intDiv,hb],by simp [V.R]⟩
 ·unfold evCmp at h;split at h <;> cases h;all_goals refine ⟨_,by simp only [binOp];simp [Op.intCmp];rfl,by simp [V.R]⟩
theorem aP6 {t:TypeId} {op:BinOp} {a b:List UInt8} {v:V} (h:evStr op a b=some v):∃val,(binOp op t (.string ⟨a.toArray⟩) (.string ⟨b.toArray⟩)).run P w= .ok val w/\V.R P I μ w v val:=by
 unfold evStr at h;split at h
 ·split at h
  ·rename_i hl;cases h
   refine ⟨.string ⟨(a++b).toArray⟩,?_,by simp [V.R]⟩;have hn:¬(9223372036854775807<(a.length:Int)+(b.length:Int)):=ag;have e:(⟨a.toArray⟩++⟨b.toArray⟩:ByteArray)=⟨(a++b).toArray⟩:=by apply ByteArray.ext;simp
   simp only [binOp];simp [Op.stringOp,ByteArray.size,hn,e]
  ·cases h
 all_goals first | (cases h;done) | skip
 all_goals
  cases h
  refine ⟨_,by simp only [binOp];simp [Op.stringOp];rfl,by simp [V.R]⟩
theorem Fk (op:BinOp) (t:TypeId) (ox oy:Operand) (k k':IntKind) (a b:Int):(eqGuard op t ox oy (.int k a) (.int k' b)).run P w= .ok () w:=by cases op <;> rfl
theorem Wv (op:BinOp) (t:TypeId) (ox oy:Operand) (a b:ByteArray):(eqGuard op t ox oy (.string a) (.string b)).run P w= .ok () w:=by cases op <;> rfl
theorem Lo (op:BinOp) (t:TypeId) (ox oy:Operand) (a b:Bool):(eqGuard op t ox oy (.bool a) (.bool b)).run P w= .ok () w:=by cases op <;> rfl
theorem Wu (op:BinOp) (t:TypeId) (ox oy:Operand) (a:Option Addr) (l c:Nat) (b:Option Addr) (m d:Nat):(eqGuard op t ox oy (.slice a l c) (.slice b m d)).run P w= .ok () w:=by cases op <;> rfl
theorem S8 {op:BinOp} {t:TypeId} {ox oy:Operand} {x y v:V} {vx vy:Value} (h:evBin P op t x y=some v) (hx:V.R P I μ w x vx) (hy:V.R P I μ w y vy):
  ∃val,(do eqGuard op t ox oy vx vy;binOp op t vx vy:Sem Value).run P w= .ok val w/\V.R P I μ w v val:=by
 unfold evBin at h;split at h
 ·simp only [V.R] at hx hy;subst hx hy;split at h
  ·rename_i hk;subst hk;obtain ⟨val,h1,h2⟩:=Zs (P:=P) (I:=I) (μ:=μ) (w:=w) (t:=t) h;exact ⟨val,by rw [Sem.run_bind,Fk];exact h1,h2⟩
  ·cases h
 ·simp only [V.R] at hx hy;subst hx hy;obtain ⟨val,h1,h2⟩:=aP6 (P:=P) (I:=I) (μ:=μ) (w:=w) (t:=t) h;exact ⟨val,by rw [Sem.run_bind,Wv];exact h1,h2⟩
 ·simp only [V.R] at hx hy;subst hx hy;split at h
  ·rename_i hu;cases h
   refine ⟨_,by rw [Sem.run_bind,Lo];simp only [Result.andThen_ok,binOp];simp [run_equal_bool w t _ _ hu];rfl,by simp [V.R]⟩
  ·rename_i hu;cases h
   refine ⟨_,by rw [Sem.run_bind,Lo];simp only [Result.andThen_ok,binOp];simp [run_equal_bool w t _ _ hu];rfl,by simp [V.R]⟩
  ·cases h
 ·simp only [V.R] at hx hy;obtain ⟨ax,rfl,hx⟩:=hx;obtain ⟨ay,rfl,hy⟩:=hy;split at h
  ·rename_i fs hu cL u9;cases hr:flatEqs P _ _ fs.toList with
   | none=>rw [hr] at h;cases h
   | some r=>
    rw [hr] at h;cases h;have hf:P.fieldsOf t=fs:=by simp [Program.fieldsOf,hu]
    refine ⟨.bool r,?_,by simp [V.R]⟩;rw [Sem.run_bind,run_eqGuard_agg w .eql t ox oy ax ay u9];simp only [Result.andThen_ok];rw [run_eql_struct,run_equalIn_struct w 9999 t ax ay (by rw [hf];exact hu) cL,hf,E9 hx hy hr];rfl
  ·rename_i fs hu cL u9;cases hr:flatEqs P _ _ fs.toList with
   | none=>rw [hr] at h;cases h
   | some r=>
    rw [hr] at h;cases h;have hf:P.fieldsOf t=fs:=by simp [Program.fieldsOf,hu]
    refine ⟨.bool (!r),?_,by simp [V.R]⟩;rw [Sem.run_bind,run_eqGuard_agg w .neq t ox oy ax ay u9];simp only [Result.andThen_ok];rw [run_neq_struct,run_equalIn_struct w 9999 t ax ay (by rw [hf];exact hu) cL,hf,E9 hx hy hr];rfl
  ·cases h
 ·cases h
theorem aT7 {op:UnOp} {x v:V} {vx:Value} (h:evUn op x=some v) (hx:V.R P I μ w x vx):∃val,(Op.unary op vx).run P w= .ok val w/\V.R P I μ w v val:=by
 unfold evUn at h;split at h;case h_3=>cases h
 all_goals (split at h <;> cases h) <;> (simp only [V.R] at hx;subst hx)
 ·exact ⟨_,by simp [Op.unary,Op.intArith];rfl,by simp [V.R]⟩
 ·exact ⟨_,by simp [Op.unary];rfl,by simp [V.R]⟩
theorem DL:∀ {cs:List V} {l:List UInt8} {vs:List Value},bytesV cs=some l->V.RL P I μ w cs vs->vs=bv l
 | [],l,vs,h,hr=>by cases h;simpa [V.RL,bv] using hr
 | c::cs,l,vs,h,hr=>by
  unfold bytesV at h;split at h
  ·rename_i e;cases e
  ·rename_i n cs' e;cases e
   split at h
   ·rename_i hn;cases hb:bytesV cs with
    | none=>rw [hb] at h;cases h
    | some l'=>
     rw [hb] at h;cases h;simp only [V.RL] at hr;obtain ⟨u,us,rfl,h1,h2⟩:=hr;simp only [V.R] at h1;subst h1;have:=DL hb h2;subst this;have hm:n % 256=n:=ag;simp [bv,UInt8.toNat_ofNat'];omega
   ·cases h
  ·cases h
theorem Jz:∀ {cs:List V} {l:List UInt8},bytesV cs=some l->jK cs=true
 | [],_,_=>rfl
 | c::cs,l,h=>by
  unfold bytesV at h;split at h
  ·rename_i e;cases e
  ·rename_i n t e;split at h
   ·obtain ⟨l',h1,_⟩:=Option.map_eq_some_iff.1 h;cases e
    have:=Jz h1;unfold jK at this ⊢;rw [List.all_cons,this];rfl
   ·cases h
  ·cases h
theorem UG {s d:TypeId} {x:V} {vx:Value} (h:evConv P hp s d x=some out) (hx:V.R P I μ w x vx) (pre:cV P I μ w hp out.acc out.hp.length):
  ∃val w' μ',(convert s d vx).run P w= .ok val w'/\V.R P I μ' w' out.v val/\Good P I I μ μ' w w' hp out.hp out.acc out.wr:=by
 unfold evConv at h;split at h
 ·simp only [V.R] at hx;subst hx;split at h
  ·rename_i hs hd;cases h
   exact ⟨_,w,μ,by simp [convert,run_underlying hs,run_underlying hd,Conv.intToInt];rfl,by simp [V.R],Good.same hp pre⟩
  ·cases h
 ·rename_i l;simp only [V.R] at hx;subst hx;split at h
  ·rename_i hs hd;cases h
   exact ⟨_,w,μ,by simp [convert,run_underlying hs,run_underlying hd];rfl,by simp [V.R],Good.same hp pre⟩
  ·rename_i e hs hd;split at h
   ·rename_i i he hi;split at h
    ·rename_i hc;cases h
     have hr:=run_bytes_of_string (P:=P) w s d e ⟨l.toArray⟩ hs hd he;have cQ:(⟨l.toArray⟩:ByteArray).size=l.length:=rfl;rw [cQ] at hr;have gb:=grownCap_ge w l.length 0 e;have eD:(bytesRow ⟨l.toArray⟩ (grownCap w l.length 0 e)).size=grownCap w l.length 0 e:=by
      simp only [bytesRow,cQ];simp;omega
     obtain ⟨hg,de⟩:=Good.xZ (P:=P) (I:=I) (μ:=μ) (w:=w) (hp:=hp) (acc:=[]) (blk:=([.aw (l.map fun b=>V.int .u8 b.toNat)],e)) (cs:=bytesRow ⟨l.toArray⟩ (grownCap w l.length 0 e))
      (fr:=((bytesRow ⟨l.toArray⟩ (grownCap w l.length 0 e)).size,(bytesRow ⟨l.toArray⟩ (grownCap w l.length 0 e)).size+1)) (wd:=w.drew) (.inr rfl) (by simpa using pre) (.inr (Nat.le_refl _)) (.aw (by simp [eD];exact gb) (by
       have e1:(bytesRow ⟨l.toArray⟩ (grownCap w l.length 0 e)).toList.take (l.map fun b=>V.int .u8 b.toNat).length=bv l:=by
        simp [bytesRow,bv]
       rw [e1];clear hr eD pre hc gb cQ e1;induction l with
       | nil=>simp [V.RL,bv]
       | cons b l ih=>simp only [List.map_cons,V.RL,bv];exact ⟨_,_,rfl,by simp [V.R],ih⟩))
     refine ⟨_,_,_,hr,?_,hg⟩;simp only [V.R];exact .inl ⟨_,grownCap w l.length 0 e,e,_,i,Mu.kX _ _ _ _,rfl,gb,grownCap_le_maxLen w _ _ _ hc.1,by simp,de,hi,by rw [hc.2];show 0+_*1<=(bytesRow _ _).size;rw [eD];omega⟩
    ·cases h
   ·cases h
  ·cases h
 ·rename_i b off n full;simp only [V.R] at hx;split at h
  ·rename_i e hs hd;split at h
   ·rename_i blk he hb;split at h
    ·rename_i hl;split at h
     ·rename_i l oa;cases h
      rcases hx with ⟨g,cap,e',N,i,hg,rfl,_,_,_,de,_⟩ | ⟨rfl,rfl,a',rfl,_⟩
      ·obtain ⟨cs,eD,cQ,eX⟩:=(pre.holds b (by simp) blk hb).P8 hg de;have kP:=eX.part off n (Jz oa);have bO:=DL oa kP;have cD:n=l.length:=by have:=kP.length;rw [bO,hl] at this;simpa [bv] using this.symm
       refine ⟨_,w,μ,Hy w s d e hs he hd _ n cap l cD (.inr ⟨_,rfl,eD.lt,fun j u hu => ?_⟩),by simp [V.R],Good.same hp pre⟩;rw [<- bO] at hu;rw [Addr.add_mid];exact eD.range off _ _ j u hu
      ·simp only [List.drop_zero,List.take_zero,bytesV,Option.some.injEq] at oa;subst oa;exact ⟨_,w,μ,Hy w s d e hs he hd a' 0 0 [] rfl (.inl rfl),by simp [V.R],Good.same hp pre⟩
     ·cases h
    ·cases h
   ·cases h
  ·cases h
 ·rename_i n full kH;simp only [V.R] at hx;obtain ⟨a,cap,rfl,_,_,_,fK⟩:=hx;split at h
  ·rename_i e hs hd;split at h
   ·rename_i he;split at h
    ·rename_i hl;split at h
     ·rename_i l oa;cases h
      have key:∃nv:List Value,V.RL P I μ w (kH.take n) nv/\tZ w a nv:=by
       rcases fK with rfl | h0 | ⟨g,off,rfl,_,cells,e,fr,hg,eX⟩
       ·exact ⟨[],by simp [V.RL],.inl rfl⟩
       ·exact ⟨[],by rw [h0];simp [V.RL],.inl rfl⟩
       ·refine ⟨((cells.toList.drop off).take kH.length).take n,zM (eX.take _),.inr ⟨_,rfl,(Array.getElem?_eq_some_iff.1 hg).1,fun j v hv => ?_⟩⟩;rw [Addr.add_mid];rw [List.getElem?_take] at hv;split at hv
        ·rw [List.getElem?_take] at hv;split at hv
         ·rw [List.getElem?_drop] at hv;simpa [World.cell?,hg] using hv
         ·cases hv
        ·cases hv
      obtain ⟨nv,h1,h2⟩:=key;have bO:=DL oa h1;have cD:n=l.length:=by have:=h1.length;rw [bO,hl] at this;simpa [bv] using this.symm
      exact ⟨_,w,μ,Hy w s d e hs he hd _ n cap l cD (by rw [<- bO];exact h2),by simp [V.R],Good.same hp pre⟩
     ·cases h
    ·cases h
   ·cases h
  ·cases h
 ·cases h
end
section
variable {P:Program} {I:Nat->Prop} {μ μ':Mu} {w w':World} {hp:Hp} {out:Out}
def OptR (P:Program) (I:Nat->Prop) (μ:Mu) (w:World):Option V->Option Value->Prop
 | none,v=>v=none
 | some x,v=>∃u,v=some u/\V.R P I μ w x u
theorem qh {x:V} {vx:Value} {d lim lim' k:Nat} {code:BoundsCode} (h:evBound (some x) d lim=some k) (hx:V.R P I μ w x vx) (hl:lim<=lim'):(Instr.sliceBound vx lim' code).run P w= .ok k w/\k<=lim:=by
 unfold evBound at h;split at h
 ·rename_i e;cases e
 ·rename_i kk i e;cases e
  split at h
  ·rename_i hc;cases h
   simp only [V.R] at hx;subst hx;exact ⟨run_sliceBound w kk i lim' code hc.1 ag,ag⟩
  ·cases h
 ·cases h
theorem vW {t e:TypeId} {s:Nat} (hu:P.underlying t=some (.slice e)) (hs:dA P e=some s) (a:Option Addr) (len cap:Nat) (lo hi mx:Option Value) (l h m:Nat)
  (hb:(Instr.sliceBounds true len cap lo hi mx).run P w= .ok (l,h,m) w):(Instr.sliceAt t (.slice a len cap) lo hi mx).run P w= .ok (.slice (if m=l then a else a.map (·.add (l*s))) (h - l) (m - l)) w:=by
 simp only [Instr.sliceAt,Sem.run_bind,run_underlying hu,Result.andThen_ok,Instr.slice,hb,run_sizeOf hs,Sem.run_pure]
theorem zY {isS:Bool} {n cap k h:Nat} {lo hi:Option V} {vl vh:Option Value} (h1:evBound hi n n=some h) (h2:evBound lo 0 h=some k) (jG:OptR P I μ w lo vl) (ie:OptR P I μ w hi vh) (hn:n<=cap):
  (Instr.sliceBounds isS n cap vl vh none).run P w= .ok (k,h,cap) w/\k<=h/\h<=n:=by
 have hh:(hi=none/\vh=none/\h=n)\/∃u,vh=some u/\h<=n/\∀code,(Instr.sliceBound u cap code).run P w= .ok h w:=by
  cases hi with
  | none=>simp only [OptR] at ie;subst ie;cases h1;exact .inl ⟨rfl,rfl,rfl⟩
  | some x=>
   simp only [OptR] at ie;obtain ⟨u,rfl,hu⟩:=ie;exact .inr ⟨u,rfl,(qh (code:= .sliceAcap) h1 hu hn).2,fun code=>(qh (code:=code) h1 hu hn).1⟩
 have hk:(lo=none/\vl=none/\k=0)\/∃u,vl=some u/\k<=h/\∀code,(Instr.sliceBound u h code).run P w= .ok k w:=by
  cases lo with
  | none=>simp only [OptR] at jG;subst jG;cases h2;exact .inl ⟨rfl,rfl,rfl⟩
  | some x=>
   simp only [OptR] at jG;obtain ⟨u,rfl,hu⟩:=jG;exact .inr ⟨u,rfl,(qh (code:= .sliceB) h2 hu (Nat.le_refl _)).2,fun code=>(qh (code:=code) h2 hu (Nat.le_refl _)).1⟩
 rcases hh with ⟨_,rfl,rfl⟩ | ⟨u,rfl,hle,hc⟩ <;> rcases hk with ⟨_,rfl,rfl⟩ | ⟨v,rfl,hle',hd⟩
 ·exact ⟨rfl,ag,ag⟩
 ·exact ⟨by simp [Instr.sliceBounds,hd],ag,ag⟩
 ·exact ⟨by simp [Instr.sliceBounds,hc],ag,ag⟩
 ·exact ⟨by simp [Instr.sliceBounds,hc,hd],ag,ag⟩
theorem DG {n cap k h m:Nat} {lo:Option V} {hi mx:V} {vl:Option Value} {vh vm:Value} (h0:evBound (some mx) 0 n=some m) (h1:evBound (some hi) 0 m=some h) (h2:evBound lo 0 h=some k) (jG:OptR P I μ w lo vl) (ie:V.R P I μ w hi vh) (jk:V.R P I μ w mx vm) (hn:n<=cap):
  (Instr.sliceBounds true n cap vl (some vh) (some vm)).run P w= .ok (k,h,m) w/\k<=h/\h<=m/\m<=n:=by
 obtain ⟨a1,a2⟩:=qh (code:= .slice3Acap) h0 jk hn;obtain ⟨b1,b2⟩:=qh (code:= .slice3B) h1 ie (Nat.le_refl _);have hk:(lo=none/\vl=none/\k=0)\/∃u,vl=some u/\k<=h/\∀code,(Instr.sliceBound u h code).run P w= .ok k w:=by
  cases lo with
  | none=>simp only [OptR] at jG;subst jG;cases h2;exact .inl ⟨rfl,rfl,rfl⟩
  | some x=>
   simp only [OptR] at jG;obtain ⟨u,rfl,hu⟩:=jG;exact .inr ⟨u,rfl,(qh (code:= .sliceB) h2 hu (Nat.le_refl _)).2,fun code=>(qh (code:=code) h2 hu (Nat.le_refl _)).1⟩
 rcases hk with ⟨_,rfl,rfl⟩ | ⟨v,rfl,hle',hd⟩
 ·exact ⟨by simp [Instr.sliceBounds,a1,b1],ag,ag,ag⟩
 ·exact ⟨by simp [Instr.sliceBounds,a1,b1,hd],ag,ag,ag⟩
theorem ag6 {g off n:Nat} {cs:List V} (h:cs=[]\/I g/\∃cells e fr,w.heap[g]?=some (.cells cells e fr)/\V.RL P I cf w cs ((cells.toList.drop off).take cs.length)):
  cs.take n=[]\/I g/\∃cells e fr,w.heap[g]?=some (.cells cells e fr)/\V.RL P I cf w (cs.take n) ((cells.toList.drop off).take (cs.take n).length):=by
 rcases h with rfl | ⟨hi,cells,e,fr,hg,hr⟩
 ·exact .inl (by simp)
 ·refine .inr ⟨hi,cells,e,fr,hg,?_⟩;have:=hr.take n;rw [List.take_take] at this;rw [List.length_take];exact this
theorem Gz {g off n:Nat} {cs:List V} (h:cs=[]\/I g/\∃cells e fr,w.heap[g]?=some (.cells cells e fr)/\V.RL P I cf w cs ((cells.toList.drop off).take cs.length)):
  cs.drop n=[]\/I g/\∃cells e fr,w.heap[g]?=some (.cells cells e fr)/\V.RL P I cf w (cs.drop n) ((cells.toList.drop (off+n)).take (cs.drop n).length):=by
 rcases h with rfl | ⟨hi,cells,e,fr,hg,hr⟩
 ·exact .inl (by simp)
 ·refine .inr ⟨hi,cells,e,fr,hg,?_⟩;have:=hr.drop n;rw [List.drop_take,List.drop_drop] at this;rw [List.length_drop];exact this
theorem Kw {a:Option Addr} {cs:List V} {k h m s:Nat} (L5:k<=h) (hhm:h<=m)
  {n:Nat} (hn:h<=n) (fK:cs=[]\/n=0\/∃g off,a=some ⟨g,off,none⟩/\I g/\∃cells e fr,w.heap[g]?=some (.cells cells e fr)/\V.RL P I cf w cs ((cells.toList.drop off).take cs.length)):
  (cs.take (h*s)).drop (k*s)=[]\/h - k=0\/∃g off,(if m=k then a else a.map (·.add (k*s)))=some ⟨g,off,none⟩/\I g/\∃cells e fr,w.heap[g]?=some (.cells cells e fr)/\V.RL P I cf w ((cs.take (h*s)).drop (k*s)) ((cells.toList.drop off).take ((cs.take (h*s)).drop (k*s)).length):=by
 rcases fK with rfl | rfl | ⟨g,off,rfl,fK⟩
 ·exact .inl (by simp)
 ·exact .inl (by obtain rfl:h=0:=ag
                 simp)
 ·by_cases X0:m=k
  ·obtain rfl:h=k:=ag
   exact .inl (List.drop_eq_nil_of_le (by simp;omega))
  ·rw [if_neg X0]
   rcases Gz (n:=k*s) (ag6 (n:=h*s) (.inr fK)) with h0 | h0
   ·exact .inl h0
   ·exact .inr <| .inr ⟨g,off+k*s,by simp [Addr.add_mid],h0⟩
theorem Kv {a:Option Addr} {cap m k s:Nat} (hm:m<=cap) (h:a=none/\cap=0\/∃g off,a=some ⟨g,off,none⟩):
  (if m=k then a else a.map (·.add (k*s)))=none/\m - k=0\/∃g off,(if m=k then a else a.map (·.add (k*s)))=some ⟨g,off,none⟩:=by
 rcases h with ⟨rfl,h0⟩ | ⟨g,off,rfl⟩
 ·exact .inl ⟨by split <;> rfl,ag⟩
 ·right;split
  ·exact ⟨g,off,rfl⟩
  ·exact ⟨g,off+k*s,by simp [Addr.add_mid]⟩
theorem Vs {a:Option Addr} {cap k s:Nat} (_:k<=cap) (h:a=none/\cap=0\/∃g off,a=some ⟨g,off,none⟩):
  (if cap=k then a else a.map (·.add (k*s)))=none/\cap - k=0\/∃g off,(if cap=k then a else a.map (·.add (k*s)))=some ⟨g,off,none⟩:=Kv (Nat.le_refl _) h
theorem aM8 {t:TypeId} {x:V} {vx:Value} {lo hi mx:Option V} {vl vh vm:Option Value} (h:evSlice P hp t x lo hi mx=some out) (hx:V.R P I μ w x vx) (jG:OptR P I μ w lo vl) (ie:OptR P I μ w hi vh) (jk:OptR P I μ w mx vm)
  (pre:cV P I μ w hp out.acc out.hp.length):
  out.hp=hp/\out.wr=[]/\(∀b∈out.acc,b<hp.length)/\∃val,(Instr.sliceAt t vx vl vh vm).run P w= .ok val w/\V.R P I μ w out.v val:=by
 unfold evSlice at h
 split at h
 ·rename_i l
  simp only [V.R] at hx;simp only [OptR] at jk
  subst hx jk
  split at h
  case h_2=>cases h
  case h_1 hh hu mU=>
  split at h
  case h_2=>cases h
  case h_1 k fA=>
  cases h
  obtain ⟨hb,h1,h2⟩:=zY (isS:=false) (P:=P) (w:=w) (cap:=l.length) mU fA jG ie (Nat.le_refl _)
  refine ⟨rfl,rfl,by simp,.string ((⟨l.toArray⟩:ByteArray).extract k hh),?_,?_⟩
  ·have cQ:(⟨l.toArray⟩:ByteArray).size=l.length:=rfl
   simp only [Instr.sliceAt,Sem.run_bind,run_underlying hu,Result.andThen_ok,Instr.slice,cQ,hb,Sem.run_pure,Option.isSome_none,Bool.false_eq_true,if_false]
  ·simp only [V.R]
   congr 1
   apply ByteArray.ext
   simp [ByteArray.data_extract,List.extract_eq_take_drop,List.drop_take]
 ·rename_i b off n full
  simp only [V.R] at hx;simp only [OptR] at jk
  subst jk
  split at h
  case h_2=>cases h
  case h_1 e hh blk hu mU bz=>
  have bO:b<hp.length:=(List.getElem?_eq_some_iff.1 bz).1
  split at h
  case h_2=>cases h
  case h_1 k s fA hs qJ=>
  have kf:b∈out.acc:=by
   split at h
   ·cases h;simp
   ·split at h <;> (cases h;simp)
  rcases hx with ⟨g,cap,e',N,i,hg,rfl,pB,cN,mb,de,iJ,hN⟩ | ⟨rfl,rfl,a',rfl,dc⟩
  case inr=>
   obtain ⟨hb,h1,h2⟩:=zY (isS:=true) (P:=P) (w:=w) (cap:=0) mU fA jG ie (Nat.le_refl _)
   obtain rfl:hh=0:=by omega
   obtain rfl:k=0:=by omega
   have hr:=vW (P:=P) (w:=w) hu hs a' 0 0 vl vh none 0 0 0 hb
   split at h
   ·cases h
    refine ⟨rfl,rfl,by simpa using bO,_,hr,?_⟩
    simp only [V.R]
    exact .inr ⟨a8,a8,a',by simp,dc⟩
   ·split at h
    ·omega
    ·cases h
     refine ⟨rfl,rfl,by simpa using bO,_,hr,?_⟩
     simp only [V.R]
     exact ⟨a',0,by simp,Nat.le_refl _,fun _=>rfl,dc.imp (fun h=>⟨h,rfl⟩) id,.inl trivial⟩
  obtain ⟨cs,fr,_,hw,_⟩:=(pre.holds b kf blk bz).mr hg de
  have qM:=oD hw
  rw [de] at qM
  cases qM
  rw [eq_of_beq qJ] at iJ
  have cQ:i.size=s:=by unfold dA at hs;rw [iJ] at hs;simpa using hs
  subst cQ
  obtain ⟨hb,h1,h2⟩:=zY (isS:=true) (P:=P) (w:=w) mU fA jG ie pB
  have hr:=vW (P:=P) (w:=w) hu hs (some ⟨g,off,none⟩) n cap vl vh none k hh cap hb
  have xx:(full&&hh==n)=true->cap=hh:=by
   intro hf;simp at hf;have:=mb hf.1;omega
  split at h
  ·cases h
   have vi:k=0:=by simp only [evBound,Option.some.injEq] at fA;exact fA.symm
   subst vi
   refine ⟨rfl,rfl,by simpa using bO,_,hr,?_⟩
   simp only [V.R]
   refine .inl ⟨g,cap,_,_,i,hg,?_,by omega,cN,xx,de,by rw [eq_of_beq qJ];exact iJ,hN⟩
   split <;> simp [Addr.add]
  ·split at h
   ·rename_i L5
    cases h
    refine ⟨rfl,rfl,by simpa using bO,_,hr,?_⟩
    rw [if_neg (show ¬cap=k by omega)]
    simp only [V.R]
    have hmul:k*i.size+(cap - k)*i.size=cap*i.size:=by rw [<- Nat.add_mul];congr 1;omega
    exact .inl ⟨g,cap - k,_,_,i,hg,by simp [Addr.add_mid],by omega,by omega,fun hf=>by have:=xx hf;omega,de,by rw [eq_of_beq qJ];exact iJ,by omega⟩
   ·rename_i L5
    cases h
    obtain rfl:k=hh:=by omega
    refine ⟨rfl,rfl,by simpa using bO,_,hr,?_⟩
    simp only [V.R]
    refine ⟨some (if cap=k then ⟨g,off,none⟩ else (⟨g,off,none⟩:Addr).add (k*i.size)),cap - k,?_,by omega,fun hf=>by have:=xx hf;omega,.inr (by split;exact ⟨g,off,rfl⟩;exact ⟨g,off+k*i.size,by simp [Addr.add_mid]⟩),.inl trivial⟩
    split <;> simp
 ·rename_i b off n full m
  simp only [V.R] at hx;simp only [OptR] at jk
  obtain ⟨CA,rfl,jk⟩:=jk
  split at h
  case h_2=>cases h
  case h_1 e m vc blk hu AV bz=>
  have bO:b<hp.length:=(List.getElem?_eq_some_iff.1 bz).1
  simp only [OptR] at ie
  obtain ⟨Cz,rfl,ie⟩:=ie
  split at h
  case h_2=>cases h
  case h_1 hh mU=>
  split at h
  case h_2=>cases h
  case h_1 k s fA hs qJ=>
  have kf:b∈out.acc:=by
   split at h <;> (cases h;simp)
  rcases hx with ⟨g,cap,e',N,i,hg,rfl,pB,cN,mb,de,iJ,hN⟩ | ⟨rfl,rfl,a',rfl,dc⟩
  case inr=>
   obtain ⟨hb,h1,h2,h3⟩:=DG (P:=P) (w:=w) (cap:=0) AV mU fA jG ie jk (Nat.le_refl _)
   obtain rfl:m=0:=by omega
   obtain rfl:hh=0:=by omega
   obtain rfl:k=0:=by omega
   have hr:=vW (P:=P) (w:=w) hu hs a' 0 0 vl (some Cz) (some CA) 0 0 0 hb
   rw [if_pos rfl] at h
   cases h
   refine ⟨rfl,rfl,by simpa using bO,_,hr,?_⟩
   simp only [V.R]
   exact ⟨a',0,by simp,Nat.le_refl _,fun _=>rfl,dc.imp (fun h=>⟨h,rfl⟩) id,.inl trivial⟩
  obtain ⟨cs,fr,_,hw,_⟩:=(pre.holds b kf blk bz).mr hg de
  have qM:=oD hw
  rw [de] at qM
  cases qM
  rw [eq_of_beq qJ] at iJ
  have cQ:i.size=s:=by unfold dA at hs;rw [iJ] at hs;simpa using hs
  subst cQ
  obtain ⟨hb,h1,h2,h3⟩:=DG (P:=P) (w:=w) AV mU fA jG ie jk pB
  have hr:=vW (P:=P) (w:=w) hu hs (some ⟨g,off,none⟩) n cap vl (some Cz) (some CA) k hh m hb
  split at h
  ·rename_i ek
   cases h
   subst ek
   refine ⟨rfl,rfl,by simpa using bO,_,hr,?_⟩
   simp only [V.R]
   refine ⟨some (if m=k then ⟨g,off,none⟩ else (⟨g,off,none⟩:Addr).add (k*i.size)),m - k,?_,by omega,fun hf=>by have:=eq_of_beq hf;omega,.inr (by split;exact ⟨g,off,rfl⟩;exact ⟨g,off+k*i.size,by simp [Addr.add_mid]⟩),.inl trivial⟩
   split <;> simp
  ·rename_i ek
   cases h
   refine ⟨rfl,rfl,by simpa using bO,_,hr,?_⟩
   rw [if_neg (show ¬m=k by omega)]
   simp only [V.R]
   have hmul:k*i.size+(m - k)*i.size=m*i.size:=by rw [<- Nat.add_mul];congr 1;omega
   have FN:m*i.size<=cap*i.size:=Nat.mul_le_mul_right _ (by omega)
   exact .inl ⟨g,m - k,_,_,i,hg,by simp [Addr.add_mid],by omega,by omega,fun hf=>by have:=eq_of_beq hf;omega,de,by rw [eq_of_beq qJ];exact iJ,by omega⟩
 ·rename_i n full kH
  simp only [V.R] at hx;simp only [OptR] at jk
  obtain ⟨a,cap,rfl,pB,mb,vp,fK⟩:=hx
  subst jk
  split at h
  case h_2=>cases h
  case h_1 e hh hu mU=>
  split at h
  case h_2=>cases h
  case h_1 k s fA hs=>
  obtain ⟨hb,h1,h2⟩:=zY (isS:=true) (P:=P) (w:=w) mU fA jG ie pB
  have hr:=vW (P:=P) (w:=w) hu hs a n cap vl vh none k hh cap hb
  have xx:(full&&hh==n)=true->cap=hh:=by
   intro hf;simp at hf;have:=mb hf.1;omega
  cases h
  refine ⟨rfl,rfl,by simp,_,hr,?_⟩
  simp only [V.R]
  refine ⟨_,cap - k,rfl,by omega,fun hf=>by have:=xx hf;omega,Vs (by omega) vp,Kw h1 (by omega) (by omega) fK⟩
 ·rename_i n full kH m
  simp only [V.R] at hx;simp only [OptR] at jk
  obtain ⟨a,cap,rfl,pB,mb,vp,fK⟩:=hx
  obtain ⟨CA,rfl,jk⟩:=jk
  split at h
  case h_2=>cases h
  case h_1 e m vc hu AV=>
  simp only [OptR] at ie
  obtain ⟨Cz,rfl,ie⟩:=ie
  split at h
  case h_2=>cases h
  case h_1 hh mU=>
  split at h
  case h_2=>cases h
  case h_1 k s fA hs=>
  obtain ⟨hb,h1,h2,h3⟩:=DG (P:=P) (w:=w) AV mU fA jG ie jk pB
  have hr:=vW (P:=P) (w:=w) hu hs a n cap vl (some Cz) (some CA) k hh m hb
  cases h
  refine ⟨rfl,rfl,by simp,_,hr,?_⟩
  simp only [V.R]
  refine ⟨_,m - k,rfl,by omega,fun hf=>by have:=eq_of_beq hf;omega,Kv (by omega) vp,Kw h1 h2 (by omega) fK⟩
 ·cases h
end
section
variable {P:Program} {I:Nat->Prop} {μ μ':Mu} {w w':World} {hp:Hp} {out:Out}
theorem fk {b:Nat} {x:Option bM} (h:hp[b]?=some x):b<hp.length:=(List.getElem?_eq_some_iff.1 h).1
theorem Uz {b:Nat} {bs:List Nat} (h:b<hp.length) (hs:∀c∈bs,c<hp.length):∀c∈b::bs,c<hp.length:=by
 intro c hc;rcases List.mem_cons.1 hc with rfl | hc
 ·exact h
 ·exact hs c hc
theorem Z3 {t:TypeId} {x:V} (h:evLoad P hp t x=some out):Tidy hp out.hp out.acc out.wr:=by
 unfold evLoad at h;split at h;case h_3=>cases h
 case h_2=>
  split at h;case h_2=>cases h
  split at h
  ·split at h
   ·cases h;exact .same hp (by simp)
   ·cases h
  ·split at h
   ·cases h;exact .same hp (by simp)
   ·cases h
 split at h;case h_2=>cases h
 rename_i hb _ _;split at h
 ·split at h
  ·cases h;exact .same hp (by simpa using fk hb)
  ·cases h
 ·split at h
  ·split at h
   ·cases h;exact .same hp (by simpa using fk hb)
   ·cases h
  ·cases h
theorem aP5 {t:TypeId} {x y:V} (h:evStore P hp t x y=some out):Tidy hp out.hp out.acc out.wr:=by
 unfold evStore at h;split at h;case h_2=>cases h
 split at h;case h_2=>cases h
 rename_i hb _;split at h
 ·split at h
  ·cases h
   exact ⟨by simp,fun c hc hn=>by rw [List.getElem?_set_ne (fun e=>hn (by simp [e]))],by simp,by simpa using fk hb,by intro c hc;obtain rfl:=List.mem_singleton.1 hc;exact ⟨_,hb⟩⟩
  ·cases h
 ·cases h
theorem QI {size:Nat} {x:V} {bs:List Nat} {m:Nat} {news:List V} (h:srcV hp size x=some (bs,m,news)):∀b∈bs,b<hp.length:=by
 unfold srcV at h;split at h
 ·split at h
  ·rename_i hb;split at h
   ·cases h;simpa using fk hb
   ·cases h
  ·cases h
 ·split at h
  ·cases h;simp
  ·cases h
 ·cases h
theorem SU {t t':TypeId} {x y:V} (h:evAppend P hp t t' x y=some out):Tidy hp out.hp out.acc out.wr:=by
 unfold evAppend at h;split at h;case h_2=>cases h
 split at h;case h_2=>cases h
 split at h;case h_2=>cases h
 split at h;case isFalse=>cases h
 split at h;case h_2=>cases h
 rename_i m0;have hs:=QI m0;split at h
 ·split at h;case h_2=>cases h
  rename_i hb;have bO:=fk hb;split at h;case isFalse=>cases h
  cases h
  refine ⟨by simp,fun c hc hn => ?_,by simp,Uz bO hs,by intro c hc;obtain rfl:=List.mem_singleton.1 hc;exact ⟨_,hb⟩⟩;rw [List.getElem?_append_left (by simpa using hc),List.getElem?_set_ne (fun e=>hn (by simp [e]))]
 ·split at h
  ·cases h;exact .same hp hs
  ·split at h
   ·cases h;exact .new hp _ hs
   ·cases h
 ·cases h
theorem UH {s d:TypeId} {x:V} (h:evConv P hp s d x=some out):Tidy hp out.hp out.acc out.wr:=by
 unfold evConv at h;split at h
 ·split at h
  ·cases h;exact .same hp (by simp)
  ·cases h
 ·split at h
  ·cases h;exact .same hp (by simp)
  ·split at h
   ·split at h
    ·cases h;exact .new hp _ (by simp)
    ·cases h
   ·cases h
  ·cases h
 ·split at h
  ·split at h
   ·rename_i hb;split at h
    ·split at h
     ·cases h;exact .same hp (by simpa using fk hb)
     ·cases h
    ·cases h
   ·cases h
  ·cases h
 ·split at h
  ·split at h
   ·split at h
    ·split at h
     ·cases h;exact .same hp (by simp)
     ·cases h
    ·cases h
   ·cases h
  ·cases h
 ·cases h
theorem aM9 {t:TypeId} {x:V} {lo hi mx:Option V} (h:evSlice P hp t x lo hi mx=some out):Tidy hp out.hp out.acc out.wr:=by
 unfold evSlice at h;split at h
 ·split at h
  ·split at h
   ·cases h;exact .same hp (by simp)
   ·cases h
  ·cases h
 ·split at h
  ·rename_i hb;split at h
   ·split at h
    ·cases h;exact .same hp (by simpa using fk hb)
    ·split at h <;> (cases h;exact .same hp (by simpa using fk hb))
   ·cases h
  ·cases h
 ·split at h
  ·rename_i hb;split at h
   ·split at h
    ·split at h <;> (cases h;exact .same hp (by simpa using fk hb))
    ·cases h
   ·cases h
  ·cases h
 ·split at h
  ·split at h
   ·cases h;exact .same hp (by simp)
   ·cases h
  ·cases h
 ·split at h
  ·split at h
   ·split at h
    ·cases h;exact .same hp (by simp)
    ·cases h
   ·cases h
  ·cases h
 ·cases h
theorem aB2 {e:Operand->V} {op:Op} (h:evPlain P e hp op=some out):Tidy hp out.hp out.acc out.wr:=by
 unfold evPlain at h;split at h
 ·cases h;exact .same hp (by simp)
 ·cases h;exact .same hp (by simp)
 ·split at h
  ·cases h;exact .same hp (by simp)
  ·cases h
 ·unfold evAlloc at h;split at h
  ·cases h;exact .new hp _ (by simp)
  ·cases h
 ·unfold Ag at h;split at h
  ·cases h;exact .new hp _ (by simp)
  ·cases h
 ·unfold evBuild at h;split at h
  ·split at h
   ·split at h
    ·cases h;exact .same hp (by simp)
    ·cases h
   ·cases h
  ·cases h
 ·unfold evBuildSlice at h;split at h
  ·split at h
   ·split at h
    ·split at h
     ·split at h
      ·cases h;exact .new hp _ (by simp)
      ·cases h
     ·cases h
    ·cases h
   ·cases h
  ·cases h
 ·exact Z3 h
 ·exact aP5 h
 ·split at h
  ·cases h;exact .same hp (by simp)
  ·cases h;exact .same hp (by simp)
  ·cases h;exact .same hp (by simp)
  ·cases h
 ·obtain ⟨v,_,rfl⟩:=Option.map_eq_some_iff.1 h;exact .same hp (by simp)
 ·obtain ⟨v,_,rfl⟩:=Option.map_eq_some_iff.1 h;exact .same hp (by simp)
 ·exact UH h
 ·split at h
  ·cases h;exact .same hp (by simp)
  ·cases h
 ·unfold evMakeSlice at h;split at h
  ·split at h
   ·split at h
    ·split at h
     ·split at h
      ·cases h;exact .new hp _ (by simp)
      ·cases h
     ·cases h
    ·cases h
   ·cases h
  ·cases h
 ·exact aM9 h
 ·split at h
  ·split at h
   ·cases h;exact .same hp (by simp)
   ·cases h
  ·split at h
   ·cases h;exact .same hp (by simp)
   ·cases h
  ·split at h
   ·cases h;exact .same hp (by simp)
   ·cases h
  ·cases h
 ·split at h
  ·obtain ⟨v,_,rfl⟩:=Option.map_eq_some_iff.1 h;exact .same hp (by simp)
  ·cases h
 ·split at h
  ·split at h
   ·split at h
    ·cases h;exact .same hp (by simp)
    ·cases h
   ·cases h
  ·split at h
   ·split at h
    ·cases h;exact .same hp (by simp)
    ·cases h
   ·cases h
  ·cases h
 ·obtain ⟨v,_,rfl⟩:=Option.map_eq_some_iff.1 h;exact .same hp (by simp)
 ·split at h
  ·obtain ⟨v,_,rfl⟩:=Option.map_eq_some_iff.1 h;exact .same hp (by simp)
  ·cases h
 ·split at h
  ·exact SU h
  ·unfold evLen at h;split at h;case h_4=>cases h
   all_goals
    split at h
    ·cases h;exact .same hp (by simp)
    ·cases h
  ·obtain ⟨v,_,rfl⟩:=Option.map_eq_some_iff.1 h;exact .same hp (by simp)
  ·obtain ⟨v,_,rfl⟩:=Option.map_eq_some_iff.1 h;exact .same hp (by simp)
  ·cases h
 ·cases h
def pZ (P:Program) (I:Nat->Prop) (μ:Mu) (w:World) (hp:Hp) (out:Out) (s:Sem Value):Prop:=
 ∃val w' μ',s.run P w= .ok val w'/\V.R P I μ' w' out.v val/\Good P I I μ μ' w w' hp out.hp out.acc out.wr
theorem pZ.same {s:Sem Value} (h1:out.hp=hp) (h2:out.wr=[]) (pre:cV P I μ w hp out.acc out.hp.length) (h:∃val,s.run P w= .ok val w/\V.R P I μ w out.v val):pZ P I μ w hp out s:=by
 obtain ⟨val,h3,h4⟩:=h;refine ⟨val,w,μ,h3,h4,?_⟩;rw [h1,h2];rw [h1] at pre;exact Good.same hp pre
theorem wN {e:Operand->V} {ρ:Operand->Value}:∀ {l:List Operand},(∀x∈l,V.R P I μ w (e x) (ρ x))->V.RL P I μ w (l.map e) (l.map ρ)
 | [],_=>by simp [V.RL]
 | x::l,h=>by simp only [List.map_cons,V.RL];exact ⟨_,_,rfl,h x (by simp),wN fun y hy=>h y (by simp [hy])⟩
theorem Dl {e:Operand->V} {ρ:Operand->Value}:∀ {l:List (Nat×Operand)},(∀x∈l,V.R P I μ w (e x.2) (ρ x.2))->rK P I μ w (l.map fun p=>(p.1,e p.2)) (l.map fun p=>(p.1,ρ p.2))
 | [],_=> .nil
 | x::l,h=> .cons (h x (by simp)) (Dl fun y hy=>h y (by simp [hy]))
theorem Dk {e:Operand->V} {ρ:Operand->Value} {o:Option Operand} (h:∀x,o=some x->V.R P I μ w (e x) (ρ x)):OptR P I μ w (o.map e) (o.map ρ):=by
 cases o with
 | none=>rfl
 | some x=>exact ⟨_,rfl,h x rfl⟩
theorem aA0 {t:TypeId} {cs:List V} {off:Nat} {v:V} {vs:Array Value} (h:Hc P t cs off=some v) (hr:V.RL P I μ w cs vs.toList):∃val,(part t vs off).run P w= .ok val w/\V.R P I μ w v val:=by
 unfold Hc at h;split at h;case h_2=>cases h
 case h_1 d s hu hs=>
 split at h
 ·rename_i hd;cases h
  refine ⟨.agg (vs.extract off (off+s)),?_,?_⟩
  ·simp only [part,Sem.run_bind,yk hu,Result.andThen_ok,hd,if_true,run_sizeOf hs,Sem.run_pure]
  ·simp only [V.R];refine ⟨_,rfl,?_⟩;have:=(hr.drop off).take s;simpa [List.extract_eq_take_drop,List.take_drop] using this
 ·rename_i hd;obtain ⟨u,lD,A1⟩:=hr.get h;refine ⟨u,?_,A1⟩;rw [Array.getElem?_toList] at lD;simp only [part,Sem.run_bind,yk hu,Result.andThen_ok,hd,Bool.false_eq_true,if_false,lD,Sem.run_pure]
theorem aB1 {o:Oper} {e:Operand->V} {ρ:Operand->Value} (h:evPlain P e hp o.op=some out) (bX:∀x∈o.op.operands,V.R P I μ w (e x) (ρ x)) (pre:cV P I μ w hp out.acc out.hp.length):
  ∃nx val w' μ',(execOp ρ o).run P w= .ok nx w'/\(nx= .value val\/nx= .skip/\val=undef)/\V.R P I μ' w' out.v val/\Good P I I μ μ' w w' hp out.hp out.acc out.wr:=by
 have fin:∀s:Sem Value,execOp ρ o=(do pure (.value (<- s)):Sem Next)->pZ P I μ w hp out s->∃nx val w' μ',(execOp ρ o).run P w= .ok nx w'/\(nx= .value val\/nx= .skip/\val=undef)/\V.R P I μ' w' out.v val/\Good P I I μ μ' w w' hp out.hp out.acc out.wr:=by
  intro s hs ⟨val,w',μ',h1,h2,h3⟩;exact ⟨.value val,val,w',μ',by rw [hs];simp only [Sem.run_bind,h1,Result.andThen_ok,Sem.run_pure],.inl rfl,h2,h3⟩
 have Ax:∀s:Sem Value,(execOp ρ o).run P w=(do pure (.value (<- s)):Sem Next).run P w->pZ P I μ w hp out s->∃nx val w' μ',(execOp ρ o).run P w= .ok nx w'/\(nx= .value val\/nx= .skip/\val=undef)/\V.R P I μ' w' out.v val/\Good P I I μ μ' w w' hp out.hp out.acc out.wr:=by
  intro s hs ⟨val,w',μ',h1,h2,h3⟩;exact ⟨.value val,val,w',μ',by rw [hs];simp only [Sem.run_bind,h1,Result.andThen_ok,Sem.run_pure],.inl rfl,h2,h3⟩
 unfold evPlain at h;split at h <;> first | (rename_i cK;rw [cK] at bX) | skip
 ·cases h
  exact ⟨.value (ρ _),ρ _,w,μ,by simp only [execOp,cK,Sem.run_pure],.inl rfl,bX _ (by simp [Op.operands]),Good.same hp pre⟩
 ·cases h
  exact ⟨.value (ρ _),ρ _,w,μ,by simp only [execOp,cK,Sem.run_pure],.inl rfl,bX _ (by simp [Op.operands]),Good.same hp pre⟩
 ·rename_i c a b;split at h
  ·rename_i t ht;cases h
   have hc:=bX c (by simp [Op.operands]);rw [ht] at hc;simp only [V.R] at hc;refine ⟨.value (if t then ρ a else ρ b),_,w,μ,by simp only [execOp,cK,hc,asBool,Sem.run_bind,Sem.run_pure,Result.andThen_ok],.inl rfl,?_,Good.same hp pre⟩;cases t
   ·exact bX b (by simp [Op.operands])
   ·exact bX a (by simp [Op.operands])
  ·cases h
 ·exact fin _ (by simp only [execOp,cK]) (SP h pre)
 ·exact fin _ (by simp only [execOp,cK]) (Tc h (bX _ (by simp [Op.operands])) pre)
 ·rename_i t ps;obtain ⟨h1,h2,h3,h4⟩:=Te (vs:=ps.map fun (i,x)=>(i,ρ x)) h (by
   rw [Array.toList_map];exact Dl fun x hx=>bX _ (by simp only [Op.operands,List.mem_toArray,List.mem_map];exact ⟨x,hx,rfl⟩))
  exact fin _ (by simp only [execOp,cK]) (.same h1 h2 pre h4)
 ·rename_i t n ps;exact fin _ (by simp only [execOp,cK]) (Td (vs:=ps.map fun (i,x)=>(i,ρ x)) h (by
   rw [Array.toList_map];exact Dl fun x hx=>bX _ (by simp only [Op.operands,List.mem_toArray,List.mem_map];exact ⟨x,hx,rfl⟩)) pre)
 ·obtain ⟨h1,h2,_,h4⟩:=M4 h (bX _ (by simp [Op.operands])) pre;exact fin _ (by simp only [execOp,cK]) (.same h1 h2 pre h4)
 ·obtain ⟨w',μ',h1,h2,h3⟩:=aP4 h (bX _ (by simp [Op.operands])) (bX _ (by simp [Op.operands])) pre;exact ⟨.skip,undef,w',μ',by simp only [execOp,cK,Sem.run_bind,h1,Result.andThen_ok,Sem.run_pure],.inr ⟨rfl,rfl⟩,by rw [h2];simp [V.R],h3⟩
 ·rename_i x;split at h
  ·rename_i b off hx;cases h
   have hc:=bX x (by simp [Op.operands]);rw [hx] at hc;have cW:=hc;simp only [V.R] at cW;obtain ⟨g,_,hv⟩:=cW;refine ⟨.value (ρ x),_,w,μ,by simp only [execOp,cK];rw [hv];rfl,.inl rfl,hc,Good.same hp pre⟩
  ·rename_i cs hx;cases h
   have hc:=bX x (by simp [Op.operands]);rw [hx] at hc;have cW:=hc;simp only [V.R] at cW;obtain ⟨g,off,hv,_⟩:=cW;refine ⟨.value (ρ x),_,w,μ,by simp only [execOp,cK];rw [hv];rfl,.inl rfl,hc,Good.same hp pre⟩
  ·rename_i b base rel hx;cases h
   have hc:=bX x (by simp [Op.operands]);rw [hx] at hc;have cW:=hc;simp only [V.R] at cW;obtain ⟨g,_,hv⟩:=cW;refine ⟨.value (ρ x),_,w,μ,by simp only [execOp,cK];rw [hv];rfl,.inl rfl,hc,Good.same hp pre⟩
  ·cases h
 ·rename_i op t x y yt;obtain ⟨v,hv,rfl⟩:=Option.map_eq_some_iff.1 h;exact fin (do eqGuard op t x y (ρ x) (ρ y);binOp op t (ρ x) (ρ y)) (by simp only [execOp,cK]) (.same rfl rfl pre (S8 hv (bX _ (by simp [Op.operands])) (bX _ (by simp [Op.operands]))))
 ·obtain ⟨v,hv,rfl⟩:=Option.map_eq_some_iff.1 h;exact fin _ (by simp only [execOp,cK]) (.same rfl rfl pre (aT7 hv (bX _ (by simp [Op.operands]))))
 ·exact fin _ (by simp only [execOp,cK]) (UG h (bX _ (by simp [Op.operands])) pre)
 ·rename_i f first cap;split at h
  ·rename_i hf;cases h
   have Xs:first = #[]:=by cases first;simp_all
   refine fin (Instr.makeFunc (.func f) (first.map ρ) (cap.map ρ)) (by simp only [execOp,cK]) (.same rfl rfl pre ⟨.func (.func f) (first.map ρ) (cap.map ρ),rfl,?_⟩);simp only [V.R,Xs,Array.map_empty];refine ⟨_,rfl,?_⟩;rw [Array.toList_map];exact wN fun x hx=>bX x (by simp only [Op.operands];exact Array.mem_append.2 (.inr (by simpa using hx)))
  ·cases h
 ·exact fin _ (by simp only [execOp,cK]) (af9 h (bX _ (by simp [Op.operands])) (bX _ (by simp [Op.operands])) pre)
 ·rename_i t x lo hi mx;obtain ⟨h1,h2,_,h4⟩:=aM8 h (bX _ (by simp [Op.operands])) (Dk (ρ:=ρ) fun y hy=>bX y (by simp [Op.operands,hy])) (Dk (ρ:=ρ) fun y hy=>bX y (by simp [Op.operands,hy])) (Dk (ρ:=ρ) fun y hy=>bX y (by simp [Op.operands,hy])) pre;exact fin _ (by simp only [execOp,cK]) (.same h1 h2 pre h4)
 ·rename_i t x f;split at h;case h_4=>cases h
  case h_3 b base rel fd hx gm=>
   split at h;case h_2=>cases h
   case h_1 s hs=>
   cases h
   have hc:=bX x (by simp [Op.operands]);rw [hx] at hc;simp only [V.R] at hc;obtain ⟨g,hg,hv⟩:=hc;unfold fieldOf at gm;split at gm;case h_2=>cases gm
   case h_1 fields hu=>
   refine fin (Instr.fieldAt t (ρ x) f) (by simp only [execOp,cK]) (.same rfl rfl pre ⟨.pointer (some ⟨g,base+(rel+fd.offset),none⟩),?_,?_⟩)
   ·simp only [hv,Instr.fieldAt,Sem.run_bind,run_underlying hu,Result.andThen_ok,gm,Instr.sureAddr,Sem.run_pure,fieldPlace,run_sizeOf hs];rw [if_neg ag];simp [Addr.add_mid,Nat.add_assoc]
   ·simp only [V.R];exact ⟨g,hg,rfl⟩
  case h_2 cs fd hx gm=>
   split at h;case h_2=>cases h
   case h_1 s hs=>
   cases h
   have hc:=bX x (by simp [Op.operands]);rw [hx] at hc;simp only [V.R] at hc;obtain ⟨g,off,hv,fK⟩:=hc;unfold fieldOf at gm;split at gm;case h_2=>cases gm
   case h_1 fields hu=>
   refine fin (Instr.fieldAt t (ρ x) f) (by simp only [execOp,cK]) (.same rfl rfl pre ⟨.pointer (some ⟨g,off+fd.offset,none⟩),?_,?_⟩)
   ·simp only [hv,Instr.fieldAt,Sem.run_bind,run_underlying hu,Result.andThen_ok,gm,Instr.sureAddr,Sem.run_pure,fieldPlace,run_sizeOf hs];rw [if_neg ag];simp [Addr.add_mid]
   ·simp only [V.R];exact ⟨g,off+fd.offset,rfl,Gz fK⟩
  case h_1 b off fd hx gm=>
  split at h;case h_2=>cases h
  case h_1 s hs=>
  cases h
  have hc:=bX x (by simp [Op.operands]);rw [hx] at hc;simp only [V.R] at hc;obtain ⟨g,hg,hv⟩:=hc;unfold fieldOf at gm;split at gm;case h_2=>cases gm
  case h_1 fields hu=>
  refine fin (Instr.fieldAt t (ρ x) f) (by simp only [execOp,cK]) (.same rfl rfl pre ⟨.pointer (some ⟨g,off+fd.offset,none⟩),?_,?_⟩)
  ·simp only [hv,Instr.fieldAt,Sem.run_bind,run_underlying hu,Result.andThen_ok,gm,Instr.sureAddr,Sem.run_pure,fieldPlace,run_sizeOf hs];rw [if_neg ag];simp [Addr.add_mid]
  ·simp only [V.R];exact ⟨g,hg,rfl⟩
 ·rename_i t x f;split at h;case h_2=>cases h
  case h_1 cs fd hx gm=>
  obtain ⟨v,hv,rfl⟩:=Option.map_eq_some_iff.1 h;have hc:=bX x (by simp [Op.operands]);rw [hx] at hc;simp only [V.R] at hc;obtain ⟨vs,iL,eX⟩:=hc;unfold fieldOf at gm;split at gm;case h_2=>cases gm
  case h_1 fields hu=>
  obtain ⟨val,h1,h2⟩:=aA0 hv eX;refine fin (Instr.field t (ρ x) f) (by simp only [execOp,cK]) (.same rfl rfl pre ⟨val,?_,h2⟩);simp only [iL,Instr.field,Sem.run_bind,run_underlying hu,Result.andThen_ok,gm,asAgg,Sem.run_pure,h1]
 ·rename_i t x i;split at h;case h_3=>cases h
  case h_2 n full cs k ii el hx hi hu=>
   split at h;case h_2=>cases h
   case h_1 s hs=>
   split at h;case isFalse=>cases h
   case isTrue dp=>
   cases h
   have hc:=bX x (by simp [Op.operands]);have jg:=bX i (by simp [Op.operands]);rw [hx] at hc;rw [hi] at jg;simp only [V.R] at hc jg;obtain ⟨a,cap,hv,pA,_,WO,fK⟩:=hc;rcases WO with ⟨_,h0⟩ | ⟨g,off,rfl⟩
   ·omega
   have fK:cs=[]\/I g/\∃cells e fr,w.heap[g]?=some (.cells cells e fr)/\V.RL P I cf w cs ((cells.toList.drop off).take cs.length):=by
    rcases fK with h | h0 | ⟨g',off',he,hm⟩
    ·exact .inl h
    ·omega
    ·cases he;exact .inr hm
   refine fin (Instr.indexAt t (ρ x) (ρ i)) (by simp only [execOp,cK]) (.same rfl rfl pre ⟨.pointer (some ⟨g,off+ii.toNat*s,none⟩),?_,?_⟩)
   ·simp only [hv,jg,Instr.indexAt,Sem.run_bind,asIntOf,run_underlying hu,Result.andThen_ok,Sem.run_pure,dp,and_self,if_true,run_sizeOf hs,Addr.add_mid]
   ·simp only [V.R];exact ⟨g,_,rfl,Gz fK⟩
  case h_1 b off n full k ii el hx hi hu=>
  split at h;case h_2=>cases h
  case h_1 s hs=>
  split at h;case isFalse=>cases h
  case isTrue dp=>
  cases h
  have hc:=bX x (by simp [Op.operands]);have jg:=bX i (by simp [Op.operands]);rw [hx] at hc;rw [hi] at jg;simp only [V.R] at hc jg;obtain ⟨g,cap,e',N,inf,hg,hv,_⟩:=hc.resolve_right (by rintro ⟨_,h0,_⟩;omega);refine fin (Instr.indexAt t (ρ x) (ρ i)) (by simp only [execOp,cK]) (.same rfl rfl pre ⟨.pointer (some ⟨g,off+ii.toNat*s,none⟩),?_,?_⟩)
  ·simp only [hv,jg,Instr.indexAt,Sem.run_bind,asIntOf,run_underlying hu,Result.andThen_ok,Sem.run_pure,dp,and_self,if_true,run_sizeOf hs,Addr.add_mid]
  ·simp only [V.R];exact ⟨g,hg,rfl⟩
 ·rename_i t x i;obtain ⟨v,hv,rfl⟩:=Option.map_eq_some_iff.1 h;have hc:=bX x (by simp [Op.operands]);have jg:=bX i (by simp [Op.operands]);unfold evIndex at hv;split at hv;case h_2=>cases hv
  case h_1 l k ii hx hi=>
  rw [hx] at hc;rw [hi] at jg;simp only [V.R] at hc jg;split at hv;case h_2=>cases hv
  case h_1 hu=>
  split at hv;case isFalse=>cases hv
  case isTrue h0=>
  obtain ⟨b,hb,rfl⟩:=Option.map_eq_some_iff.1 hv;obtain ⟨bQ,W1⟩:=List.getElem?_eq_some_iff.1 hb;refine fin (Instr.index t (ρ x) (ρ i)) (by simp only [execOp,cK]) (.same rfl rfl pre ⟨.int .u8 b.toNat,?_,by simp [V.R]⟩);rw [hc,jg,run_index_string w t _ k ii hu];have cQ:(⟨l.toArray⟩:ByteArray).size=l.length:=rfl;rw [dif_pos ⟨h0,by rw [cQ];omega⟩];have:(⟨l.toArray⟩:ByteArray)[ii.toNat]'(by rw [cQ];omega)=b:=by rw [<- W1];rfl
  rw [this]
 ·rename_i x i;split at h;case h_2=>cases h
  case h_1 vs hx=>
  obtain ⟨v,hv,rfl⟩:=Option.map_eq_some_iff.1 h;have hc:=bX x (by simp [Op.operands]);rw [hx] at hc;simp only [V.R] at hc;obtain ⟨us,YI,eX⟩:=hc;obtain ⟨u,hu,hr⟩:=eX.get hv;refine fin (Instr.extract (ρ x) i) (by simp only [execOp,cK]) (.same rfl rfl pre ⟨u,?_,hr⟩);rw [Array.getElem?_toList] at hu;simp only [YI,Instr.extract,hu,Sem.run_pure]
 ·rename_i c;have fI:∀x∈c.args,V.R P I μ w (e x) (ρ x):=fun x hx=>bX x (by simp only [Op.operands,Call.operands];exact Array.mem_append.2 (.inr hx));split at h
  ·rename_i s x t t' jE ha aD
   have dc:c.args = #[s,x]:=by cases b6:c.args;rw [b6] at ha;simp at ha;simp [ha]
   have px:c.argTypes = #[t,t']:=by cases b6:c.argTypes;rw [b6] at aD;simp at aD;simp [aD]
   rw [dc] at fI;refine Ax (Builtin.append_ #[t,t'] o.type #[ρ s,ρ x]) ?_ (SS h (fI s (by simp)) (fI x (by simp)) pre);simp only [execOp,cK,resolve,jE,dc,px,invoke,builtin,Sem.run_bind,Sem.run_pure,Result.andThen_ok,List.map_toArray,List.map_cons,List.map_nil]
  ·rename_i x t jE ha aD
   have dc:c.args = #[x]:=by cases b6:c.args;rw [b6] at ha;simp at ha;simp [ha]
   have px:c.argTypes = #[t]:=by cases b6:c.argTypes;rw [b6] at aD;simp at aD;simp [aD]
   rw [dc] at fI;obtain ⟨h1,h2,_,h4⟩:=ZY (ty:=o.type) h (fI x (by simp));refine Ax (Builtin.len_ #[t] o.type #[ρ x]) ?_ (.same h1 h2 pre h4);simp only [execOp,cK,resolve,jE,dc,px,invoke,builtin,Sem.run_bind,Sem.run_pure,Result.andThen_ok,List.map_toArray,List.map_cons,List.map_nil]
  ·rename_i x y jE ha;have dc:c.args = #[x,y]:=by cases b6:c.args;rw [b6] at ha;simp at ha;simp [ha]
   rw [dc] at fI;obtain ⟨v,hv,rfl⟩:=Option.map_eq_some_iff.1 h;have h1:=fI x (by simp);have h2:=fI y (by simp);unfold KN at hv;split at hv;case h_2=>cases hv
   rename_i k a k' b hx hy;cases hv
   rw [hx] at h1;rw [hy] at h2;simp only [V.R] at h1 h2;refine Ax (Builtin.min_ c.argTypes o.type #[ρ x,ρ y]) ?_ (.same rfl rfl pre ⟨.int k (if b<a then b else a),?_,by simp only [V.R]⟩)
   ·simp only [execOp,cK,resolve,jE,dc,invoke,builtin,Sem.run_bind,Sem.run_pure,Result.andThen_ok,List.map_toArray,List.map_cons,List.map_nil]
   ·rw [h1,h2];simp [Builtin.min_,Builtin.min2]
  ·rename_i x y jE ha;have dc:c.args = #[x,y]:=by cases b6:c.args;rw [b6] at ha;simp at ha;simp [ha]
   rw [dc] at fI;obtain ⟨v,hv,rfl⟩:=Option.map_eq_some_iff.1 h;have h1:=fI x (by simp);have h2:=fI y (by simp);unfold KM at hv;split at hv;case h_2=>cases hv
   rename_i k a k' b hx hy;cases hv
   rw [hx] at h1;rw [hy] at h2;simp only [V.R] at h1 h2;refine Ax (Builtin.max_ c.argTypes o.type #[ρ x,ρ y]) ?_ (.same rfl rfl pre ⟨.int k (if b>a then b else a),?_,by simp only [V.R]⟩)
   ·simp only [execOp,cK,resolve,jE,dc,invoke,builtin,Sem.run_bind,Sem.run_pure,Result.andThen_ok,List.map_toArray,List.map_cons,List.map_nil]
   ·rw [h1,h2];simp [Builtin.max_,Builtin.max2]
  ·cases h
 ·cases h
end
def nilC:Operand->Bool
 | .const (.slice none 0 0)=>true
 | _=>false
def isNilV:V->Option Bool
 | .sl _ _ (_+1) _=>some false
 | .dsl (_+1) _ _=>some false
 | .lit (.slice none 0 0)=>some true
 | .lit (.slice (some _) _ _)=>some false
 | _=>none
def evClear (P:Program) (hp:Hp) (t:TypeId) (x:V):Option Out:=
 match P.underlying t with
 | some (.slice elem)=>match x with
  | .dsl 0 _ _=>some ⟨.tup [],hp,[],[]⟩
  | .sl _ _ 0 _=>some ⟨.tup [],hp,[],[]⟩
  | .sl b off (n+1) _=>match P.info? elem,hp[b]? with
   | some i,some (some blk)=>match i.zero with
    | some z=>
     if blk.2=elem/\0<i.size/\z.cells.size=i.size/\(iy (z.cells.toList.map ofScalar) ((n+1)*i.size)).all V.one=true/\off+(n+1)*i.size<=(flat blk.1).length then
      match spliceV blk.1 off ((n+1)*i.size) (iy (z.cells.toList.map ofScalar) ((n+1)*i.size)) with
      | some l=>some ⟨.tup [],hp.set b (some (l,blk.2)),[b],[b]⟩
      | none=>none
     else none
    | none=>none
   | _,_=>none
  | _=>none
 | _=>none
def evApp0 (P:Program) (hp:Hp) (t t':TypeId) (s x:V):Option Out:=
 match P.underlying t,t==t' with
 | some (.slice elem),true=>match P.info? elem,s,x with
  | some _,.sl b off n full,.lit (.slice _ 0 _)=>some ⟨.sl b off n full,hp,[],[]⟩
  | some _,.dsl n full cs,.lit (.slice _ 0 _)=>some ⟨.dsl n full cs,hp,[],[]⟩
  | _,_,_=>none
 | _,_=>none
def evCopy (P:Program) (hp:Hp) (t:TypeId) (s x:V):Option Out:=
 match P.underlying t with
 | some (.slice elem)=>
  match P.info? elem,s with
  | some i,.sl b off n _=>
   match hp[b]?,srcV hp i.size x with
   | some (some blk),some (bs,m,news)=>
    if 0<m/\0<i.size/\m<=n/\off+m*i.size<=(flat blk.1).length then
     match spliceV blk.1 off (m*i.size) (flat news) with
     | some l=>some ⟨.int .i64 m,hp.set b (some (l,blk.2)),b::bs,[b]⟩
     | none=>none
    else none
   | _,_=>none
  | _,_=>none
 | _=>none
def evMore (P:Program) (e:Operand->V) (hp:Hp):Op->Option Out
 | .binOp op t x y _=>match nilC y with
  | true=>match P.underlying t,isNilV (e x),op with
   | some (.slice _),some b,.eql=>some ⟨.bool b,hp,[],[]⟩
   | some (.slice _),some b,.neq=>some ⟨.bool (!b),hp,[],[]⟩
   | _,_,_=>none
  | false=>match op,e x,e y with
   | .shr,.int k a,.int _ b=>if 0<=b then some ⟨.int k (a.fdiv (2 ^ min b.toNat k.bits)),hp,[],[]⟩ else none
   | .shl,.int k a,.int _ b=>if 0<=b then some ⟨.int k (k.wrap (a*2 ^ min b.toNat k.bits)),hp,[],[]⟩ else none
   | _,_,_=>none
 | .call c=>match c.callee,c.args.toList,c.argTypes.toList with
  | .builtin .append,[s,x],[t,t']=>evApp0 P hp t t' (e s) (e x)
  | .builtin .clear,[x],[t]=>evClear P hp t (e x)
  | .builtin .copy,[s,x],[t,_]=>evCopy P hp t (e s) (e x)
  | _,_,_=>none
 | .makeInterface t x=>match P.underlying t with
  | some (.interface _)=>none
  | some _=>some ⟨.box (.iface t) [e x],hp,[],[]⟩
  | none=>none
 | .makeFunc (.func f) first cap=>some ⟨.box (.bound f first.size) ((first++cap).toList.map e),hp,[],[]⟩
 | .indexAddr t x i=>match P.underlying t,e x,e i with
  | some (.array n el),.ptr b off,.int _ i=>match dA P el with
   | some s=>if 0<=i/\i<n then some ⟨.ptr b (off+i.toNat*s),hp,[],[]⟩ else none
   | none=>none
  | _,_,_=>none
 | _=>none
section
variable {P:Program} {I:Nat->Prop} {μ:Mu} {w:World} {hp:Hp} {out:Out}
theorem UK {t:TypeId} {x y:V} (h:evCopy P hp t x y=some out):Tidy hp out.hp out.acc out.wr:=by
 unfold evCopy at h;split at h;case h_2=>cases h
 split at h;case h_2=>cases h
 split at h;case h_2=>cases h
 case h_1 i b off n full hi blk bs m news hb m0=>
 split at h
 ·split at h
  ·cases h
   exact ⟨by simp,fun c hc hn=>by rw [List.getElem?_set_ne (fun e=>hn (by simp [e]))],by simp,fun c hc=>by
    rcases List.mem_cons.1 hc with rfl | hc
    ·exact fk hb
    ·exact QI m0 c hc,by intro c hc;obtain rfl:=List.mem_singleton.1 hc;exact ⟨_,hb⟩⟩
  ·cases h
 ·cases h
theorem ai0 {e:Operand->V} {op:Op} (h:evMore P e hp op=some out):Tidy hp out.hp out.acc out.wr:=by
 unfold evMore at h;split at h
 ·split at h
  ·split at h
   ·cases h;exact .same hp (by simp)
   ·cases h;exact .same hp (by simp)
   ·cases h
  ·split at h
   ·split at h
    ·cases h;exact .same hp (by simp)
    ·cases h
   ·split at h
    ·cases h;exact .same hp (by simp)
    ·cases h
   ·cases h
 ·split at h
  ·unfold evApp0 at h;split at h
   ·split at h
    ·cases h;exact .same hp (by simp)
    ·cases h;exact .same hp (by simp)
    ·cases h
   ·cases h
  ·unfold evClear at h;split at h;case h_2=>cases h
   split at h
   ·cases h;exact .same hp (by simp)
   ·cases h;exact .same hp (by simp)
   ·split at h
    ·rename_i i blk hi hb;split at h
     ·split at h
      ·split at h
       ·cases h
        exact ⟨by simp,fun c hc hn=>by rw [List.getElem?_set_ne (fun e=>hn (by simp [e]))],by simp,by simpa using fk hb,by intro c hc;obtain rfl:=List.mem_singleton.1 hc;exact ⟨_,hb⟩⟩
       ·cases h
      ·cases h
     ·cases h
    ·cases h
   ·cases h
  ·exact UK h
  ·cases h
 ·split at h
  ·cases h
  ·cases h;exact .same hp (by simp)
  ·cases h
 ·cases h;exact .same hp (by simp)
 ·split at h
  ·split at h
   ·split at h
    ·cases h;exact .same hp (by simp)
    ·cases h
   ·cases h
  ·cases h
 ·cases h
theorem aI5 (w:World) (d:Nat) (t e:TypeId) (a:Option Addr) (l c:Nat) (h:P.underlying t=some (.slice e)):(Op.equalIn (d+1) t (.slice a l c) (.slice none 0 0)).run P w= .ok a.isNone w:=by
 cases a <;> simp [Op.equalIn,run_underlying h]
theorem Qe (w:World) (t e:TypeId) (a:Option Addr) (l c:Nat) (h:P.underlying t=some (.slice e)):(Op.equal t (.slice a l c) (.slice none 0 0)).run P w= .ok a.isNone w:=aI5 w 9999 t e a l c h
theorem NV {t:TypeId} {ox oy:Operand} {x:V} {vx vy:Value} {b:Bool} {e:TypeId} {op:BinOp} (hu:P.underlying t=some (.slice e)) (hn:isNilV x=some b) (hx:V.R P I μ w x vx) (hy:vy= .slice none 0 0) (cK:op= .eql\/op= .neq):
  (do eqGuard op t ox oy vx vy;binOp op t vx vy:Sem Value).run P w= .ok (.bool (if op= .eql then b else !b)) w:=by
 subst hy;have key:∃a l c,vx= .slice a l c/\b=a.isNone:=by
  unfold isNilV at hn;split at hn
  ·cases hn
   simp only [V.R] at hx;obtain ⟨g,cap,_,_,_,_,rfl,_⟩:=hx.resolve_right (by rintro ⟨_,h0,_⟩;omega);exact ⟨_,_,_,rfl,rfl⟩
  ·cases hn
   simp only [V.R] at hx;obtain ⟨a,cap,rfl,hle,_,ha,_⟩:=hx;rcases ha with ⟨_,h0⟩ | ⟨g,off,rfl⟩
   ·omega
   ·exact ⟨_,_,_,rfl,rfl⟩
  ·cases hn
   simp only [V.R] at hx;exact ⟨_,_,_,hx,rfl⟩
  ·cases hn
   simp only [V.R] at hx;exact ⟨_,_,_,hx,rfl⟩
  ·cases hn
 obtain ⟨a,l,c,rfl,rfl⟩:=key;rw [Sem.run_bind,Wu];simp only [Result.andThen_ok];rcases cK with rfl | rfl
 ·simp only [binOp];simp [Qe w t e a l c hu]
 ·simp only [binOp];simp [Qe w t e a l c hu]
theorem TN {t ty:TypeId} {x:V} {vx:Value} (h:evClear P hp t x=some out) (hx:V.R P I μ w x vx) (pre:cV P I μ w hp out.acc out.hp.length):pZ P I μ w hp out (Builtin.clear_ #[t] ty #[vx]):=by
 unfold evClear at h;split at h;case h_2=>cases h
 case h_1 elem hu=>
 split at h
 ·cases h
  simp only [V.R] at hx;obtain ⟨a,cap,rfl,_⟩:=hx;refine .same rfl rfl pre ⟨.tuple #[],?_,by simp [V.R,V.RL]⟩;cases a <;> simp [Builtin.clear_,run_underlying hu]
 ·cases h
  simp only [V.R] at hx;rcases hx with ⟨g,cap,_,_,_,_,rfl,_⟩ | ⟨_,_,a',rfl,_⟩
  ·refine .same rfl rfl pre ⟨.tuple #[],?_,by simp [V.R,V.RL]⟩;simp [Builtin.clear_,run_underlying hu]
  ·refine .same rfl rfl pre ⟨.tuple #[],?_,by simp [V.R,V.RL]⟩;cases a' <;> simp [Builtin.clear_,run_underlying hu]
 ·rename_i b off n full;split at h;case h_2=>cases h
  case h_1 i blk hi hb=>
  split at h;case h_2=>cases h
  case h_1 z hz=>
  split at h;case isFalse=>cases h
  case isTrue hc=>
  obtain ⟨qJ,kO,jn,h1,hle⟩:=hc;split at h;case h_2=>cases h
  case h_1 l' mg=>
  cases h
  simp only [V.R] at hx;obtain ⟨g,cap,e,N,i',hg,rfl,_,_,_,de,_⟩:=hx.resolve_right (by rintro ⟨_,h0,_⟩;omega);obtain ⟨cs,fr,_,hw,eg,⟨cQ,jh⟩,_⟩:=(pre.holds b (by simp) blk hb).mr hg de;have eD:Row w g blk.2 cs:=⟨fr,hw,eg⟩;have Bb:V.RL P I μ w (iy (z.cells.toList.map ofScalar) ((n+1)*i.size)) (Builtin.zeroCells z.cells (n+1)).toList:=by
   have:=zN (P:=P) (I:=I) (μ:=μ) (w:=w) z.cells ((n+1)*i.size);unfold Builtin.zeroCells;rw [jn];rw [jn] at this;exact this
  have fN:(Builtin.zeroCells z.cells (n+1)).toList.length=(n+1)*i.size:=by simp [Builtin.zeroCells,jn]
  have cL:=tH P g off blk.2 (Builtin.zeroCells z.cells (n+1)).toList 0 cs w eD ag (vI Bb h1);simp only [Nat.add_zero] at cL;obtain ⟨eh,F',mP,sM⟩:=HK mg jh Bb (by simp [iy]) hle;refine ⟨.tuple #[],w.setRow g (cs.toList.take off++(Builtin.zeroCells z.cells (n+1)).toList++cs.toList.drop (off+(Builtin.zeroCells z.cells (n+1)).toList.length)).toArray,μ.eQ b F',?_,by simp [V.R,V.RL],?_⟩
  ·simp [Builtin.clear_,Sem.run_bind,run_underlying hu,zeroValue,typeInfo,hi,hz];rw [cL];simp
  ·have e:=Ct cs.toList (Builtin.zeroCells z.cells (n+1)).toList off (flat blk.1).length ag (by simpa using cQ);have iL:(Builtin.zeroCells z.cells (n+1)).size=(n+1)*i.size:=by simpa using fN
   refine Good.rF (bG:=(l',blk.2)) (by simpa using pre) (by simp) hb hg hw rfl ?_ eg mP ?_
   ·simp only [List.size_toArray,List.length_append,List.length_take,List.length_drop,Array.length_toList];omega
   ·refine ⟨?_,?_⟩
    ·show (flat l').length<=_;rw [eh];simp only [List.size_toArray,List.length_append,List.length_take,List.length_drop,Array.length_toList];omega
    ·show CR P I μ w F' l' (List.take (flat l').length _);rw [eh,e,fN];exact sM
 ·cases h
theorem UJ {t t' ty:TypeId} {x y:V} {vx vy:Value} (h:evCopy P hp t x y=some out) (hx:V.R P I μ w x vx) (hy:V.R P I μ w y vy) (pre:cV P I μ w hp out.acc out.hp.length):pZ P I μ w hp out (Builtin.copy_ #[t,t'] ty #[vx,vy]):=by
 unfold evCopy at h;split at h;case h_2=>cases h
 case h_1 elem hu=>
 split at h;case h_2=>cases h
 case h_1 i b off n full hi=>
 split at h;case h_2=>cases h
 case h_1 blk bs m news hb m0=>
 split at h;case isFalse=>cases h
 case isTrue hc=>
 obtain ⟨hm,kO,FM,hle⟩:=hc;split at h;case h_2=>cases h
 case h_1 l' mg=>
 cases h
 simp only [V.R] at hx;obtain ⟨g,cap,e,N,i',hg,rfl,_,_,_,de,_⟩:=hx.resolve_right (by rintro ⟨_,h0,_⟩;omega);obtain ⟨a,c,nv,rfl,h1,h2,lA,h3,_,gA⟩:=BX m0 hy fun b' bT=>pre.holds b' (by simp [bT]);obtain ⟨cs,fr,_,hw,eg,⟨cQ,jh⟩,_⟩:=(pre.holds b (by simp) blk hb).mr hg de;have Wx:=(h2.mw.zh gA).2;have eD:Row w g blk.2 cs:=⟨fr,hw,eg⟩;have jY:=h2.length;have fN:nv.length=m*i.size:=by rw [jY,h1]
 have hmp:0<m*i.size:=Nat.mul_pos hm kO;have bc:nv≠[]:=by
  rintro rfl;simp at fN;omega
 obtain ⟨ad,rfl,u4⟩:=Gu h3 bc;have hf:=run_firstCells_some (P:=P) w i.size m ad m c nv fN u4;have cL:=tH P g off blk.2 nv 0 cs w eD ag lA;simp only [Nat.add_zero] at cL;obtain ⟨eh,F',mP,sM⟩:=HK mg jh Wx h1 hle;refine ⟨.int .i64 m,w.setRow g (cs.toList.take off++nv++cs.toList.drop (off+nv.length)).toArray,μ.eQ b F',?_,by simp [V.R],?_⟩
 ·have FL:Nat.min m n=m:=Nat.min_eq_left FM;simp [Builtin.copy_,Sem.run_bind,run_underlying hu,sizeOf,typeInfo,hi,Builtin.lenOf,FL,hf,cL];rfl
 ·have e:=Ct cs.toList nv off (flat blk.1).length ag (by simpa using cQ);refine Good.rF (bG:=(l',blk.2)) (by simpa using pre) (by simp) hb hg hw rfl ?_ eg mP ?_
  ·simp only [List.size_toArray,List.length_append,List.length_take,List.length_drop,Array.length_toList];omega
  ·refine ⟨?_,?_⟩
   ·show (flat l').length<=_;rw [eh];simp only [List.size_toArray,List.length_append,List.length_take,List.length_drop,Array.length_toList];omega
   ·show CR P I μ w F' l' (List.take (flat l').length _);rw [eh,e,fN];exact sM
theorem SQ {t t' ty:TypeId} {x y:V} {vx vy:Value} (h:evApp0 P hp t t' x y=some out) (hx:V.R P I μ w x vx) (hy:V.R P I μ w y vy) (pre:cV P I μ w hp out.acc out.hp.length):pZ P I μ w hp out (Builtin.append_ #[t,t'] ty #[vx,vy]):=by
 unfold evApp0 at h;split at h;case h_2=>cases h
 case h_1 elem hu eJ=>
 obtain rfl:t=t':=by simpa using eJ
 split at h
 ·rename_i i b off n full a c hi;cases h
  have mj:=hx;simp only [V.R] at hx hy;subst hy;rcases hx with ⟨g,cap,e,N,i',hg,rfl,hle,_⟩ | ⟨_,rfl,a',rfl,_⟩
  ·exact .same rfl rfl pre ⟨_,uf hu hi _ n cap hle a c,mj⟩
  ·exact .same rfl rfl pre ⟨_,uf hu hi a' 0 0 (Nat.le_refl _) a c,mj⟩
 ·rename_i i n full cs a c hi;cases h
  have mj:=hx;simp only [V.R] at hx hy;subst hy;obtain ⟨b,cap,rfl,hle,_⟩:=hx;exact .same rfl rfl pre ⟨_,uf hu hi _ n cap hle a c,mj⟩
 ·cases h
theorem ah9 {o:Oper} {e:Operand->V} {ρ:Operand->Value} (hρ:∀v,ρ (.const v)=v) (h:evMore P e hp o.op=some out) (bX:∀x∈o.op.operands,V.R P I μ w (e x) (ρ x)) (pre:cV P I μ w hp out.acc out.hp.length):
  ∃val w' μ',(execOp ρ o).run P w= .ok (.value val) w'/\V.R P I μ' w' out.v val/\Good P I I μ μ' w w' hp out.hp out.acc out.wr:=by
 have fin:∀s:Sem Value,(execOp ρ o).run P w=(do pure (.value (<- s)):Sem Next).run P w->pZ P I μ w hp out s->∃val w' μ',(execOp ρ o).run P w= .ok (.value val) w'/\V.R P I μ' w' out.v val/\Good P I I μ μ' w w' hp out.hp out.acc out.wr:=by
  intro s hs ⟨val,w',μ',h1,h2,h3⟩;exact ⟨val,w',μ',by rw [hs];simp only [Sem.run_bind,h1,Result.andThen_ok,Sem.run_pure],h2,h3⟩
 unfold evMore at h;split at h <;> first | (rename_i cK;rw [cK] at bX) | skip
 ·rename_i op t x y yt;have hx:=bX x (by simp [Op.operands]);split at h
  ·rename_i hn;have hy:ρ y= .slice none 0 0:=by
    unfold nilC at hn;split at hn
    ·exact hρ _
    ·cases hn
   split at h
   ·rename_i e b hu hv;cases h
    refine fin (do eqGuard .eql t x y (ρ x) (ρ y);binOp .eql t (ρ x) (ρ y)) (by simp only [execOp,cK]) (.same rfl rfl pre ⟨_,NV hu hv hx hy (.inl rfl),by simp [V.R]⟩)
   ·rename_i e b hu hv;cases h
    refine fin (do eqGuard .neq t x y (ρ x) (ρ y);binOp .neq t (ρ x) (ρ y)) (by simp only [execOp,cK]) (.same rfl rfl pre ⟨_,NV hu hv hx hy (.inr rfl),by simp [V.R]⟩)
   ·cases h
  ·have hy:=bX y (by simp [Op.operands]);split at h
   ·rename_i k a k' b hex FA;split at h
    ·rename_i hb;cases h
     rw [hex] at hx;rw [FA] at hy;simp only [V.R] at hx hy;refine fin (do eqGuard .shr t x y (ρ x) (ρ y);binOp .shr t (ρ x) (ρ y)) (by simp only [execOp,cK]) (.same rfl rfl pre ⟨.int k (a.fdiv (2 ^ min b.toNat k.bits)),?_,by simp [V.R]⟩);rw [hx,hy,Sem.run_bind,Fk];simp only [Result.andThen_ok,binOp,Op.shift];rw [if_neg ag];rfl
    ·cases h
   ·rename_i k a k' b hex FA;split at h
    ·rename_i hb;cases h
     rw [hex] at hx;rw [FA] at hy;simp only [V.R] at hx hy;refine fin (do eqGuard .shl t x y (ρ x) (ρ y);binOp .shl t (ρ x) (ρ y)) (by simp only [execOp,cK]) (.same rfl rfl pre ⟨.int k (k.wrap (a*2 ^ min b.toNat k.bits)),?_,by simp [V.R]⟩);rw [hx,hy,Sem.run_bind,Fk];simp only [Result.andThen_ok,binOp,Op.shift];rw [if_neg ag];rfl
    ·cases h
   ·cases h
 ·rename_i c;have fI:∀x∈c.args,V.R P I μ w (e x) (ρ x):=fun x hx=>bX x (by simp only [Op.operands,Call.operands];exact Array.mem_append.2 (.inr hx));split at h
  ·rename_i s x t t' jE ha aD
   have dc:c.args = #[s,x]:=by cases b6:c.args;rw [b6] at ha;simp at ha;simp [ha]
   have px:c.argTypes = #[t,t']:=by cases b6:c.argTypes;rw [b6] at aD;simp at aD;simp [aD]
   rw [dc] at fI;refine fin (Builtin.append_ #[t,t'] o.type #[ρ s,ρ x]) ?_ (SQ h (fI s (by simp)) (fI x (by simp)) pre);simp only [execOp,cK,resolve,jE,dc,px,invoke,builtin,Sem.run_bind,Sem.run_pure,Result.andThen_ok,List.map_toArray,List.map_cons,List.map_nil]
  ·rename_i x t jE ha aD
   have dc:c.args = #[x]:=by cases b6:c.args;rw [b6] at ha;simp at ha;simp [ha]
   have px:c.argTypes = #[t]:=by cases b6:c.argTypes;rw [b6] at aD;simp at aD;simp [aD]
   rw [dc] at fI;refine fin (Builtin.clear_ #[t] o.type #[ρ x]) ?_ (TN h (fI x (by simp)) pre);simp only [execOp,cK,resolve,jE,dc,px,invoke,builtin,Sem.run_bind,Sem.run_pure,Result.andThen_ok,List.map_toArray,List.map_cons,List.map_nil]
  ·rename_i s x t t' jE ha aD
   have dc:c.args = #[s,x]:=by cases b6:c.args;rw [b6] at ha;simp at ha;simp [ha]
   have px:c.argTypes = #[t,t']:=by cases b6:c.argTypes;rw [b6] at aD;simp at aD;simp [aD]
   rw [dc] at fI;refine fin (Builtin.copy_ #[t,t'] o.type #[ρ s,ρ x]) ?_ (UJ h (fI s (by simp)) (fI x (by simp)) pre);simp only [execOp,cK,resolve,jE,dc,px,invoke,builtin,Sem.run_bind,Sem.run_pure,Result.andThen_ok,List.map_toArray,List.map_cons,List.map_nil]
  ·cases h
 ·rename_i t x;have hx:=bX x (by simp [Op.operands]);split at h
  ·cases h
  ·rename_i d Mf hu;cases h
   refine fin (Instr.makeInterface t (ρ x)) (by simp only [execOp,cK]) (.same rfl rfl pre ⟨.iface t (ρ x),?_,?_⟩)
   ·simp only [Instr.makeInterface,Sem.run_bind,run_underlying hu,Result.andThen_ok];rfl
   ·simp only [V.R,V.RL];exact ⟨#[ρ x],by simp [BK.mk],ρ x,[],rfl,hx,rfl⟩
  ·cases h
 ·rename_i f first cap;cases h
  refine fin (Instr.makeFunc (.func f) (first.map ρ) (cap.map ρ)) (by simp only [execOp,cK]) (.same rfl rfl pre ⟨.func (.func f) (first.map ρ) (cap.map ρ),rfl,?_⟩);simp only [V.R];refine ⟨(first++cap).map ρ,?_,?_⟩
  ·have e1:((first++cap).map ρ).extract 0 first.size=first.map ρ:=by
    apply Array.ext';simp only [Array.toList_extract,List.extract_eq_take_drop,Array.toList_map,Array.toList_append,List.map_append,List.drop_zero,Nat.sub_zero];rw [List.take_append_of_le_length (by simp),List.take_of_length_le (by simp)]
   have e2:((first++cap).map ρ).extract first.size ((first++cap).map ρ).size=cap.map ρ:=by
    apply Array.ext';simp only [Array.toList_extract,List.extract_eq_take_drop,Array.toList_map,Array.toList_append,List.map_append,Array.size_map,Array.size_append];rw [List.drop_append_of_le_length (by simp),List.drop_of_length_le (by simp),List.nil_append,List.take_of_length_le (by simp)]
   show Value.func _ _ _=Value.func _ _ _;rw [e1,e2]
  ·rw [Array.toList_map];exact wN fun x hx=>bX x (by simp only [Op.operands];simpa using hx)
 ·rename_i t x i;have hx:=bX x (by simp [Op.operands]);have hi:=bX i (by simp [Op.operands]);split at h
  ·rename_i n el b off kk k hu hex Xo;split at h
   ·rename_i sz hs;split at h
    ·rename_i dp;cases h
     rw [hex] at hx;rw [Xo] at hi;simp only [V.R] at hx hi;obtain ⟨g,hg,hx⟩:=hx;refine fin (Instr.indexAt t (ρ x) (ρ i)) (by simp only [execOp,cK]) (.same rfl rfl pre ⟨.pointer (some ⟨g,off+k.toNat*sz,none⟩),?_,?_⟩)
     ·rw [hx,hi];simp [Instr.indexAt,asIntOf,run_underlying hu,Instr.sureAddr,run_sizeOf hs,dp,Addr.add_mid]
     ·simp only [V.R];exact ⟨g,hg,rfl⟩
    ·cases h
   ·cases h
  ·cases h
 ·cases h
end
def pos:List Nat->Nat->Option Nat
 | [],_=>none
 | x::t,b=>if x=b then some 0 else (pos t b).map (· + 1)
mutual
def V.ren (ρ:Nat->Option Nat):V->V
 | .ptr b off=>match ρ b with
  | some b'=> .ptr b' off
  | none=> .cw
 | .sl b off n f=>match ρ b with
  | some b'=> .sl b' off n f
  | none=> .cw
 | .agg cs=> .agg (V.renL ρ cs)
 | .tup cs=> .tup (V.renL ρ cs)
 | .fn f cs=> .fn f (V.renL ρ cs)
 | .box f cs=> .box f (V.renL ρ cs)
 | .eptr b base rel=>match ρ b with
  | some b'=> .eptr b' base rel
  | none=> .cw
 | .osl T n o cs=> .osl T n o cs
 | .int k n=> .int k n
 | .bool b=> .bool b
 | .str s=> .str s
 | .jJ=> .jJ
 | .dsl n f cs=> .dsl n f cs
 | .dptr cs=> .dptr cs
 | .aw cs=> .aw cs
 | .cS cs=> .cS cs
 | .kU=> .kU
 | .lit v=> .lit v
 | .cw=> .cw
def V.renL (ρ:Nat->Option Nat):List V->List V
 | []=>[]
 | c::cs=>V.ren ρ c::V.renL ρ cs
end
def kY (ρ:Nat->Option Nat) (blk:Option bM):Option bM:=blk.map fun x=>(V.renL ρ x.1,x.2)
def reach (hp:Hp):Nat->List Nat->List Nat->List Nat
 | 0,_,seen=>seen
 | _+1,[],seen=>seen
 | n+1,b::t,seen=>
  if seen.contains b then reach hp n t seen else
  match hp[b]? with
  | some (some blk)=>reach hp n (t++V.refsL blk.1) (seen++[b])
  | _=>reach hp n t seen
structure aF where
 v:V
 hp:Hp
 wr:List Nat
abbrev gv:=FuncId->List V->Hp->Option aF
def lY (ids:List Nat) (top:Nat) (j:Nat):Option Nat:=if j<ids.length then ids[j]? else some (top+(j - ids.length))
def evCall (callF:gv) (hp:Hp) (f:FuncId) (vs:List V):Option Out:=
 let ids:=reach hp 100000 (V.refsL vs) []
 match callF f (V.renL (pos ids) vs) (ids.map fun b=>kY (pos ids) (hp.getD b none)) with
 | some r=>
  let back:=lY ids hp.length
  let wr:=r.wr.filterMap fun j=>ids[j]?
  some ⟨V.ren back r.v,(hp.zipIdx.map fun x=>if wr.contains x.2 then kY back (((pos ids x.2).bind fun j=>r.hp[j]?).getD none) else x.1)++(r.hp.drop ids.length).map (kY back),ids,wr⟩
 | none=>none
def wJ (P:Program) (t:TypeId) (name:String) (f:FuncId):Prop:=∀(v:Value) (args:Array Value) (w:World),(callMethod (.iface t v) name args).run P w= .ok (.enter f (#[v]++args)) w
open Classical in
def xY (P:Program) (t:TypeId) (name:String):Option FuncId:=if h:∃f,wJ P t name f then some h.choose else none
theorem ai5 {P:Program} {t:TypeId} {name:String} {f:FuncId} (h:xY P t name=some f):wJ P t name f:=by
 unfold xY at h;split at h
 ·rename_i hx;cases h;exact hx.choose_spec
 ·cases h
theorem ai4 {P:Program} {t:TypeId} {name:String} {f:FuncId} (h:wJ P t name f):xY P t name=some f:=by
 have hx:∃f,wJ P t name f:=⟨f,h⟩;have h2:=hx.choose_spec;unfold xY;rw [dif_pos hx];have a:=h .nilFunc #[] default;have b:=h2 .nilFunc #[] default;rw [a] at b;injection b with b1 b2;injection b1 with b3 b4;rw [<- b3]
def evOp (P:Program) (callF:gv) (e:Operand->V) (hp:Hp) (o:Op):Option Out:=
 match o with
 | .call {callee:= .value f,args:=args,argTypes:=ts}=>
  match e f with
  | .fn g cap=>evCall callF hp g (args.toList.map e++cap)
  | _=>none
 | .call {callee:= .invoke x name,args:=args,argTypes:=_}=>
  match e x with
  | .box (.iface t) [v]=>match xY P t name with
   | some f=>evCall callF hp f (v::args.toList.map e)
   | none=>none
  | _=>none
 | o=>match evPlain P e hp o with
  | some out=>some out
  | none=>evMore P e hp o
inductive Tr where
 | leaf
 | node (v:V) (l r:Tr)
def Tr.get:Tr->Nat->V
 | .leaf,_=> .cw
 | .node v l r,i=>match Nat.beq i 0 with
  | true=>v
  | false=>match Nat.beq (i % 2) 1 with
   | true=>l.get (i / 2)
   | false=>r.get (i / 2 - 1)
def Tr.set:Tr->Nat->V->Tr
 | .leaf,_,_=> .leaf
 | .node v l r,i,x=>match Nat.beq i 0 with
  | true=> .node x l r
  | false=>match Nat.beq (i % 2) 1 with
   | true=> .node v (l.set (i / 2) x) r
   | false=> .node v l (r.set (i / 2 - 1) x)
def Tr.setK {β:Type _}:Tr->Nat->V->(Tr->β)->β
 | .leaf,_,_,k=>k .leaf
 | .node v l r,i,x,k=>match Nat.beq i 0 with
  | true=>k (.node x l r)
  | false=>match Nat.beq (i % 2) 1 with
   | true=>l.setK (i / 2) x fun t=>k (.node v t r)
   | false=>r.setK (i / 2 - 1) x fun t=>k (.node v l t)
theorem Tr.HF {β:Type _}:∀(t:Tr) (i:Nat) (x:V) (k:Tr->β),t.setK i x k=k (t.set i x)
 | .leaf,_,_,_=>rfl
 | .node v l r,i,x,k=>by
  unfold Tr.setK Tr.set;cases Nat.beq i 0
  ·cases Nat.beq (i % 2) 1
   ·simp only [Tr.HF r]
   ·simp only [Tr.HF l]
  ·rfl
theorem Tr.qE:∀(t:Tr) (i j:Nat) (x:V),i≠j->(t.set i x).get j=t.get j
 | .leaf,_,_,_,_=>rfl
 | .node v l r,i,j,x,h=>by
  have e:∀n m:Nat,Nat.beq n m=decide (n=m):=fun n m=>by rw [Bool.eq_iff_iff];simp
  unfold Tr.set;by_cases hi:i=0
  ·have hj:j≠0:=ag;simp [e,hi,Tr.get,hj]
  ·by_cases LX:i % 2=1
   ·simp only [e,hi,LX,decide_true,decide_false];unfold Tr.get;by_cases hj:j=0
    ·simp [hj,e]
    ·by_cases xA:j % 2=1
     ·simp only [e,hj,xA,decide_true,decide_false];exact Tr.qE l _ _ x ag
     ·simp [e,hj,xA]
   ·simp only [e,hi,LX,decide_false];unfold Tr.get;by_cases hj:j=0
    ·simp [hj,e]
    ·by_cases xA:j % 2=1
     ·simp [e,hj,xA]
     ·simp only [e,hj,xA,decide_false];exact Tr.qE r _ _ x ag
theorem Tr.get_eq:∀(t:Tr) (i:Nat) (x:V),(t.set i x).get i=x\/(t.set i x).get i= .cw
 | .leaf,_,_=> .inr rfl
 | .node v l r,i,x=>by
  unfold Tr.set;cases h0:Nat.beq i 0
  ·cases h1:Nat.beq (i % 2) 1
   ·simp only [Tr.get,h0,h1];exact Tr.get_eq r _ x
   ·simp only [Tr.get,h0,h1];exact Tr.get_eq l _ x
  ·left;simp only [Tr.get,h0]
structure Tm where
 n:Nat
 t:Tr
def Tm.get (m:Tm) (i:Nat):V:=match Nat.blt i m.n with
 | true=>m.t.get i
 | false=> .cw
def Tm.put (m:Tm) (i:Nat) (x:V):Tm:=⟨m.n,m.t.set i x⟩
theorem Tm.qE (m:Tm) {i j:Nat} (x:V) (h:i≠j):(m.put i x).get j=m.get j:=by
 unfold Tm.get Tm.put;simp only [Tr.qE m.t i j x h]
theorem Tm.get_eq (m:Tm) (i:Nat) (x:V):(m.put i x).get i=x/\i<m.n\/(m.put i x).get i= .cw:=by
 unfold Tm.get Tm.put;cases h:Nat.blt i m.n
 ·exact .inr rfl
 ·have:i<m.n:=by simpa using h
  rcases Tr.get_eq m.t i x with h | h
  ·exact .inl ⟨h,this⟩
  ·exact .inr h
def Tr.mk0:Nat->Tr
 | 0=> .leaf
 | k+1=> .node .cw (Tr.mk0 k) (Tr.mk0 k)
theorem Tr.Bi:∀(k i:Nat),(Tr.mk0 k).get i= .cw
 | 0,_=>rfl
 | k+1,i=>by
  unfold Tr.mk0 Tr.get;cases Nat.beq i 0
  ·cases Nat.beq (i % 2) 1
   ·exact Tr.Bi k _
   ·exact Tr.Bi k _
  ·rfl
def Tm.fill:List V->Nat->Tm->Tm
 | [],_,m=>m
 | v::vs,i,m=>Tm.fill vs (i+1) (m.put i v)
theorem Tm.KZ:∀(vs:List V) (i:Nat) (m:Tm) (t:Nat),((Tm.fill vs i m).get t=m.get t)\/((Tm.fill vs i m).get t= .cw)\/(∃k,t=i+k/\vs[k]?=some ((Tm.fill vs i m).get t))
 | [],_,_,_=> .inl rfl
 | v::vs,i,m,t=>by
  unfold Tm.fill;rcases Tm.KZ vs (i+1) (m.put i v) t with h | h | ⟨k,hk,h⟩
  ·by_cases e:i=t
   ·subst e;rcases m.get_eq i v with h2 | h2
    ·right;right;exact ⟨0,rfl,by rw [h,h2.1];rfl⟩
    ·right;left;rw [h,h2]
   ·left;rw [h,m.qE v e]
  ·exact .inr (.inl h)
  ·exact .inr (.inr ⟨k+1,ag,by simpa using h⟩)
theorem Tm.K0:∀(vs:List V) (i:Nat) (m:Tm),(Tm.fill vs i m).n=m.n
 | [],_,_=>rfl
 | _::vs,i,m=>by unfold Tm.fill;rw [Tm.K0 vs];rfl
def Tm.start (n:Nat) (vs:List V):Tm:=Tm.fill vs 0 ⟨n,Tr.mk0 11⟩
theorem Tm.aO6 (n:Nat) (vs:List V) (t:Nat):(Tm.start n vs).get t= .cw\/vs[t]?=some ((Tm.start n vs).get t):=by
 have h0:(⟨n,Tr.mk0 11⟩:Tm).get t= .cw:=by
  unfold Tm.get;cases Nat.blt t n
  ·rfl
  ·exact Tr.Bi _ _
 rcases Tm.KZ vs 0 ⟨n,Tr.mk0 11⟩ t with h | h | ⟨k,hk,h⟩
 ·left;unfold Tm.start;rw [h,h0]
 ·exact .inl h
 ·right;rw [show t=k by omega] at h ⊢;exact h
def evalV (tm:Tm):Operand->V
 | .tmp t=>tm.get t
 | .const v=>ofValue v
 | .func f=> .fn f []
 | .global _=> .cw
structure St where
 tm:Tm
 hp:Hp
 wr:List Nat
def wantedV (ops:Array Oper) (tm:Tm) (o:Oper):Option Bool:=
 match o.guard with
 | none=>some true
 | some (j,want)=>
  match (ops[j]?).bind (·.dst) with
  | some d=>match tm.get d with
   | .bool b=>some (b==want)
   | .lit (.tuple _)=>some false
   | _=>none
  | none=>none
def mo (tm:Tm) (d:Option Tmp) (v:V):Tm:=
 match d with
 | some d=>tm.put d v
 | none=>tm
def m9 {β:Type _} (tm:Tm) (d:Option Tmp) (v:V) (k:Tm->β):β:=
 match d with
 | some d=>tm.t.setK d v fun t=>k ⟨tm.n,t⟩
 | none=>k tm
theorem vM {β:Type _} (tm:Tm) (d:Option Tmp) (v:V) (k:Tm->β):m9 tm d v k=k (mo tm d v):=by
 cases d with
 | none=>rfl
 | some d=>
  show (tm.t.setK d v fun t=>k ⟨tm.n,t⟩)=_;rw [Tr.HF];rfl
def nW {β:Type _} (v:V) (k:V->β):β:=
 match v with
 | .int a n=>k (.int a n)
 | .bool b=>k (.bool b)
 | .str s=>k (.str s)
 | .jJ=>k .jJ
 | .ptr b o=>k (.ptr b o)
 | .sl b o n f=>k (.sl b o n f)
 | .dsl n f cs=>k (.dsl n f cs)
 | .dptr cs=>k (.dptr cs)
 | .aw cs=>k (.aw cs)
 | .cS cs=>k (.cS cs)
 | .agg cs=>k (.agg cs)
 | .tup cs=>k (.tup cs)
 | .fn f cs=>k (.fn f cs)
 | .box f cs=>k (.box f cs)
 | .eptr b o r=>k (.eptr b o r)
 | .osl T n o cs=>k (.osl T n o cs)
 | .kU=>k .kU
 | .lit u=>k (.lit u)
 | .cw=>k .cw
theorem sA {β:Type _} (v:V) (k:V->β):nW v k=k v:=by cases v <;> rfl
def forceW (new bJ:List Nat):List Nat:=
 match new with
 | []=>bJ
 | x::xs=>bJ++x::xs
theorem Lg (new bJ:List Nat):forceW new bJ=bJ++new:=by cases new <;> simp [forceW]
inductive Ex where
 | normal
 | exit (id:Nat)
 | ret
section
variable {P:Program} {I:Nat->Prop} {μ μ':Mu} {w w':World} {hp:Hp} {out:Out}
theorem BA:∀ {ids:List Nat} {b j:Nat},pos ids b=some j->ids[j]?=some b
 | [],_,_,h=>by cases h
 | x::t,b,j,h=>by
  unfold pos at h;split at h
  ·rename_i e;cases h;simp [e]
  ·obtain ⟨k,hk,rfl⟩:=Option.map_eq_some_iff.1 h;simpa using BA hk
theorem m8:∀ {ids:List Nat} {b j:Nat},ids.Nodup->ids[j]?=some b->pos ids b=some j
 | [],_,_,_,h=>by simp at h
 | x::t,b,j,hn,h=>by
  unfold pos;rw [List.nodup_cons] at hn;cases j with
  | zero=>simp at h;rw [if_pos h]
  | succ j=>
   simp at h;have hb:b∈t:=List.mem_of_getElem? h;rw [if_neg (by rintro rfl;exact hn.1 hb),m8 hn.2 h];rfl
mutual
theorem Hs {ρ:Nat->Option Nat} (h:∀b b' g,ρ b=some b'->μ b=some g->μ' b'=some g):∀(c:V) (v:Value),V.R P I μ w c v->V.R P I μ' w (V.ren ρ c) v
 | .int _ _,_,k=>by simpa [V.R,V.ren] using k
 | .bool _,_,k=>by simpa [V.R,V.ren] using k
 | .str _,_,k=>by simpa [V.R,V.ren] using k
 | .jJ,_,k=>by simpa [V.R,V.ren] using k
 | .ptr b off,_,k=>by
  simp only [V.ren]
  split
  ·rename_i b' hb
   simp only [V.R] at k ⊢
   obtain ⟨g,hg,k⟩:=k
   exact ⟨g,h _ _ _ hb hg,k⟩
  ·simp [V.R]
 | .sl b off n f,_,k=>by
  simp only [V.ren]
  split
  ·rename_i b' hb
   simp only [V.R] at k ⊢
   rcases k with ⟨g,cap,e,N,i,hg,k⟩ | k
   ·exact .inl ⟨g,cap,e,N,i,h _ _ _ hb hg,k⟩
   ·exact .inr k
  ·simp [V.R]
 | .eptr b base rel,_,k=>by
  simp only [V.ren]
  split
  ·rename_i b' hb
   simp only [V.R] at k ⊢
   obtain ⟨g,hg,k⟩:=k
   exact ⟨g,h _ _ _ hb hg,k⟩
  ·simp [V.R]
 | .osl _ _ _ _,_,k=>by simp [V.R] at k
 | .dsl _ _ _,_,k=>by simpa [V.R,V.ren] using k
 | .dptr _,_,k=>by simpa [V.R,V.ren] using k
 | .aw _,_,k=>by simp [V.R] at k
 | .cS _,_,k=>by simp [V.R] at k
 | .agg cs,_,k=>by
  simp only [V.R,V.ren] at k ⊢
  obtain ⟨vs,h1,h2⟩:=k
  exact ⟨vs,h1,vR h cs _ h2⟩
 | .tup cs,_,k=>by
  simp only [V.R,V.ren] at k ⊢
  obtain ⟨vs,h1,h2⟩:=k
  exact ⟨vs,h1,vR h cs _ h2⟩
 | .fn _ cs,_,k=>by
  simp only [V.R,V.ren] at k ⊢
  obtain ⟨vs,h1,h2⟩:=k
  exact ⟨vs,h1,vR h cs _ h2⟩
 | .box _ cs,_,k=>by
  simp only [V.R,V.ren] at k ⊢
  obtain ⟨vs,h1,h2⟩:=k
  exact ⟨vs,h1,vR h cs _ h2⟩
 | .kU,_,k=>by simpa [V.R,V.ren] using k
 | .lit _,_,k=>by simpa [V.R,V.ren] using k
 | .cw,_,_=>by simp [V.R,V.ren]
theorem vR {ρ:Nat->Option Nat} (h:∀b b' g,ρ b=some b'->μ b=some g->μ' b'=some g):∀(cs:List V) (vs:List Value),V.RL P I μ w cs vs->V.RL P I μ' w (V.renL ρ cs) vs
 | [],_,k=>by simpa [V.RL,V.renL] using k
 | c::cs,_,k=>by
  simp only [V.RL,V.renL] at k ⊢
  obtain ⟨u,us,h1,h2,h3⟩:=k
  exact ⟨u,us,h1,Hs h c u h2,vR h cs us h3⟩
end
theorem aE3 (ρ:Nat->Option Nat):∀cs:List V,(V.renL ρ cs).length=cs.length
 | []=>rfl
 | _::cs=>by simp [V.renL,aE3 ρ cs]
theorem PL {ρ:Nat->Option Nat} {x:V} (hx:x.seals=none):(V.ren ρ x).seals=none:=by
 cases x <;> simp only [V.ren] <;> first | rfl | (simp [V.seals] at hx;done) | (split <;> rfl)
theorem PM (ρ:Nat->Option Nat) (o:Bool) (c:List V):V.ren ρ (mkS o c)=mkS o c:=by cases o <;> rfl
theorem aE5 (ρ:Nat->Option Nat) (x:V):(V.ren ρ x).isO=x.isO:=by
 cases x <;> simp only [V.ren] <;> first | rfl | (split <;> rfl)
theorem aE4 (ρ:Nat->Option Nat) {x:V} (h:x.isO=true):V.ren ρ x=x:=by
 cases x <;> first | rfl | (simp [V.isO] at h)
theorem OX.ren {ρ:Nat->Option Nat} (h:∀b b' g,ρ b=some b'->μ b=some g->μ' b'=some g) {F:List Nat} {x:V} {u:Value} (k:OX P I μ w F x u):OX P I μ' w F (V.ren ρ x) u:=by
 unfold OX at k ⊢;rw [aE5];cases hx:x.isO with
 | true=>rw [hx] at k;rw [aE4 ρ hx];exact k
 | false=>rw [hx] at k;exact ⟨k.1,Hs h _ _ k.2⟩
theorem CR.ren {ρ:Nat->Option Nat} (h:∀b b' g,ρ b=some b'->μ b=some g->μ' b'=some g):∀ {l:List V} {F:List Nat} {vs:List Value},CR P I μ w F l vs->CR P I μ' w F (V.renL ρ l) vs
 | [],F,_,k=>by simp only [V.renL];exact CR.fP.2 (CR.fP.1 k)
 | x::t,F,vs,k=>by
  simp only [V.renL];rcases gg x with ⟨o,c,rfl⟩ | hx
  ·obtain ⟨us,cM,F1,F2,rfl,rfl,h1,h2⟩:=CR.gC.1 k;rw [PM];exact CR.gC.2 ⟨us,cM,F1,F2,rfl,rfl,h1,CR.ren h h2⟩
  ·obtain ⟨u,us,F1,F2,rfl,rfl,h1,h2⟩:=(CR.fl hx).1 k;exact (CR.fl (PL hx)).2 ⟨u,us,F1,F2,rfl,rfl,h1.ren h,CR.ren h h2⟩
theorem AB (ρ:Nat->Option Nat):∀l:List V,(flat (V.renL ρ l)).length=(flat l).length
 | []=>rfl
 | x::t=>by
  simp only [V.renL];rcases gg x with ⟨o,c,rfl⟩ | hx
  ·simp only [PM,iF,List.length_append,AB ρ t]
  ·rw [fH hx,fH (PL hx),List.length_cons,List.length_cons,AB ρ t]
theorem Holds.ren {ρ:Nat->Option Nat} {b b':Nat} {blk:bM} (hh:Holds P I μ w b blk) (h:∀b b' g,ρ b=some b'->μ b=some g->μ' b'=some g) (hb:∀g,μ b=some g->μ' b'=some g) (h0:μ b=none->μ' b'=none) (hf:μ'.ft b'=μ.ft b):Holds P I μ' w b' (V.renL ρ blk.1,blk.2):=by
 rcases hh with ⟨g,cs,fr,h1,h2,h3,h4,⟨h5,h6⟩,h7,h8⟩ | ⟨h1,h3⟩ | ⟨g,es,ck,c,h1,h2,h3,rfl,h4,h5⟩
 ·refine .inl ⟨g,cs,fr,hb g h1,h2,h3,h4,⟨?_,?_⟩,by rw [hf];exact h7,by rw [hf];exact h8⟩
  ·show (flat (V.renL ρ blk.1)).length<=_;rw [AB];exact h5
  ·show CR P I μ' w (μ'.ft b') (V.renL ρ blk.1) (List.take (flat (V.renL ρ blk.1)).length _);rw [AB,hf];exact h6.ren h
 ·exact .inr (.inl ⟨h0 h1,by rw [hf];exact h3⟩)
 ·exact .inr (.inr ⟨g,es,ck,c,hb g h1,h2,h3,by simp only [V.renL,V.ren],h4,by rw [hf];exact h5⟩)
theorem PJ {ρ:Nat->Option Nat} {x:Option bM} {blk:bM} (h:kY ρ x=some blk):∃cb,x=some cb/\blk=(V.renL ρ cb.1,cb.2):=by
 unfold kY at h;obtain ⟨b,hb,rfl⟩:=Option.map_eq_some_iff.1 h;exact ⟨b,hb,rfl⟩
def dU (hp:Hp) (b:Nat):Prop:=∃blk,hp[b]?=some (some blk)
theorem yf (hp:Hp):∀(n:Nat) (todo seen:List Nat),seen.Nodup->(∀b∈seen,dU hp b)->(reach hp n todo seen).Nodup/\(∀b∈reach hp n todo seen,dU hp b)
 | 0,_,seen,h1,h2=>⟨h1,h2⟩
 | n+1,[],seen,h1,h2=>⟨h1,h2⟩
 | n+1,b::t,seen,h1,h2=>by
  unfold reach;split
  ·exact yf hp n t seen h1 h2
  ·rename_i hc;have hb:b∉seen:=by simpa using hc
   split
   ·rename_i blk bz;refine yf hp n _ _ ?_ ?_
    ·rw [List.nodup_append];refine ⟨h1,by simp,fun a ha c hc e => ?_⟩;simp at hc;subst hc;subst e;exact hb ha
    ·intro c hc;rcases List.mem_append.1 hc with hc | hc
     ·exact h2 c hc
     ·simp at hc;subst hc;exact ⟨blk,bz⟩
   ·exact yf hp n t seen h1 h2
structure zH (hp:Hp) (r:aF):Prop where
 len:hp.length<=r.hp.length
 frame:∀b,b<hp.length->b∉r.wr->r.hp[b]?=hp[b]?
 CE:∀b∈r.wr,b<hp.length
 alive:∀b,b<hp.length->dU r.hp b->dU hp b
def au (P:Program) (f:FuncId) (vs:List V) (hp:Hp) (r:aF):Prop:=
 zH hp r/\∀(I:Nat->Prop) (w:World) (μ:Mu) (b9:Array Value),V.RL P I μ w vs b9.toList->cV P I μ w hp (List.range hp.length) r.hp.length->(∀b g,μ b=some g->b<hp.length) ->
  Calls P f b9 w fun e w'=>∃val μ' I',e= .returned val/\V.R P I' μ' w' r.v val/\Good P I I' μ μ' w w' hp r.hp (List.range hp.length) r.wr
def j5 (P:Program) (callF:gv):Prop:=∀f vs hp r,callF f vs hp=some r->au P f vs hp r
theorem RN {α β:Type} (l:List α) (f:α×Nat->β) (b:Nat):((l.zipIdx).map f)[b]?=(l[b]?).map fun x=>f (x,b):=by
 simp [List.getElem?_map,List.getElem?_zipIdx];cases l[b]? <;> simp
theorem call_sound {callF:gv} (hc:j5 P callF) {f:FuncId} {vs:List V} {b9:Array Value} (h:evCall callF hp f vs=some out) (hv:V.RL P I μ w vs b9.toList) (pre:cV P I μ w hp out.acc out.hp.length):
  Calls P f b9 w fun e w'=>∃val μ' I',e= .returned val/\V.R P I' μ' w' out.v val/\Good P I I' μ μ' w w' hp out.hp out.acc out.wr:=by
 unfold evCall at h;simp only at h;generalize mV:reach hp 100000 (V.refsL vs) []=ids at h;obtain ⟨eP,dX⟩:=yf hp 100000 (V.refsL vs) [] (by simp) (by simp);rw [mV] at eP dX;split at h;case h_2=>cases h
 case h_1 r hr=>
 cases h
 obtain ⟨ht,eW⟩:=hc _ _ _ _ hr;generalize cm:(ids.map fun b=>kY (pos ids) (hp.getD b none))=sub at hr ht eW;have og:sub.length=ids.length:=by rw [<- cm];simp
 have bQ:∀b∈ids,b<hp.length:=fun b hb=>by obtain ⟨blk,h⟩:=dX b hb;exact fk h
 let μc:Mu:=⟨fun j=>match ids[j]? with
  | some b=>μ b
  | none=>none,fun j=>match ids[j]? with
  | some b=>μ.ft b
  | none=>[]⟩
 have vB:∀(j b:Nat),ids[j]?=some b->μc j=μ b:=by intro j b h;simp [μc,h]
 have Gj:∀(j b:Nat),ids[j]?=some b->μc.ft j=μ.ft b:=by intro j b h;simp [μc,h]
 have Gk:∀(j b:Nat),ids[j]?=some b->∀k,μc.own j k↔μ.own b k:=by intro j b h k;simp [Mu.own,vB j b h,Gj j b h]
 have MC:∀j,ids.length<=j->μc j=none:=by intro j h;simp [μc,List.getElem?_eq_none h]
 have hρ:∀b b' g,pos ids b=some b'->μ b=some g->μc b'=some g:=by
  intro b b' g hb hg;rw [vB b' b (BA hb)];exact hg
 have F8:∀(j:Nat) (blk:bM),sub[j]?=some (some blk)->∃b cb,ids[j]?=some b/\hp[b]?=some (some cb)/\blk=(V.renL (pos ids) cb.1,cb.2):=by
  intro j blk hj;rw [<- cm,List.getElem?_map] at hj;obtain ⟨b,hb,hj⟩:=Option.map_eq_some_iff.1 hj;obtain ⟨cb,fg⟩:=dX b (List.mem_of_getElem? hb);simp only [List.getD_eq_getElem?_getD,fg,Option.getD_some,kY,Option.map_some] at hj;exact ⟨b,cb,hb,fg,(by cases hj;rfl)⟩
 have Yk:cV P I μc w sub (List.range sub.length) r.hp.length:=by
  refine ⟨pre.dB,fun j hj blk bz => ?_,fun j hj k hk b1 b2 g bc h1 h2 g1 g2 => ?_,fun j hj _=>MC j (by omega)⟩
  ·obtain ⟨b,cb,hb,fg,rfl⟩:=F8 j blk bz;exact (pre.holds b (List.mem_of_getElem? hb) cb fg).ren hρ (fun g hg=>by rw [vB j b hb];exact hg) (fun h=>by rw [vB j b hb];exact h) (Gj j b hb)
  ·obtain ⟨b,c0,hb,fg,_⟩:=F8 j b1 h1;obtain ⟨c,c1,hc,kg,_⟩:=F8 k b2 h2;refine pre.inj b (List.mem_of_getElem? hb) c (List.mem_of_getElem? hc) _ _ g (fun e=>bc ?_) fg kg ((Gk j b hb g).1 g1) ((Gk k c hc g).1 g2);subst e;have h1:=m8 eP hb;rw [m8 eP hc] at h1;cases h1;rfl
 have LM:∀b g,μc b=some g->b<sub.length:=by
  intro j g hg;rcases Nat.lt_or_ge j sub.length with h | h
  ·exact h
  ·rw [MC j (by omega)] at hg;cases hg
 refine (eW I w μc b9 (vR hρ _ _ hv) Yk LM).mono ?_;rintro e w' ⟨val,j4,I',rfl,hR,hG⟩;have A6:(hp.length+(r.hp.length - ids.length))=((hp.zipIdx.map fun x=>if (r.wr.filterMap fun j=>ids[j]?).contains x.2 then kY (lY ids hp.length) (((pos ids x.2).bind fun j=>r.hp[j]?).getD none) else x.1)++(r.hp.drop ids.length).map (kY (lY ids hp.length))).length:=by simp
 let μ':Mu:=⟨fun b=>if b<hp.length then μ b else if b<hp.length+(r.hp.length - ids.length) then j4 (ids.length+(b - hp.length)) else μ b,
  fun b=>if b<hp.length then match pos ids b with
   | some j=>j4.ft j
   | none=>μ.ft b
  else if b<hp.length+(r.hp.length - ids.length) then j4.ft (ids.length+(b - hp.length)) else μ.ft b⟩
 have sY:∀b,b<hp.length->μ' b=μ b:=fun b hb=>by simp [μ',hb]
 have aW1:ids.length<=r.hp.length:=by have:=ht.len;omega
 have MB:∀k,ids.length+k<r.hp.length->μ' (hp.length+k)=j4 (ids.length+k)/\μ'.ft (hp.length+k)=j4.ft (ids.length+k):=fun k hk=>by
  have h1:¬hp.length+k<hp.length:=by omega
  have h2:hp.length+k<hp.length+(r.hp.length - ids.length):=by omega
  simp only [μ',h1,h2,if_true,if_false];rw [show ids.length+(hp.length+k - hp.length)=ids.length+k by omega];exact ⟨rfl,rfl⟩
 have LS:∀(j b:Nat),ids[j]?=some b->μ'.ft b=j4.ft j:=by
  intro j b hj;have hb:=bQ b (List.mem_of_getElem? hj);simp only [μ',hb,if_true,m8 eP hj]
 have Xz:∀b,b<hp.length->pos ids b=none->μ'.ft b=μ.ft b:=by
  intro b hb hp;simp only [μ',hb,if_true,hp]
 have Xj:∀j g,j4 j=some g->j<r.hp.length:=by
  intro j g hg;rcases hG.cP j g hg with h | ⟨_,h⟩
  ·have:=LM j g h;have:=ht.len;omega
  ·exact h
 have hold:∀(j b:Nat),ids[j]?=some b->∀g,j4 j=some g->μ b=some g:=by
  intro j b hj g hg;have iK:j<ids.length:=(List.getElem?_eq_some_iff.1 hj).1;rcases hG.cP j g hg with h | ⟨h,_⟩
  ·rwa [vB j b hj] at h
  ·omega
 have hle:dE μ μ':=by
  intro b g hb;rcases Nat.lt_or_ge b hp.length with h | h
  ·rw [sY b h];exact hb
  ·rcases Nat.lt_or_ge b (hp.length+(r.hp.length - ids.length)) with h2 | h2
   ·rw [pre.fresh b h (by rw [<- A6];exact h2)] at hb;cases hb
   ·have h1:¬b<hp.length:=by omega
    have h3:¬b<hp.length+(r.hp.length - ids.length):=by omega
    simp only [μ',h1,h3,if_false];exact hb
 have uY:∀j b' g,lY ids hp.length j=some b'->j4 j=some g->μ' b'=some g:=by
  intro j b' g hj hg;unfold lY at hj;split at hj
  ·have:=hold j b' hj g hg;rw [sY b' (bQ b' (List.mem_of_getElem? hj))];exact this
  ·rename_i iK;cases hj
   have:=Xj j g hg;rw [(MB _ (by omega)).1];rw [show ids.length+(j - ids.length)=j by omega];exact hg
 have gR:∀j,j∈r.wr->∃b,ids[j]?=some b/\b∈r.wr.filterMap (fun j=>ids[j]?)/\(∃blk,hp[b]?=some (some blk))/\∀k,μc.own j k↔μ.own b k:=by
  intro j hj;have iK:=ht.CE j hj;have mW:ids[j]?=some (ids[j]'(by omega)):=List.getElem?_eq_getElem (by omega);generalize ids[j]'(by omega)=b at mW;exact ⟨b,mW,List.mem_filterMap.2 ⟨j,hj,mW⟩,dX b (List.mem_of_getElem? mW),Gk j b mW⟩
 have hX:cO I w w' (fun k=>∃b∈r.wr.filterMap (fun j=>ids[j]?),μ.own b k):=hG.cJ.mono fun k hk=>by
  obtain ⟨j,hj,hk⟩:=hk;obtain ⟨b,_,fy,_,W4⟩:=gR j hj;exact ⟨b,fy,(W4 k).1 hk⟩
 generalize XF:((hp.zipIdx.map fun x=>if (r.wr.filterMap fun j=>ids[j]?).contains x.2 then kY (lY ids hp.length) (((pos ids x.2).bind fun j=>r.hp[j]?).getD none) else x.1)++(r.hp.drop ids.length).map (kY (lY ids hp.length)))=dH at A6 pre ⊢;have hA:∀b blk,dH[b]?=some (some blk)->(b<hp.length/\b∉r.wr.filterMap (fun j=>ids[j]?)/\hp[b]?=some (some blk)) \/
   (∃j cb,r.hp[j]?=some (some cb)/\blk=(V.renL (lY ids hp.length) cb.1,cb.2)/\(∀g,μ' b=some g↔j4 j=some g)/\μ'.ft b=j4.ft j/\((b<hp.length/\ids[j]?=some b/\j∈r.wr)\/(hp.length<=b/\j=ids.length+(b - hp.length)))):=by
  intro b blk hb;rw [<- XF,List.getElem?_append] at hb;simp only [List.length_map,List.length_zipIdx] at hb;split at hb
  ·rename_i bO;rw [RN] at hb;obtain ⟨x,hx,hb⟩:=Option.map_eq_some_iff.1 hb;simp only at hb;split at hb
   ·rename_i hw;have hw':b∈r.wr.filterMap fun j=>ids[j]?:=by simpa using hw
    obtain ⟨j,hj,mW⟩:=List.mem_filterMap.1 hw';rw [m8 eP mW] at hb;obtain ⟨cb,h0,rfl⟩:=PJ hb;have h1:r.hp[j]?=some (some cb):=by
     simp only [Option.bind_some] at h0;cases Mm:r.hp[j]? with
     | none=>rw [Mm] at h0;cases h0
     | some y=>rw [Mm] at h0;simp at h0;rw [h0]
    refine .inr ⟨j,cb,h1,rfl,fun g=>⟨fun hg => ?_,fun hg => ?_⟩,LS j b mW,.inl ⟨bO,mW,hj⟩⟩
    ·rw [sY b bO,<- vB j b mW] at hg;exact hG.le j g hg
    ·rw [sY b bO];exact hold j b mW g hg
   ·rename_i hw;have hw':b∉r.wr.filterMap fun j=>ids[j]?:=by simpa using hw
    exact .inl ⟨bO,hw',by rw [hx,hb]⟩
  ·rename_i bO;rw [List.getElem?_map,List.getElem?_drop] at hb;obtain ⟨x,hx,hb⟩:=Option.map_eq_some_iff.1 hb;obtain ⟨cb,rfl,rfl⟩:=PJ hb;have XV:=(List.getElem?_eq_some_iff.1 hx).1;have e:=MB (b - hp.length) XV;rw [show hp.length+(b - hp.length)=b by omega] at e;exact .inr ⟨_,cb,hx,rfl,fun g=>by rw [e.1],e.2,.inr ⟨by omega,rfl⟩⟩
 have XJ:∀j,j<ids.length->j∈List.range sub.length:=fun j hj=>by simp;omega
 have dp:∀(b j:Nat),((b<hp.length/\ids[j]?=some b/\j∈r.wr)\/(hp.length<=b/\j=ids.length+(b - hp.length)))->(j∈List.range sub.length\/sub.length<=j):=by
  rintro b j (⟨_,h,_⟩ | ⟨_,h⟩)
  ·exact .inl (XJ j (List.getElem?_eq_some_iff.1 h).1)
  ·exact .inr (by omega)
 have L1:∀(b j:Nat),((b<hp.length/\ids[j]?=some b/\j∈r.wr)\/(hp.length<=b/\j=ids.length+(b - hp.length)))->(sub.length<=j\/j∈r.wr):=by
  rintro b j (⟨_,_,h⟩ | ⟨_,h⟩)
  ·exact .inr h
  ·exact .inl (by omega)
 have gd:∀(b j k:Nat),(∀g,μ' b=some g↔j4 j=some g)->μ'.ft b=j4.ft j->(μ'.own b k↔j4.own j k):=by
  intro b j k h1 h2;simp only [Mu.own,h1,h2]
 have FC:∀b,b<hp.length->b∉r.wr.filterMap (fun j=>ids[j]?)->μ'.ft b=μ.ft b:=by
  intro b hb fy;cases hp:pos ids b with
  | none=>exact Xz b hb hp
  | some j=>
   have hj:=BA hp;have iK:j<ids.length:=(List.getElem?_eq_some_iff.1 hj).1;rw [LS j b hj,hG.dj j (fun XK=>fy (List.mem_filterMap.2 ⟨j,XK,hj⟩)) (by omega),Gj j b hj]
 have FV:∀b k,b<hp.length->b∉r.wr.filterMap (fun j=>ids[j]?)->μ'.own b k->μ.own b k:=by
  intro b k hb fy hk;rcases hk with hk | hk
  ·rw [sY b hb] at hk;exact .inl hk
  ·rw [FC b hb fy] at hk;exact .inr hk
 have X8:∀b blk g,b∈ids->b∉r.wr.filterMap (fun j=>ids[j]?)->hp[b]?=some (some blk)->μ.own b g->¬I' g:=by
  intro b blk g ib fy fg hg hI;have hh:=pre.holds b ib blk fg;rcases hG.eY g hI with h | ⟨h,_⟩ | ⟨c,cr,cg,_⟩
  ·exact hh.kV hg h
  ·have:=hh.lt hg;omega
  ·obtain ⟨d,Xg,od,⟨_,mS⟩,qI⟩:=gR c cr;exact pre.inj b ib d (List.mem_of_getElem? Xg) _ _ g (by rintro rfl;exact fy od) fg mS hg ((qI g).1 cg)
 refine ⟨val,μ',I',rfl,Hs uY _ _ hR,⟨hG.dI,fun k hk => ?_,hX,hle,fun b g hb => ?_,fun b fy nZ => ?_,fun b hb blk bz => ?_,fun b hb blk bz g hg => ?_,fun b c b1 b2 g bc hb hc h1 h2 g1 g2 => ?_⟩⟩
 ·rcases hG.eY k hk with h | h | ⟨c,cr,cg,_⟩
  ·exact .inl h
  ·exact .inr (.inl h)
  ·obtain ⟨d,_,od,mS,qI⟩:=gR c cr;exact .inr (.inr ⟨d,od,(qI k).1 cg,mS⟩)
 ·rcases Nat.lt_or_ge b hp.length with h | h
  ·rw [sY b h] at hb;exact .inl hb
  ·rcases Nat.lt_or_ge b (hp.length+(r.hp.length - ids.length)) with h2 | h2
   ·exact .inr ⟨h,by rw [<- A6];exact h2⟩
   ·have h1:¬b<hp.length:=by omega
    have h3:¬b<hp.length+(r.hp.length - ids.length):=by omega
    simp only [μ',h1,h3,if_false] at hb;exact .inl hb
 ·rcases Nat.lt_or_ge b hp.length with h | h
  ·exact FC b h fy
  ·have h1:¬b<hp.length:=by omega
   have h3:¬b<hp.length+(r.hp.length - ids.length):=by rw [A6];intro h4;exact nZ ⟨h,h4⟩
   simp only [μ',h1,h3,if_false]
 ·rcases hA b blk bz with ⟨bO,fL,h0⟩ | ⟨j,cb,hj,rfl,hm,hf,hw⟩
  ·have ib:b∈ids:=by rcases hb with hb | hb;exact hb;omega
   refine (pre.holds b ib blk h0).keep hX hG.dI hle (fun h=>by rw [sY b bO];exact h) (FC b bO fL) (fun g hg hx => ?_) (fun g hg=>X8 b blk g ib fL h0 hg);obtain ⟨c,hc,cg⟩:=hx;obtain ⟨j,_,XH⟩:=List.mem_filterMap.1 hc;have jg:c∈ids:=List.mem_of_getElem? XH;obtain ⟨bG,cW⟩:=dX c jg;exact pre.inj b ib c jg _ _ g (by rintro rfl;exact fL hc) h0 cW hg cg
  ·exact (hG.holds j (dp b j hw) cb hj).ren uY (fun g hg=>(hm g).2 hg) (fun h=>by
    cases bT:μ' b with
    | none=>rfl
    | some g=>rw [(hm g).1 bT] at h;cases h) hf
 ·rcases hA b blk bz with ⟨bO,fL,_⟩ | ⟨j,cb,hj,rfl,hm,hf,hw⟩
  ·rcases hb with hb | hb
   ·omega
   ·exact absurd hb fL
  ·rcases hG.er j (L1 b j hw) cb hj g ((gd b j g hm hf).1 hg) with h | ⟨c,cr,cg,_⟩
   ·exact .inl h
   ·obtain ⟨d,_,od,mS,qI⟩:=gR c cr;exact .inr ⟨d,od,(qI g).1 cg,mS⟩
 ·have one:∀b c b1 b2,b≠c->(b∈ids\/hp.length<=b)->b<hp.length->b∉r.wr.filterMap (fun j=>ids[j]?)->hp[b]?=some (some b1)->(∃j bj,r.hp[j]?=some (some bj)/\b2=(V.renL (lY ids hp.length) bj.1,bj.2)/\(∀g,μ' c=some g↔j4 j=some g)/\μ'.ft c=j4.ft j/\((c<hp.length/\ids[j]?=some c/\j∈r.wr)\/(hp.length<=c/\j=ids.length+(c - hp.length))))->μ'.own b g->μ'.own c g->False:=by
   rintro b c b1 b2 bc hb bO fy fg ⟨j,bj,hj,_,hm,hf,hw⟩ g1 g2;have ib:b∈ids:=by rcases hb with hb | hb;exact hb;omega
   have g1':=FV b g bO fy g1;rcases hG.er j (L1 c j hw) bj hj g ((gd c j g hm hf).1 g2) with h | ⟨d,od,mT,_⟩
   ·have:=(pre.holds b ib _ fg).lt g1';omega
   ·obtain ⟨q,Yn,Yp,⟨_,Yl⟩,Yo⟩:=gR d od;exact pre.inj b ib q (List.mem_of_getElem? Yn) _ _ g (by rintro rfl;exact fy Yp) fg Yl g1' ((Yo g).1 mT)
  rcases hA b b1 h1 with ⟨bO,fy,fg⟩ | eO
  ·rcases hA c b2 h2 with ⟨cd,cr,kg⟩ | l9
   ·have ib:b∈ids:=by rcases hb with hb | hb;exact hb;omega
    have jg:c∈ids:=by rcases hc with hc | hc;exact hc;omega
    exact pre.inj b ib c jg _ _ g bc fg kg (FV b g bO fy g1) (FV c g cd cr g2)
   ·exact one b c b1 b2 bc hb bO fy fg l9 g1 g2
  ·rcases hA c b2 h2 with ⟨cd,cr,kg⟩ | l9
   ·exact one c b b2 b1 (Ne.symm bc) hc cd cr kg eO g2 g1
   ·obtain ⟨j,bj,hj,_,xD,Xt,Mx⟩:=eO;obtain ⟨k,bk,hk,_,XW,Xu,m1⟩:=l9;refine hG.inj j k _ _ g (fun e=>bc ?_) (dp b j Mx) (dp c k m1) hj hk ((gd b j g xD Xt).1 g1) ((gd c k g XW Xu).1 g2);subst e;rcases Mx with ⟨_,h3,_⟩ | ⟨_,h3⟩ <;> rcases m1 with ⟨_,h4,_⟩ | ⟨_,h4⟩
    ·rw [h3] at h4;cases h4;rfl
    ·have:=(List.getElem?_eq_some_iff.1 h3).1;omega
    ·have:=(List.getElem?_eq_some_iff.1 h4).1;omega
    ·omega
theorem JJ {callF:gv} (hc:j5 P callF) {f:FuncId} {vs:List V} (h:evCall callF hp f vs=some out):Tidy hp out.hp out.acc out.wr:=by
 unfold evCall at h;simp only at h;generalize mV:reach hp 100000 (V.refsL vs) []=ids at h;obtain ⟨eP,dX⟩:=yf hp 100000 (V.refsL vs) [] (by simp) (by simp);rw [mV] at eP dX;split at h;case h_2=>cases h
 case h_1 r hr=>
 cases h
 obtain ⟨ht,_⟩:=hc _ _ _ _ hr;have bQ:∀b∈ids,b<hp.length:=fun b hb=>by obtain ⟨blk,h⟩:=dX b hb;exact fk h
 refine ⟨by simp,fun b hb hn => ?_,fun b hb => ?_,bQ,fun b hb => ?_⟩
 ·rw [List.getElem?_append_left (by simpa using hb),RN,List.getElem?_eq_getElem hb];simp only [Option.map_some];rw [if_neg (by simpa using hn)]
 ·obtain ⟨j,_,hj⟩:=List.mem_filterMap.1 hb;exact List.mem_of_getElem? hj
 ·obtain ⟨j,_,hj⟩:=List.mem_filterMap.1 hb;exact dX b (List.mem_of_getElem? hj)
end
section
variable {P:Program} {I:Nat->Prop} {μ μ':Mu} {w w':World} {hp:Hp} {out:Out}
def ee (P:Program):Prop:=∀(f:FuncId) (fn:Func),P.funcs[f]?=some fn->fn.name ≠ "runtime.NumGoroutine"
def lO (P:Program) (callF:gv):Prop:=∀f vs hp r,callF f vs hp=some r->∃fn,P.funcs[f]?=some fn/\fn.body.isSome=true
theorem ay6 {callF:gv} (hn:ee P) (hb:lO P callF) (hc:j5 P callF) {o:Oper} {e:Operand->V} {a:Act} {K:Act->World->Prop} {Q:Exit->Act->World->Prop} (h:evOp P callF e hp o.op=some out)
  (bX:∀x∈o.op.operands,V.R P I μ w (e x) (a.eval x)) (pre:cV P I μ w hp out.acc out.hp.length)
  (hK:∀val w' μ' I',V.R P I' μ' w' out.v val->Good P I I' μ μ' w w' hp out.hp out.acc out.wr->K (a.put o.dst val) w'):o.wp P a w K Q:=by
 unfold evOp at h
 split at h
 ·rename_i f args ts cK
  rw [cK] at bX
  split at h
  case h_2=>cases h
  case h_1 g cap hf=>
  have xy:=bX f (by simp [Op.operands,Call.operands])
  rw [hf] at xy
  simp only [V.R] at xy
  obtain ⟨vs,xy,Fx⟩:=xy
  have fI:V.RL P I μ w (args.toList.map e++cap) ((args.map a.eval)++vs).toList:=by
   rw [Array.toList_append,Array.toList_map]
   exact (wN fun x hx=>bX x (by simp only [Op.operands,Call.operands];exact Array.mem_append.2 (.inr (by simpa using hx)))).append Fx
  have uZ:∃fn,P.funcs[g]?=some fn/\fn.body.isSome=true:=by
   unfold evCall at h
   simp only at h
   split at h
   ·rename_i r hr;exact hb _ _ _ _ hr
   ·cases h
  obtain ⟨fn,ji,Fv⟩:=uZ
  have pG:(execOp a.eval o).run P w= .ok (.enter g ((args.map a.eval)++vs)) w:=by
   have W0:fn.body.isNone=false:=by cases hq:fn.body <;> simp_all
   have X5:(fn.name == "runtime.NumGoroutine")=false:=by simpa using hn g fn ji
   simp only [execOp,cK,resolve,xy,Deferred.ofValue,Sem.run_bind,Sem.run_pure,Result.andThen_ok,invoke,callFunc,run_program,ji,X5,W0,Bool.false_eq_true,if_false,Array.empty_append]
  unfold Oper.wp
  rw [pG]
  refine (call_sound hc h fI pre).mono ?_
  rintro e' w' ⟨val,μ',I',rfl,hR,hG⟩
  exact hK val w' μ' I' hR hG
 ·rename_i x name args ts cK
  rw [cK] at bX
  split at h
  case h_2=>cases h
  case h_1 t v hx=>
  split at h
  case h_2=>cases h
  case h_1 g X1=>
  have xR:=bX x (by simp [Op.operands,Call.operands])
  rw [hx] at xR
  simp only [V.R,V.RL] at xR
  obtain ⟨vs,xR,u,us,iL,YM,rfl⟩:=xR
  obtain rfl:vs = #[u]:=by cases vs;simp_all
  have fI:V.RL P I μ w (v::args.toList.map e) (#[u]++args.map a.eval).toList:=by
   rw [Array.toList_append,Array.toList_map]
   simp only [V.RL,List.cons_append,List.nil_append]
   exact ⟨u,_,rfl,YM,wN fun y hy=>bX y (by simp only [Op.operands,Call.operands];exact Array.mem_append.2 (.inr (by simpa using hy)))⟩
  have uZ:∃fn,P.funcs[g]?=some fn/\fn.body.isSome=true:=by
   unfold evCall at h
   simp only at h
   split at h
   ·rename_i r hr;exact hb _ _ _ _ hr
   ·cases h
  have pG:(execOp a.eval o).run P w= .ok (.enter g (#[u]++args.map a.eval)) w:=by
   have hm:=ai5 X1 u (args.map a.eval) w
   have e0:(#[Value.iface t u]++args.map a.eval)[0]?=some (.iface t u):=by
    rw [Array.getElem?_append];simp
   have e1:(#[Value.iface t u]++args.map a.eval).extract 1 (#[Value.iface t u]++args.map a.eval).size=args.map a.eval:=by
    apply Array.ext'
    simp only [Array.toList_extract,List.extract_eq_take_drop,Array.toList_append,Array.toList_map,List.cons_append,List.nil_append,List.drop_succ_cons,List.drop_zero]
    rw [List.take_of_length_le (by simp)]
   have e2:BK.mk (.iface t) #[u]= .iface t u:=rfl
   simp only [execOp,cK,resolve,xR,e2,Sem.run_bind,Sem.run_pure,Result.andThen_ok,invoke,e0,e1]
   exact hm
  unfold Oper.wp
  rw [pG]
  refine (call_sound hc h fI pre).mono ?_
  rintro e' w' ⟨val,μ',I',rfl,hR,hG⟩
  exact hK val w' μ' I' hR hG
 ·split at h
  ·rename_i gn
   cases h
   obtain ⟨nx,val,w',μ',h1,h2,h3,h4⟩:=aB1 gn bX pre
   unfold Oper.wp
   rw [h1]
   rcases h2 with rfl | ⟨rfl,rfl⟩
   ·exact hK _ _ _ _ h3 h4
   ·exact hK _ _ _ _ h3 h4
  ·obtain ⟨val,w',μ',h1,h3,h4⟩:=ah9 (fun _=>rfl) h bX pre
   unfold Oper.wp
   rw [h1]
   exact hK _ _ _ _ h3 h4
theorem ay5 {callF:gv} (hc:j5 P callF) {o:Op} {e:Operand->V} (h:evOp P callF e hp o=some out):Tidy hp out.hp out.acc out.wr:=by
 unfold evOp at h;split at h
 ·split at h
  ·exact JJ hc h
  ·cases h
 ·split at h
  ·split at h
   ·exact JJ hc h
   ·cases h
  ·cases h
 ·split at h
  ·rename_i gn;cases h;exact aB2 gn
  ·exact ai0 h
structure gw (P:Program) (e:Operand->V) (hp:Hp) (o:Op) (out:Out):Prop where
 tidy:Tidy hp out.hp out.acc out.wr
 wp:∀ {I:Nat->Prop} {μ:Mu} {w:World} {oper:Oper} {a:Act} {K:Act->World->Prop} {Q:Exit->Act->World->Prop},oper.op=o ->
  (∀x∈o.operands,V.R P I μ w (e x) (a.eval x))->cV P I μ w hp out.acc out.hp.length ->
  (∀val w' μ' I',V.R P I' μ' w' out.v val->Good P I I' μ μ' w w' hp out.hp out.acc out.wr->K (a.put oper.dst val) w')->oper.wp P a w K Q
theorem w5 {callF:gv} (hn:ee P) (hb:lO P callF) (hc:j5 P callF) {o:Op} {e:Operand->V} {hp:Hp} {out:Out} (h:evOp P callF e hp o=some out):gw P e hp o out:=
 ⟨ay5 hc h,fun ho bX pre hK=>ay6 hn hb hc (by rw [ho];exact h) (by rw [ho];exact bX) pre hK⟩
def lw {α:Type} (gq:Nat->Bool) (can:Nat->α) (L:Nat->Bool):Nat->α
 | 0=>can 0
 | n+1=>if L n&&gq n then can (n+1) else lw gq can L n
theorem xV {α:Type} {gq:Nat->Bool} {can:Nat->α} {L:Nat->Bool}:∀ {j:Nat},(∀i,i<j->gq i=true->L i=true)->(∀i,i<j->gq i=false->can (i+1)=can i)->lw gq can L j=can j
 | 0,_,_=>rfl
 | j+1,h,k=>by
  unfold lw;cases ht:gq j with
  | true=>simp [h j ag ht]
  | false=>
   simp only [Bool.and_false,Bool.false_eq_true,if_false,k j ag ht];exact xV (fun i hi=>h i ag) (fun i hi=>k i ag)
theorem Bg {α:Type} {gq:Nat->Bool} {can:Nat->α} {L:Nat->Bool} {j:Nat}:∀ {n:Nat},j<=n->(∀i,j<=i->i<n->gq i=true->L i=false)->lw gq can L n=lw gq can L j
 | 0,h,_=>by rw [show j=0 by omega]
 | n+1,h,k=>by
  by_cases e:j=n+1
  ·rw [e]
  ·rw [lw];have:(L n&&gq n)=false:=by
    cases ht:gq n with
    | true=>simp [k n (by omega) (by omega) ht]
    | false=>simp
   rw [this,if_neg (by simp),Bg (by omega) fun i h1 h2=>k i h1 (by omega)]
def gG (L:Nat->Bool) (j:Nat):Nat->Bool:=fun i=>i==j||L i
theorem Gw {α:Type} {gq:Nat->Bool} {can:Nat->α} {L:Nat->Bool} {j:Nat} (h:gq j=false):∀n,lw gq can (gG L j) n=lw gq can L n
 | 0=>rfl
 | n+1=>by
  unfold lw;rw [Gw h n];by_cases e:n=j
  ·subst e;simp [h]
  ·simp [gG,e]
theorem M9 {α:Type} {gq:Nat->Bool} {can:Nat->α} {L:Nat->Bool} {j n:Nat} (hj:j<n) (h:gq j=true) (k:∀i,j<i->i<n->gq i=true->L i=false):lw gq can (gG L j) n=can (j+1):=by
 rw [Bg (j:=j+1) ag (fun i h1 h2 h3=>by simp only [gG];rw [k i ag h2 h3];simp;omega)];unfold lw;simp [gG,h]
end
def qb (P:Program) (ops:Array Oper) (s:St) (o:Oper) (s':St) (acc wr:List Nat):Prop:=
 (wantedV ops s.tm o=some true/\∃out,gw P (evalV s.tm) s.hp o.op out/\s'=⟨mo s.tm o.dst out.v,out.hp,s.wr++out.wr⟩/\acc=out.acc/\wr=out.wr) \/
 (wantedV ops s.tm o=some false/\s'=⟨mo s.tm o.dst (.lit undef),s.hp,s.wr⟩/\acc=[]/\wr=[])
structure j8 (P:Program) (ops:Array Oper) (sn:Nat->St) (ac wr:Nat->List Nat):Prop where
 step:∀i o,ops[i]?=some o->qb P ops (sn i) o (sn (i+1)) (ac i) (wr i)
section
variable {P:Program} {ops:Array Oper} {sn:Nat->St} {ac wr:Nat->List Nat}
def gr (sn:Nat->St) (wr:Nat->List Nat) (b i:Nat):Bool:=(wr i).contains b||(decide ((sn i).hp.length<=b)&&decide (b<(sn (i+1)).hp.length))
def my (ops:Array Oper) (t i:Nat):Bool:=((ops[i]?).bind (·.dst))==some t
theorem QN {s s':St} {o:Oper} {acc IK:List Nat} (h:qb P ops s o s' acc IK):
  Tidy s.hp s'.hp acc IK/\s'.wr=s.wr++IK/\∃v,s'.tm=mo s.tm o.dst v:=by
 rcases h with ⟨_,out,ho,rfl,rfl,rfl⟩ | ⟨_,rfl,rfl,rfl⟩
 ·exact ⟨ho.tidy,rfl,_,rfl⟩
 ·exact ⟨.same _ (by simp),by simp,_,rfl⟩
theorem j8.parts (hr:j8 P ops sn ac wr) (i:Nat) (o:Oper) (ho:ops[i]?=some o):Tidy (sn i).hp (sn (i+1)).hp (ac i) (wr i)/\(sn (i+1)).wr=(sn i).wr++wr i/\∃v,(sn (i+1)).tm=mo (sn i).tm o.dst v:=
 QN (hr.step i o ho)
theorem Po {tm:Tm} {d:Option Tmp} {v:V} {t:Nat} (h:d≠some t):(mo tm d v).get t=tm.get t:=by
 cases d with
 | none=>rfl
 | some d=>exact tm.qE v (fun e=>h (by rw [e]))
theorem Pn (tm:Tm) (d:Option Tmp) (v:V):(mo tm d v).n=tm.n:=by
 cases d <;> rfl
theorem lens (hr:j8 P ops sn ac wr):∀ {i j:Nat},i<=j->j<=ops.size->(sn i).hp.length<=(sn j).hp.length:=by
 intro i j h;induction j with
 | zero=>intro _;rw [show i=0 by omega];exact Nat.le_refl _
 | succ j ih=>
  intro hj;by_cases e:i=j+1
  ·rw [e];exact Nat.le_refl _
  ·exact Nat.le_trans (ih (by omega) (by omega)) (hr.parts j _ (Array.getElem?_eq_getElem (show j<ops.size by omega))).1.len
end
section
variable {P:Program} {ops:Array Oper} {sn:Nat->St} {ac wr:Nat->List Nat}
def rC (ops:Array Oper) (sn:Nat->St) (L:Nat->Bool) (t:Nat):V:=lw (my ops t) (fun i=>(sn i).tm.get t) L ops.size
def hc (ops:Array Oper) (sn:Nat->St) (wr:Nat->List Nat) (L:Nat->Bool) (b:Nat):Option (Option bM):=lw (gr sn wr b) (fun i=>(sn i).hp[b]?) L ops.size
structure RI (P:Program) (ops:Array Oper) (sn:Nat->St) (wr:Nat->List Nat) (W:List Nat) (I0:Nat->Prop) (μ0:Mu) (w0:World) (L:Nat->Bool) (a:Act) (w:World) (Im:Nat->Prop) (μ:Mu):Prop where
 tm:∀t,V.R P Im μ w (rC ops sn L t) (a.tmps.getD t undef)
 size:a.tmps.size=(sn 0).tm.n
 defers:a.defers=[]
 holds:∀b blk,hc ops sn wr L b=some (some blk)->Holds P Im μ w b blk
 inj:∀b c blk bG g,b≠c->hc ops sn wr L b=some (some blk)->hc ops sn wr L c=some (some bG)->μ.own b g->μ.own c g->False
 cP:∀b g,μ b=some g->μ0 b=some g\/∃i,L i=true/\i<ops.size/\(sn i).hp.length<=b/\b<(sn (i+1)).hp.length
 dj:∀b,b∉W->b<(sn 0).hp.length->μ.ft b=μ0.ft b
 cJ:cO I0 w0 w (fun k=>∃b∈W,μ0.own b k/\dU (sn 0).hp b)
 le:dE μ0 μ
 er:∀b,((sn 0).hp.length<=b\/b∈W)->∀blk,hc ops sn wr L b=some (some blk)->∀g,μ.own b g->w0.heap.size<=g\/∃c∈W,μ0.own c g/\dU (sn 0).hp c
 dI:Sub I0 Im
 eY:∀k,Im k->I0 k\/w0.heap.size<=k\/∃c∈W,μ0.own c k/\dU (sn 0).hp c
 dB:lS P Im w
theorem Iz (hr:j8 P ops sn ac wr) {b i:Nat} {o:Oper} (ho:ops[i]?=some o) (h:gr sn wr b i=false):(sn (i+1)).hp[b]?=(sn i).hp[b]?:=by
 obtain ⟨ht,_,_⟩:=hr.parts i o ho;simp only [gr,Bool.or_eq_false_iff,Bool.and_eq_false_iff,decide_eq_false_iff_not] at h;rcases Nat.lt_or_ge b (sn i).hp.length with hb | hb
 ·exact ht.frame b hb (by simpa using h.1)
 ·rw [List.getElem?_eq_none hb,List.getElem?_eq_none ag]
theorem P4 (hn:ee P) (hr:j8 P ops sn ac wr) {W:List Nat} {I0 Im:Nat->Prop} {μ0:Mu} {w0:World} {L:Nat->Bool} {a:Act} {w:World} {μ:Mu} {j:Nat} {o:Oper}
  (hW:∀i,i<ops.size->∀b∈wr i,b∈W) (Xi:∀b g,μ0 b=some g->b<(sn 0).hp.length)
  (ho:ops[j]?=some o) (hj:L j=false)
  (h1:∀i oi,i<j->ops[i]?=some oi->L i=false->oi.apart ops o=true/\(∀b∈ac j,gr sn wr b i=false)/\(∀b∈wr j,b∉ac i))
  (h2:∀i oi,j<i->ops[i]?=some oi->L i=true->o.apart ops oi=true/\(∀b∈ac i,gr sn wr b j=false)/\(∀b∈wr i,b∉ac j))
  (I:RI P ops sn wr W I0 μ0 w0 L a w Im μ) {K:Act->World->Prop} {Q:Exit->Act->World->Prop}
  (hK:∀a' w' μ' cZ,RI P ops sn wr W I0 μ0 w0 (gG L j) a' w' cZ μ'->K a' w'):wpOp P ops Q j K a w:=by
 have xB:j<ops.size:=(Array.getElem?_eq_some_iff.1 ho).1
 have Mp:=hr.step j o ho
 obtain ⟨mi,_,vt,jm⟩:=QN Mp
 have aD:∀i,i<ops.size->∃oi,ops[i]?=some oi:=fun i hi=>⟨_,Array.getElem?_eq_getElem hi⟩
 have WG:∀i,i<ops.size->Tidy (sn i).hp (sn (i+1)).hp (ac i) (wr i):=fun i hi=>by
  obtain ⟨oi,fM⟩:=aD i hi
  exact (hr.parts i oi fM).1
 have vk:∀i k,i<=k->k<=ops.size->(sn i).hp.length<=(sn k).hp.length:=fun i k=>lens hr
 have FK:∀t,t∈o.looksAt ops->rC ops sn L t=(sn j).tm.get t:=by
  intro t ht
  unfold rC
  rw [Bg (j:=j) ag (fun i hi dp eJ => ?_)]
  ·refine xV (fun i hi eJ => ?_) (fun i hi eJ => ?_)
   ·cases hL:L i with
    | true=>rfl
    | false=>
     obtain ⟨oi,fM⟩:=aD i ag
     have hd:oi.dst=some t:=by simpa [my,fM] using eJ
     exact absurd ht ((Oper.apart_spec (h1 i oi hi fM hL).1).1 t hd)
   ·obtain ⟨oi,fM⟩:=aD i ag
    obtain ⟨_,_,v,hv⟩:=hr.parts i oi fM
    have hd:oi.dst≠some t:=by simpa [my,fM] using eJ
    show (sn (i+1)).tm.get t=_
    rw [hv,Po hd]
  ·cases hL:L i with
   | false=>rfl
   | true=>
    rcases Nat.lt_or_ge j i with bQ | gb
    ·obtain ⟨oi,fM⟩:=aD i dp
     have hd:oi.dst=some t:=by simpa [my,fM] using eJ
     exact absurd ht ((Oper.apart_spec (h2 i oi bQ fM hL).1).2.2 t hd)
    ·have:i=j:=ag
     rw [this,hj] at hL;cases hL
 have bz:∀b∈ac j,hc ops sn wr L b=(sn j).hp[b]?:=by
  intro b hb
  have bO:=mi.jx b hb
  unfold hc
  rw [Bg (j:=j) ag (fun i hi dp eJ => ?_)]
  ·refine xV (fun i hi eJ => ?_) (fun i hi eJ => ?_)
   ·cases hL:L i with
    | true=>rfl
    | false=>
     obtain ⟨oi,fM⟩:=aD i ag
     rw [(h1 i oi hi fM hL).2.1 b hb] at eJ;cases eJ
   ·obtain ⟨oi,fM⟩:=aD i ag
    exact Iz hr fM eJ
  ·cases hL:L i with
   | false=>rfl
   | true=>
    rcases Nat.lt_or_ge j i with bQ | gb
    ·obtain ⟨oi,fM⟩:=aD i dp
     have hm:=vk j i ag ag
     simp only [gr,Bool.or_eq_true,Bool.and_eq_true,decide_eq_true_eq] at eJ
     rcases eJ with eJ | eJ
     ·exact absurd hb ((h2 i oi bQ fM hL).2.2 b (by simpa using eJ))
     ·omega
    ·have:i=j:=ag
     rw [this,hj] at hL;cases hL
 have YE:∀t,my ops t j=true->rC ops sn (gG L j) t=(sn (j+1)).tm.get t:=by
  intro t ht
  refine M9 xB ht fun i hi dp eJ => ?_
  cases hL:L i with
  | false=>rfl
  | true=>
   obtain ⟨oi,fM⟩:=aD i dp
   have hd:oi.dst=some t:=by simpa [my,fM] using eJ
   have mR:o.dst=some t:=by simpa [my,ho] using ht
   exact absurd hd ((Oper.apart_spec (h2 i oi hi fM hL).1).2.1 t mR)
 have YF:∀t,my ops t j=false->rC ops sn (gG L j) t=rC ops sn L t:=fun t ht=>Gw ht _
 have LU:∀b,gr sn wr b j=false->hc ops sn wr (gG L j) b=hc ops sn wr L b:=fun b hb=>Gw hb _
 have AP:∀b,gr sn wr b j=true->hc ops sn wr (gG L j) b=(sn (j+1)).hp[b]?:=by
  intro b hb
  refine M9 xB hb fun i hi dp eJ => ?_
  cases hL:L i with
  | false=>rfl
  | true=>
   obtain ⟨oi,fM⟩:=aD i dp
   have hm:=vk (j+1) i ag ag
   have xE:=mi.len
   simp only [gr,Bool.or_eq_true,Bool.and_eq_true,decide_eq_true_eq] at eJ
   rcases eJ with eJ | eJ
   ·have ib:b∈ac i:=(WG i dp).lj b (by simpa using eJ)
    rw [(h2 i oi hi fM hL).2.1 b ib] at hb;cases hb
   ·simp only [gr,Bool.or_eq_true,Bool.and_eq_true,decide_eq_true_eq] at hb
    rcases hb with hb | hb
    ·have:=mi.jx b (mi.lj b (by simpa using hb));omega
    ·omega
 have WM:∀b∈ac j,hc ops sn wr (gG L j) b=(sn (j+1)).hp[b]?:=by
  intro b hb
  cases ht:gr sn wr b j with
  | true=>exact AP b ht
  | false=>rw [LU b ht,bz b hb,Iz hr ho ht]
 have pC:∀b,(sn j).hp.length<=b->b<(sn (j+1)).hp.length->hc ops sn wr (gG L j) b=(sn (j+1)).hp[b]?:=fun b hb bT=>AP b (by simp [gr,hb,bT])
 have kh:∀b,(sn j).hp.length<=b->b<(sn (j+1)).hp.length->μ b=none:=by
  intro b hb bT
  cases hm:μ b with
  | none=>rfl
  | some g=>
   rcases I.cP b g hm with h | ⟨i,hL,dp,LZ,aW0⟩
   ·have:=Xi b g h
    have:=vk 0 j ag ag
    omega
   ·exfalso
    rcases Nat.lt_trichotomy i j with bQ | rfl | u9
    ·have:=vk (i+1) j ag ag;omega
    ·rw [hj] at hL;cases hL
    ·have:=vk (j+1) i ag ag;omega
 have Yf:∀x∈o.op.operands,V.R P Im μ w (evalV (sn j).tm x) (a.eval x):=by
  intro x hx
  cases x with
  | tmp t=>
   simp only [evalV,Act.eval]
   rw [<- FK t (by unfold Oper.looksAt;exact List.mem_append.2 (.inl (List.mem_filterMap.2 ⟨.tmp t,by simpa using hx,rfl⟩)))]
   exact I.tm t
  | const v=>exact Jp v
  | global g=>simp [evalV,V.R]
  | func f=>simp [evalV,Act.eval,V.R,V.RL]
 have fin:∀(vv:V) (val:Value) (w':World) (μ':Mu) (cZ:Nat->Prop),(sn (j+1)).tm=mo (sn j).tm o.dst vv->V.R P cZ μ' w' vv val->Good P Im cZ μ μ' w w' (sn j).hp (sn (j+1)).hp (ac j) (wr j) ->
   RI P ops sn wr W I0 μ0 w0 (gG L j) (a.put o.dst val) w' cZ μ':=by
  intro vv val w' μ' cZ YN hR hG
  have XM:∀c v,V.R P Im μ w c v->V.R P cZ μ' w' c v:=fun c v h=>h.keep hG.cJ hG.dI hG.le
  have aW2:(sn 0).hp.length<=(sn j).hp.length:=vk 0 j ag ag
  have xp:∀b,b∈wr j->∃blk,hc ops sn wr L b=some (some blk):=by
   intro b hb
   obtain ⟨blk,h⟩:=mi.lh b hb
   exact ⟨blk,by rw [bz b (mi.lj b hb)];exact h⟩
  have sW:∀b blk,hc ops sn wr (gG L j) b=some (some blk)->((b∈ac j\/(sn j).hp.length<=b)/\b<(sn (j+1)).hp.length/\(sn (j+1)).hp[b]?=some (some blk))\/(b∉ac j/\gr sn wr b j=false/\hc ops sn wr L b=some (some blk)):=by
   intro b blk h
   by_cases hb:b∈ac j
   ·rw [WM b hb] at h;exact .inl ⟨.inl hb,fk h,h⟩
   ·cases ht:gr sn wr b j with
    | true=>
     rw [AP b ht] at h
     simp only [gr,Bool.or_eq_true,Bool.and_eq_true,decide_eq_true_eq] at ht
     rcases ht with ht | ht
     ·exact absurd (mi.lj b (by simpa using ht)) hb
     ·exact .inl ⟨.inr ht.1,ht.2,h⟩
    | false=>rw [LU b ht] at h;exact .inr ⟨hb,rfl,h⟩
  have vz:∀b,gr sn wr b j=false->b∉wr j/\¬((sn j).hp.length<=b/\b<(sn (j+1)).hp.length):=by
   intro b hb
   simp only [gr,Bool.or_eq_false_iff,Bool.and_eq_false_iff,decide_eq_false_iff_not] at hb
   exact ⟨by simpa using hb.1,fun h=>hb.2.elim (fun h1=>h1 h.1) fun h1=>h1 h.2⟩
  have Mc:∀b g,gr sn wr b j=false->μ' b=some g->μ b=some g:=by
   intro b g hb hg
   rcases hG.cP b g hg with h | h
   ·exact h
   ·exact absurd h (vz b hb).2
  have LR:∀b,gr sn wr b j=false->μ'.ft b=μ.ft b:=fun b hb=>hG.dj b (vz b hb).1 (vz b hb).2
  have pz:∀b g,gr sn wr b j=false->μ'.own b g->μ.own b g:=by
   intro b g hb hg
   rcases hg with hg | hg
   ·exact .inl (Mc b g hb hg)
   ·rw [LR b hb] at hg;exact .inr hg
  have Fe:∀c k,c∈wr j->μ.own c k->w0.heap.size<=k\/∃c∈W,μ0.own c k/\dU (sn 0).hp c:=by
   intro c g cr cg
   obtain ⟨b3,nY⟩:=xp c cr
   exact I.er c (.inr (hW j xB c cr)) b3 nY g cg
  refine ⟨fun t => ?_,?_,?_,fun b blk h => ?_,fun b c b1 b2 g bc eO je g1 g2 => ?_,fun b g hg => ?_,fun b hb bO => ?_,?_,I.le.trans hG.le,fun b hb blk h g hg => ?_,fun k h=>hG.dI k (I.dI k h),fun k hk => ?_,I.dB.step hG.cJ hG.dI fun k hk => ?_⟩
  ·cases ht:my ops t j with
   | false=>
    rw [YF t ht]
    have hd:o.dst≠some t:=by simpa [my,ho] using ht
    have e:(a.put o.dst val).tmps.getD t undef=a.tmps.getD t undef:=by
     cases FQ:o.dst with
     | none=>rfl
     | some d=>
      have Xm:d≠t:=fun e=>hd (by rw [FQ,e])
      simp [Act.put,Array.getElem?_setIfInBounds,Xm]
    rw [e]
    exact XM _ _ (I.tm t)
   | true=>
    rw [YE t ht,YN]
    have hd:o.dst=some t:=by simpa [my,ho] using ht
    have hlen:(sn j).tm.n=(sn 0).tm.n:=by
     have:∀i,i<=ops.size->(sn i).tm.n=(sn 0).tm.n:=by
      intro i
      induction i with
      | zero=>intro _;rfl
      | succ i ih=>
       intro hi
       obtain ⟨oi,fM⟩:=aD i ag
       obtain ⟨_,_,v,hv⟩:=hr.parts i oi fM
       rw [hv,Pn,ih ag]
     exact this j ag
    rw [hd]
    simp only [mo,Act.put]
    rcases (sn j).tm.get_eq t vv with ⟨e,om⟩ | e
    ·have:t<a.tmps.size:=by rw [I.size];omega
     rw [e]
     simp [this]
     exact hR
    ·rw [e]
     simp [V.R]
  ·cases FQ:o.dst <;> simp [Act.put,I.size]
  ·cases FQ:o.dst <;> simp [Act.put,I.defers]
  ·rcases sW b blk h with ⟨hb,_,h'⟩ | ⟨hb,jH,h'⟩
   ·exact hG.holds b hb blk h'
   ·refine (I.holds b blk h').keep hG.cJ hG.dI hG.le (fun h0 => ?_) (LR b jH) (fun g hg hx => ?_) (fun g hg hi => ?_)
    ·cases hm:μ' b with
     | none=>rfl
     | some g=>rw [Mc b g jH hm] at h0;cases h0
    ·obtain ⟨c,cr,cg⟩:=hx
     obtain ⟨bG,cW⟩:=xp c cr
     exact I.inj b c _ _ g (by rintro rfl;exact hb (mi.lj _ cr)) h' cW hg cg
    ·rcases hG.eY g hi with h | ⟨h,_⟩ | ⟨c,cr,cg,_⟩
     ·exact (I.holds b blk h').kV hg h
     ·have:=(I.holds b blk h').lt hg;omega
     ·obtain ⟨bG,cW⟩:=xp c cr
      exact I.inj b c _ _ g (by rintro rfl;exact hb (mi.lj _ cr)) h' cW hg cg
  ·have other:∀b c b1 b2,b≠c->b∉ac j->gr sn wr b j=false->hc ops sn wr L b=some (some b1)->(c∈ac j\/(sn j).hp.length<=c)->c<(sn (j+1)).hp.length->(sn (j+1)).hp[c]?=some (some b2)->μ'.own b g->μ'.own c g->False:=by
    intro b c b1 b2 bc hb jH eO eC cd jf g1 g2
    have g1':=pz b g jH g1
    have n9:=(I.holds b b1 eO).lt g1'
    by_cases cr:(sn j).hp.length<=c\/c∈wr j
    ·rcases hG.er c cr b2 jf g g2 with h | ⟨d,od,mT,_⟩
     ·omega
     ·obtain ⟨b3,nY⟩:=xp d od
      exact I.inj b d _ _ g (by rintro rfl;exact hb (mi.lj _ od)) eO nY g1' mT
    ·simp only [not_or,Nat.not_le] at cr
     have b6:c∈ac j:=by rcases eC with h | h;exact h;omega
     have g2':μ.own c g:=by
      rcases g2 with g2 | g2
      ·rcases hG.cP c g g2 with h | ⟨h,_⟩
       ·exact .inl h
       ·omega
      ·rw [hG.dj c cr.2 ag] at g2;exact .inr g2
     have nY:hc ops sn wr L c=some (some b2):=by
      rw [bz c b6,<- mi.frame c cr.1 cr.2];exact jf
     exact I.inj b c _ _ g bc eO nY g1' g2'
   rcases sW b b1 eO with ⟨hb,bO,bT⟩ | ⟨hb,jH,bT⟩
   ·rcases sW c b2 je with ⟨l9,cd,jf⟩ | ⟨l9,Gc,jf⟩
    ·exact hG.inj b c b1 b2 g bc hb l9 bT jf g1 g2
    ·exact other c b b2 b1 (Ne.symm bc) l9 Gc jf hb bO bT g2 g1
   ·rcases sW c b2 je with ⟨l9,cd,jf⟩ | ⟨l9,Gc,jf⟩
    ·exact other b c b1 b2 bc hb jH bT l9 cd jf g1 g2
    ·exact I.inj b c b1 b2 g bc bT jf (pz b g jH g1) (pz c g Gc g2)
  ·rcases hG.cP b g hg with h | ⟨h3,h4⟩
   ·rcases I.cP b g h with h | ⟨i,hL,hi⟩
    ·exact .inl h
    ·exact .inr ⟨i,by simp [gG,hL],hi⟩
   ·exact .inr ⟨j,by simp [gG],xB,h3,h4⟩
  ·rw [hG.dj b (fun h=>hb (hW j xB b h)) ag];exact I.dj b hb bO
  ·refine I.cJ.trans hG.cJ I.dI fun k hk hx => ?_
   obtain ⟨c,cr,cg⟩:=hx
   rcases Fe c k cr cg with h | ⟨d,Xd,mT⟩
   ·omega
   ·exact ⟨d,Xd,mT⟩
  ·-- where it aV7 from
   rcases sW b blk h with ⟨eO,bO,h'⟩ | ⟨eO,jH,h'⟩
   ·by_cases fy:(sn j).hp.length<=b\/b∈wr j
    ·rcases hG.er b fy blk h' g hg with h | ⟨c,cr,cg,_⟩
     ·exact .inl (Nat.le_trans I.cJ.size h)
     ·exact Fe c g cr cg
    ·-- an bJ block Iy it only looked at
     simp only [not_or,Nat.not_le] at fy
     have WZ:b∈ac j:=by rcases eO with h | h;exact h;omega
     have nY:hc ops sn wr L b=some (some blk):=by
      rw [bz b WZ,<- mi.frame b fy.1 fy.2];exact h'
     have FD:μ.own b g:=by
      rcases hg with hg | hg
      ·rcases hG.cP b g hg with h | ⟨h,_⟩
       ·exact .inl h
       ·omega
      ·rw [hG.dj b fy.2 ag] at hg;exact .inr hg
     exact I.er b hb blk nY g FD
   ·exact I.er b hb blk h' g (pz b g jH hg)
  ·rcases hG.eY k hk with h | ⟨h,_⟩ | ⟨c,cr,cg,_⟩
   ·rcases I.eY k h with h | h | h
    ·exact .inl h
    ·exact .inr (.inl h)
    ·exact .inr (.inr h)
   ·exact .inr (.inl (Nat.le_trans I.cJ.size h))
   ·exact .inr (Fe c k cr cg)
  ·rcases hG.eY k hk with h | ⟨_,h⟩ | ⟨c,cr,cg,_⟩
   ·exact Nat.lt_of_lt_of_le (I.dB k h) hG.cJ.size
   ·exact h
   ·obtain ⟨b3,nY⟩:=xp c cr
    exact Nat.lt_of_lt_of_le ((I.holds c b3 nY).lt cg) hG.cJ.size
 unfold wpOp
 rw [ho]
 simp only
 have My:∀bb,wantedV ops (sn j).tm o=some bb->Region.wanted o (yielded ops a.tmps)=bb:=by
  intro bb lz
  unfold wantedV at lz
  unfold Region.wanted
  split at lz
  ·rename_i hg;cases lz;rw [hg]
  ·rename_i k want hg
   rw [hg]
   simp only
   split at lz
   case h_2=>cases lz
   case h_1 d hd=>
   split at lz
   case h_3=>cases lz
   case h_2 vs oa=>
    cases lz
    have FJ:=FK d (by unfold Oper.looksAt;rw [hg];exact List.mem_append.2 (.inr (by simp [hd])))
    have hR:=I.tm d
    rw [FJ,oa] at hR
    simp only [V.R] at hR
    have hy:yielded ops a.tmps k=none:=by
     unfold yielded
     rw [hd]
     simp only [Option.bind_some]
     by_cases ma:d<a.tmps.size
     ·simp [Array.getD_eq_getD_getElem?,ma] at hR
      simp [ma,hR]
     ·simp [ma]
    rw [hy]
    rfl
   case h_1 bv oa=>
   cases lz
   have FJ:=FK d (by unfold Oper.looksAt;rw [hg];exact List.mem_append.2 (.inr (by simp [hd])))
   have hR:=I.tm d
   rw [FJ,oa] at hR
   simp only [V.R] at hR
   have hy:yielded ops a.tmps k=some bv:=by
    unfold yielded
    rw [hd]
    simp only [Option.bind_some]
    by_cases ma:d<a.tmps.size
    ·simp [Array.getD_eq_getD_getElem?,ma] at hR
     simp [ma,hR]
    ·simp [Array.getD_eq_getD_getElem?,ma,undef] at hR
   rw [hy]
   cases bv <;> cases want <;> rfl
 rcases Mp with ⟨A8,out,Yg,e1,e2,e3⟩ | ⟨YP,e1,e2,e3⟩
 ·rw [My true A8]
  simp only [if_true]
  have Af:(sn (j+1)).hp=out.hp:=by rw [e1]
  have D8:(sn (j+1)).tm=mo (sn j).tm o.dst out.v:=by rw [e1]
  left
  refine Yg.wp rfl Yf ⟨I.dB,fun b hb blk h => ?_,fun b hb c cW b1 b2 g bc eO je g1 g2 => ?_,fun b hb bT=>kh b hb (by rw [Af];exact bT)⟩ fun val w' μ' cZ hR hG=>hK _ _ μ' cZ (fin out.v val w' μ' cZ D8 hR (by rw [Af,e2,e3];exact hG))
  ·rw [<- e2] at hb
   exact I.holds b blk (by rw [bz b hb];exact h)
  ·rw [<- e2] at hb cW
   exact I.inj b c b1 b2 g bc (by rw [bz b hb];exact eO) (by rw [bz c cW];exact je) g1 g2
 ·rw [My false YP]
  simp only [Bool.false_eq_true,if_false]
  have Af:(sn (j+1)).hp=(sn j).hp:=by rw [e1]
  have D8:(sn (j+1)).tm=mo (sn j).tm o.dst (.lit undef):=by rw [e1]
  refine hK _ _ μ Im (fin (.lit undef) undef w μ Im D8 (by simp [V.R]) ?_)
  rw [Af,e2,e3]
  exact Good.same _ ⟨I.dB,by simp,by simp,fun b hb bT=>ag⟩
end
structure Entry (P:Program) (aW:Hp) (I0:Nat->Prop) (μ0:Mu) (w0:World):Prop where
 holds:∀b blk,aW[b]?=some (some blk)->Holds P I0 μ0 w0 b blk
 inj:∀b c blk bG g,b≠c->aW[b]?=some (some blk)->aW[c]?=some (some bG)->μ0.own b g->μ0.own c g->False
 cP:∀b g,μ0 b=some g->b<aW.length
structure CI (P:Program) (aW:Hp) (I0:Nat->Prop) (μ0:Mu) (w0:World) (s:St) (a:Act) (w:World) (Im:Nat->Prop) (μ:Mu):Prop where
 tm:∀t,V.R P Im μ w (s.tm.get t) (a.tmps.getD t undef)
 size:a.tmps.size=s.tm.n
 defers:a.defers=[]
 holds:∀b blk,s.hp[b]?=some (some blk)->Holds P Im μ w b blk
 inj:∀b c blk bG g,b≠c->s.hp[b]?=some (some blk)->s.hp[c]?=some (some bG)->μ.own b g->μ.own c g->False
 cP:∀b g,μ b=some g->b<s.hp.length
 mI:∀b g,μ b=some g->b<aW.length->μ0 b=some g
 dj:∀b,b<aW.length->b∉s.wr->μ.ft b=μ0.ft b
 cJ:cO I0 w0 w (fun k=>∃b∈s.wr,b<aW.length/\μ0.own b k)
 le:dE μ0 μ
 er:∀b,(aW.length<=b\/b∈s.wr)->∀blk,s.hp[b]?=some (some blk)->∀g,μ.own b g->w0.heap.size<=g\/∃c∈s.wr,c<aW.length/\μ0.own c g/\dU aW c
 len:aW.length<=s.hp.length
 frame:∀b,b<aW.length->b∉s.wr->s.hp[b]?=aW[b]?
 alive:∀b,b<aW.length->dU s.hp b->dU aW b
 wA:∀b∈s.wr,b<aW.length->dU aW b
 dI:Sub I0 Im
 eY:∀k,Im k->I0 k\/w0.heap.size<=k\/∃c∈s.wr,c<aW.length/\μ0.own c k/\dU aW c
 dB:lS P Im w
 oT:Entry P aW I0 μ0 w0
section
variable {P:Program} {ops:Array Oper} {sn:Nat->St} {ac wr:Nat->List Nat}
theorem Hx (hr:j8 P ops sn ac wr) {c:Nat} (kg:c<(sn 0).hp.length):∀i,i<=ops.size->dU (sn i).hp c->dU (sn 0).hp c:=by
 intro i;induction i with
 | zero=>intro _ h;exact h
 | succ i ih=>
  intro hi ⟨blk,dX⟩;have ht:=(hr.parts i _ (Array.getElem?_eq_getElem (show i<ops.size by omega))).1;refine ih (by omega) ?_;by_cases hw:c∈wr i
  ·exact ht.lh c hw
  ·rw [ht.frame c (by have:=lens hr (show 0<=i by omega) (by omega);omega) hw] at dX;exact ⟨_,dX⟩
theorem Qf (hr:j8 P ops sn ac wr) {c:Nat} (kg:c<(sn 0).hp.length) (hn:∀i,i<ops.size->c∉wr i):∀i,i<=ops.size->(sn i).hp[c]?=(sn 0).hp[c]?:=by
 intro i;induction i with
 | zero=>intro _;rfl
 | succ i ih=>
  intro hi;have ht:=(hr.parts i _ (Array.getElem?_eq_getElem (show i<ops.size by omega))).1;rw [ht.frame c (by have:=lens hr (show 0<=i by omega) (by omega);omega) (hn i (by omega)),ih (by omega)]
theorem aI6 (hr:j8 P ops sn ac wr):∀i,i<=ops.size->(sn i).tm.n=(sn 0).tm.n:=by
 intro i;induction i with
 | zero=>intro _;rfl
 | succ i ih=>
  intro hi;obtain ⟨_,_,v,hv⟩:=hr.parts i _ (Array.getElem?_eq_getElem (show i<ops.size by omega));rw [hv,Pn,ih (by omega)]
theorem W6 (hr:j8 P ops sn ac wr) {L:Nat->Bool} (hL:∀i,i<ops.size->L i=true) (b:Nat):hc ops sn wr L b=(sn ops.size).hp[b]?:=
 xV (fun i hi _=>hL i hi) fun i hi h=>Iz hr (Array.getElem?_eq_getElem hi) h
theorem aS0 (hr:j8 P ops sn ac wr) {L:Nat->Bool} (hL:∀i,i<ops.size->L i=true) (t:Nat):rC ops sn L t=(sn ops.size).tm.get t:=
 xV (fun i hi _=>hL i hi) fun i hi h=>by
  obtain ⟨_,_,v,hv⟩:=hr.parts i _ (Array.getElem?_eq_getElem hi);have hd:ops[i].dst≠some t:=by simpa [my,hi] using h
  show (sn (i+1)).tm.get t=_;rw [hv,Po hd]
theorem Gx {α:Type} {gq:Nat->Bool} {can:Nat->α} {L:Nat->Bool} (hL:∀i,L i=false):∀n,lw gq can L n=can 0
 | 0=>rfl
 | n+1=>by unfold lw;simp [hL n,Gx hL n]
theorem P3 {aW:Hp} {I0 Im:Nat->Prop} {μ0 μ:Mu} {w0 w:World} {a:Act} {W:List Nat} {L:Nat->Bool} (hL:∀i,L i=false) (C:CI P aW I0 μ0 w0 (sn 0) a w Im μ) (w1:World) (hw:w1=w\/w1=w.drew):RI P ops sn wr W Im μ w L a w1 Im μ:=by
 have hh:∀b,hc ops sn wr L b=(sn 0).hp[b]?:=fun b=>Gx hL _;have ht:∀t,rC ops sn L t=(sn 0).tm.get t:=fun t=>Gx hL _;have hE:cO Im w w1 (fun k=>∃b∈W,μ.own b k/\dU (sn 0).hp b):=by
  rcases hw with rfl | rfl
  ·exact .refl _ _
  ·exact .drew _ _
 refine ⟨fun t=>by rw [ht];exact (C.tm t).keep hE (.refl _) (.refl _),C.size,C.defers,fun b blk h=>by
   rw [hh] at h;rcases hw with rfl | rfl
   ·exact C.holds b blk h
   ·exact (C.holds b blk h).keep (.drew w (fun _=>False)) (.refl _) (.refl _) (fun h=>h) rfl (fun _ _ h=>h) (fun g hg=>(C.holds b blk h).kV hg),fun b c b1 b2 g bc h1 h2=>C.inj b c b1 b2 g bc (by rw [<- hh];exact h1) (by rw [<- hh];exact h2),
  fun b g h=> .inl h,fun _ _ _=>rfl,hE,.refl _,fun b hb blk h g hg => ?_,.refl _,fun k h=> .inl h,C.dB.step hE (fun _ h=>h) fun k h=>Nat.lt_of_lt_of_le (C.dB k h) hE.size⟩
 rw [hh] at h;rcases hb with hb | hb
 ·rw [List.getElem?_eq_none hb] at h;cases h
 ·exact .inr ⟨b,hb,hg,⟨_,h⟩⟩
theorem JS (hr:j8 P ops sn ac wr) {aW:Hp} {I0 Im cZ:Nat->Prop} {μ0 μ μ':Mu} {w0 w w':World} {a a':Act} {W:List Nat} {L:Nat->Bool} (hL:∀i,i<ops.size->L i=true)
  (hW:∀b,b∈W↔∃i,i<ops.size/\b∈wr i) (jC:∀b,b∈(sn ops.size).wr↔b∈(sn 0).wr\/b∈W)
  (C:CI P aW I0 μ0 w0 (sn 0) a w Im μ) (I:RI P ops sn wr W Im μ w L a' w' cZ μ'):CI P aW I0 μ0 w0 (sn ops.size) a' w' cZ μ':=by
 have hh:=W6 hr hL
 have ht:=aS0 hr hL
 have hl:=lens hr (Nat.zero_le ops.size) (Nat.le_refl _)
 have kM:=fun c kg=>Hx hr (c:=c) kg ops.size (Nat.le_refl _)
 have eg:∀b,b<(sn 0).hp.length->b∉W->(sn ops.size).hp[b]?=(sn 0).hp[b]?:=fun b hb hn=>Qf hr hb (fun i hi h=>hn ((hW b).2 ⟨i,hi,h⟩)) ops.size (Nat.le_refl _)
 have Mj:∀b g,b<(sn 0).hp.length->μ' b=some g->μ b=some g:=by
  intro b g hb hg
  rcases I.cP b g hg with h | ⟨i,_,hi,h3,_⟩
  ·exact h
  ·have:=lens hr (Nat.zero_le i) (by omega);omega
 have Ye:∀b g,b<(sn 0).hp.length->b∉W->μ'.own b g->μ.own b g:=by
  intro b g hb hn hg
  rcases hg with hg | hg
  ·exact .inl (Mj b g hb hg)
  ·rw [I.dj b hn hb] at hg;exact .inr hg
 have WJ:∀b,b∈W->b<(sn 0).hp.length->dU (sn 0).hp b:=by
  intro b hb bQ
  obtain ⟨i,hi,ib⟩:=(hW b).1 hb
  have mh:=(hr.parts i _ (Array.getElem?_eq_getElem hi)).1
  exact Hx hr bQ i (by omega) (mh.lh b ib)
 have bJ:∀c g,c∈W->μ.own c g->dU (sn 0).hp c->w0.heap.size<=g\/∃c∈(sn ops.size).wr,c<aW.length/\μ0.own c g/\dU aW c:=by
  intro c g sJ cg b6
  obtain ⟨blk,dX⟩:=b6
  by_cases kg:aW.length<=c\/c∈(sn 0).wr
  ·rcases C.er c kg blk dX g cg with h | ⟨d,hd,xw,mT,mS⟩
   ·exact .inl h
   ·exact .inr ⟨d,(jC d).2 (.inl hd),xw,mT,mS⟩
  ·have cd:c<aW.length:=by
    rcases Nat.lt_or_ge c aW.length with h | h
    ·exact h
    ·exact absurd (.inl h) kg
   have cr:c∉(sn 0).wr:=fun h=>kg (.inr h)
   refine .inr ⟨c,(jC c).2 (.inr sJ),cd,?_,C.alive c cd ⟨_,dX⟩⟩
   rcases cg with cg | cg
   ·exact .inl (C.mI c g cg cd)
   ·rw [C.dj c cd cr] at cg;exact .inr cg
 refine ⟨fun t=>by rw [<- ht];exact I.tm t,by rw [I.size,aI6 hr _ (Nat.le_refl _)],I.defers,fun b blk h=>I.holds b blk (by rw [hh];exact h),fun b c b1 b2 g bc h1 h2=>I.inj b c b1 b2 g bc (by rw [hh];exact h1) (by rw [hh];exact h2),
  fun b g h => ?_,fun b g h hb=>C.mI b g (Mj b g (by have:=C.len;omega) h) hb,fun b hb hn => ?_,?_,C.le.trans I.le,fun b hb blk h g hg => ?_,Nat.le_trans C.len hl,fun b hb hn => ?_,fun b hb h=>C.alive b hb (kM b (by have:=C.len;omega) h),fun b hb fg => ?_,fun k h=>I.dI k (C.dI k h),fun k hk => ?_,I.dB,C.oT⟩
 ·rcases I.cP b g h with h | ⟨i,_,hi,_,h4⟩
  ·have:=C.cP b g h;omega
  ·have:=lens hr (show i+1<=ops.size by omega) (Nat.le_refl _);omega
 ·rw [I.dj b (fun h=>hn ((jC b).2 (.inr h))) (by have:=C.len;omega),C.dj b hb (fun h=>hn ((jC b).2 (.inl h)))]
 ·refine (C.cJ.mono (fun k hk=>by obtain ⟨b,hb,hg⟩:=hk;exact ⟨b,(jC b).2 (.inl hb),hg⟩)).trans I.cJ C.dI fun k hk hx => ?_
  obtain ⟨b,hb,hg,dX⟩:=hx
  rcases bJ b k hb hg dX with h | ⟨c,hc,kg,cg,_⟩
  ·omega
  ·exact ⟨c,hc,kg,cg⟩
 ·rcases Nat.lt_or_ge b (sn 0).hp.length with fg | fg
  ·by_cases AK:b∈W
   ·rcases I.er b (.inr AK) blk (by rw [hh];exact h) g hg with h | ⟨c,sJ,cg,b6⟩
    ·exact .inl (Nat.le_trans C.cJ.size h)
    ·exact bJ c g sJ cg b6
   ·have FD:=Ye b g fg AK hg
    rw [eg b fg AK] at h
    rcases C.er b (hb.elim .inl fun h=>((jC b).1 h).elim .inr fun h=>absurd h AK) blk h g FD with h | ⟨d,hd,xw,mT,mS⟩
    ·exact .inl h
    ·exact .inr ⟨d,(jC d).2 (.inl hd),xw,mT,mS⟩
  ·rcases I.er b (.inl fg) blk (by rw [hh];exact h) g hg with h | ⟨c,sJ,cg,b6⟩
   ·exact .inl (Nat.le_trans C.cJ.size h)
   ·exact bJ c g sJ cg b6
 ·rw [eg b (by have:=C.len;omega) (fun h=>hn ((jC b).2 (.inr h)))]
  exact C.frame b hb (fun h=>hn ((jC b).2 (.inl h)))
 ·rcases (jC b).1 hb with h | h
  ·exact C.wA b h fg
  ·exact C.alive b fg (WJ b h (by have:=C.len;omega))
 ·rcases I.eY k hk with h | h | ⟨c,sJ,cg,b6⟩
  ·rcases C.eY k h with h | h | ⟨d,hd,xw,mT,mS⟩
   ·exact .inl h
   ·exact .inr (.inl h)
   ·exact .inr (.inr ⟨d,(jC d).2 (.inl hd),xw,mT,mS⟩)
  ·exact .inr (.inl (Nat.le_trans C.cJ.size h))
  ·rcases bJ c k sJ cg b6 with h | h
   ·exact .inr (.inl h)
   ·exact .inr (.inr h)
theorem PI (hn:ee P) (hr:j8 P ops sn ac wr) {W:List Nat} {I0:Nat->Prop} {μ:Mu} {w:World} (hW:∀i,i<ops.size->∀b∈wr i,b∈W) (dN:∀b g,μ b=some g->b<(sn 0).hp.length)
  {Q:Exit->Act->World->Prop} (hQ:∀L a' w' μ' cZ,(∀i,i<ops.size->L i=true)->RI P ops sn wr W I0 μ w L a' w' cZ μ'->Q .normal a' w'):
  ∀(m k:Nat),k+m=ops.size->∀a w1 μ1 rI,RI P ops sn wr W I0 μ w (fun i=>decide (i<k)) a w1 rI μ1->wpOps P ops Q (List.range' k m) a w1
 | 0,k,hk,a,w1,μ1,rI,I=>by
  simp only [List.range'_zero,wpOps]
  exact hQ _ _ _ _ _ (fun i hi=>by simp;omega) I
 | m+1,k,hk,a,w1,μ1,rI,I=>by
  rw [List.range'_succ,wpOps_cons]
  refine P4 hn hr hW dN (Array.getElem?_eq_getElem (show k<ops.size by omega)) (by simp) (fun i oi hi _ hL=>by simp at hL;omega) (fun i oi hi _ hL=>by simp at hL;omega) I fun a' w' μ' cZ I' => ?_
  have e:gG (fun i=>decide (i<k)) k=fun i=>decide (i<k+1):=by
   funext i
   rw [Bool.eq_iff_iff]
   simp [gG]
   omega
  rw [e] at I'
  exact PI hn hr hW dN hQ m (k+1) (by omega) a' w' μ' cZ I'
structure Jf (ops:Array Oper) (sn:Nat->St) (ac wr:Nat->List Nat) (i j:Nat):Prop where
 apart:∀oi oj,ops[i]?=some oi->ops[j]?=some oj->oi.apart ops oj=true
 read:∀b∈ac j,gr sn wr b i=false
 write:∀b∈wr j,b∉ac i
inductive oK (ops:Array Oper) (i:Nat):Nat->Prop where
 | one {j:Nat} {o:Oper} {e:Edge} (ho:ops[j]?=some o) (he:e∈o.after) (hb:Region.binds .any e=true) (h:e.on=i):oK ops i j
 | more {j:Nat} {o:Oper} {e:Edge} (ho:ops[j]?=some o) (he:e∈o.after) (hb:Region.binds .any e=true) (h:oK ops i e.on):oK ops i j
def CH (ops:Array Oper) (L:Nat->Bool):Prop:=∀j o e,L j=true->ops[j]?=some o->e∈o.after->Region.binds .any e=true->L e.on=true
theorem oK.closed {L:Nat->Bool} (hL:CH ops L) {i j:Nat} (h:oK ops i j) (hj:L j=true):L i=true:=by
 induction h with
 | one ho he hb h=>rw [<- h];exact hL _ _ _ hj ho he hb
 | more ho he hb _ ih=>exact ih (hL _ _ _ hj ho he hb)
def iN (ei:Array Bool):Nat->Bool:=fun i=>ei.getD i false
theorem aE0 (hn:ee P) (hr:j8 P ops sn ac wr) {W:List Nat} {I0:Nat->Prop} {μ:Mu} {w:World} (hW:∀i,i<ops.size->∀b∈wr i,b∈W) (dN:∀b g,μ b=some g->b<(sn 0).hp.length)
  (uY:∀j o e,ops[j]?=some o->e∈o.after->Region.binds .any e=true->e.on<j)
  (AO:∀i j,i<j->j<ops.size->oK ops i j\/Jf ops sn ac wr i j)
  {Q:Exit->Act->World->Prop} (hQ:∀L a' w' μ' cZ,(∀i,i<ops.size->L i=true)->RI P ops sn wr W I0 μ w L a' w' cZ μ'->Q .normal a' w'):
  ∀(fuel:Nat) (ei:Array Bool),ei.size=ops.size->ei.toList.countP (· == false)<=fuel->CH ops (iN ei)->∀a w1 μ1 rI,RI P ops sn wr W I0 μ w (iN ei) a w1 rI μ1->wpAny P .any ops Q fuel ei a w1:=by
 have done:∀ei:Array Bool,ei.size=ops.size->Region.ready .any ops ei=[]->∀i,i<ops.size->iN ei i=true:=by
  intro ei hs FY i
  induction i using Nat.strongRecOn with
  | _ i ih=>
   intro hi
   cases hl:iN ei i with
   | true=>rfl
   | false=>
    exfalso
    have hm:i∈Region.ready .any ops ei:=by
     unfold Region.ready
     rw [List.mem_filter]
     refine ⟨by simpa using hi,?_⟩
     have XT:ei.getD i true=false:=by
      simp only [iN,Array.getD_eq_getD_getElem?] at hl ⊢
      rw [Array.getElem?_eq_getElem ag] at hl ⊢
      simpa using hl
     rw [XT,Array.getElem?_eq_getElem hi]
     simp only [Bool.not_false,Bool.true_and,Option.map_some,Option.getD_some]
     rw [Array.all_eq_true_iff_forall_mem]
     intro e he
     cases hb:Region.binds .any e with
     | false=>rfl
     | true=>
      have bQ:=uY i _ e (Array.getElem?_eq_getElem hi) he hb
      have:=ih e.on bQ ag
      simpa [iN] using this
    rw [FY] at hm
    simp at hm
 have step:∀(ei:Array Bool),ei.size=ops.size->CH ops (iN ei)->∀i,i∈Region.ready .any ops ei->i<ops.size/\iN ei i=false/\(∀e,e∈(ops[i]?).elim #[] (·.after)->Region.binds .any e=true->iN ei e.on=true):=by
  intro ei hs cd i hi
  unfold Region.ready at hi
  rw [List.mem_filter] at hi
  obtain ⟨h1,h2⟩:=hi
  have h1:i<ops.size:=by simpa using h1
  rw [Bool.and_eq_true] at h2
  obtain ⟨h2,h3⟩:=h2
  refine ⟨h1,?_,fun e he hb => ?_⟩
  ·simp only [iN,Array.getD_eq_getD_getElem?] at h2 ⊢
   rw [Array.getElem?_eq_getElem ag] at h2 ⊢
   simpa using h2
  ·rw [Array.getElem?_eq_getElem h1] at h3 he
   simp only [Option.map_some,Option.getD_some,Option.elim_some] at h3 he
   have:=(Array.all_eq_true_iff_forall_mem.1 h3) e he
   simpa [hb,iN] using this
 intro fuel
 induction fuel with
 | zero=>
  intro ei hs hf cd a w1 μ1 rI I
  have kM:∀i,i<ops.size->iN ei i=true:=by
   intro i hi
   have hz:ei.toList.countP (· == false)=0:=ag
   have hm:ei[i]' ag∈ei.toList:=by simp
   have:=List.countP_eq_zero.1 hz _ hm
   simp only [iN,Array.getD_eq_getD_getElem?]
   rw [Array.getElem?_eq_getElem ag]
   simpa using this
  refine ⟨?_,hQ _ _ _ _ _ kM I⟩
  rw [List.eq_nil_iff_forall_not_mem]
  intro i hi
  obtain ⟨h1,h2,_⟩:=step ei hs cd i hi
  rw [kM i h1] at h2;cases h2
 | succ fuel ih=>
  intro ei hs hf cd a w1 μ1 rI I
  refine ⟨fun FY=>hQ _ _ _ _ _ (done ei hs FY) I,fun i hi => ?_⟩
  obtain ⟨h1,h2,h3⟩:=step ei hs cd i hi
  refine P4 hn hr hW dN (Array.getElem?_eq_getElem h1) h2 (fun k ok hk eW hL => ?_) (fun k ok hk eW hL => ?_) I fun a' w' μ' cZ I' => ?_
  ·rcases AO k i hk h1 with h | h
   ·exfalso
    cases h with
    | one ho he hb h=>
     have:=h3 _ (by rw [ho];exact he) hb
     rw [h,hL] at this;cases this
    | more ho he hb h=>
     have:=h.closed cd (h3 _ (by rw [ho];exact he) hb)
     rw [hL] at this;cases this
   ·exact ⟨h.apart _ _ eW (Array.getElem?_eq_getElem h1),h.read,h.write⟩
  ·have XQ:k<ops.size:=(Array.getElem?_eq_some_iff.1 eW).1
   rcases AO i k hk XQ with h | h
   ·have:=h.closed cd hL
    rw [h2] at this;cases this
   ·exact ⟨h.apart _ _ (Array.getElem?_eq_getElem h1) eW,h.read,h.write⟩
  ·have e:iN (ei.setIfInBounds i true)=gG (iN ei) i:=by
    funext k
    simp only [iN,gG,Array.getD_eq_getD_getElem?,Array.getElem?_setIfInBounds]
    by_cases xz:i=k
    ·subst xz;simp [hs,h1]
    ·have:¬k=i:=fun e=>xz e.symm
     simp [xz,this]
   refine ih _ (by simp [hs]) ?_ ?_ a' w' μ' cZ (by rw [e];exact I')
   ·rw [Array.toList_setIfInBounds,List.countP_set (h:=by simpa [hs] using h1)]
    have jX:ei.toList[i]'(by simpa [hs] using h1)=false:=by
     simp only [iN,Array.getD_eq_getD_getElem?] at h2
     rw [Array.getElem?_eq_getElem ag] at h2
     simpa using h2
    rw [jX]
    simp only [show (false==false)=true from rfl,show (true==false)=false from rfl,if_true,Bool.false_eq_true,if_false]
    omega
   ·rw [e]
    intro k o ed hk ho he hb
    simp only [gG,Bool.or_eq_true,beq_iff_eq] at hk ⊢
    rcases hk with rfl | hk
    ·exact .inr (h3 ed (by rw [ho];exact he) hb)
    ·exact .inr (cd k o ed hk ho he hb)
end
abbrev Rec:=St×List Nat×List Nat
inductive nD (P:Program) (ops:Array Oper):List Oper->St->List Rec->St->Prop where
 | nil (s:St):nD P ops [] s [] s
 | cons {o:Oper} {rest:List Oper} {s s' s2:St} {acc wr:List Nat} {l:List Rec} (h:qb P ops s o s' acc wr) (t:nD P ops rest s' l s2):nD P ops (o::rest) s ((s,acc,wr)::l) s2
def snOf (l:List Rec) (s2:St) (i:Nat):St:=match l[i]? with
 | some r=>r.1
 | none=>s2
def rM (l:List Rec) (i:Nat):List Nat:=match l[i]? with
 | some r=>r.2.1
 | none=>[]
def mB (l:List Rec) (i:Nat):List Nat:=match l[i]? with
 | some r=>r.2.2
 | none=>[]
def maskOf (acc:List Nat):List Edge->Nat
 | []=>0
 | e::es=>if Region.binds .any e then (2 ^ e.on ||| acc.getD e.on 0) ||| maskOf acc es else maskOf acc es
def befL:List Oper->List Nat->List Nat
 | [],acc=>acc
 | o::os,acc=>befL os (acc++[maskOf acc o.after.toList])
def freeB (ops:Array Oper) (l:List Rec) (s2:St) (i j:Nat):Bool:=
 (match ops[i]?,ops[j]? with
  | some oi,some oj=>oi.apart ops oj
  | _,_=>false) &&
 (rM l j).all (fun b=> !gr (snOf l s2) (mB l) b i)&&(mB l j).all fun b=> !(rM l i).contains b
def uq (ops:Array Oper) (l:List Rec) (s2:St):Bool:=
 let ms:=befL ops.toList []
 (ops.toList.zipIdx.all fun x=>x.1.after.toList.all fun e=> !Region.binds .any e||decide (e.on<x.2)) &&
 (List.range ops.size).all fun j=>(List.range j).all fun i=>(ms.getD j 0).testBit i||freeB ops l s2 i j
def evResult (P:Program) (hp:Hp) (tm:Tm):ResultVar->Option V
 | .tmp t=>some (tm.get t)
 | .cell a t=>(evLoad P hp t (tm.get a)).map (·.v)
def evResultL (P:Program) (hp:Hp) (tm:Tm):List ResultVar->Option (List V)
 | []=>some []
 | r::rs=>match evResult P hp tm r,evResultL P hp tm rs with
  | some v,some vs=>some (v::vs)
  | _,_=>none
def oneOf:List V->V
 | [v]=>v
 | vs=> .tup vs
section
variable {P:Program} {ops:Array Oper}
theorem Rj:∀ {os:List Oper} {s:St} {l:List Rec} {s2:St},nD P ops os s l s2 ->
  l.length=os.length/\snOf l s2 0=s/\(∀(i:Nat) (o:Oper),os[i]?=some o->qb P ops (snOf l s2 i) o (snOf l s2 (i+1)) (rM l i) (mB l i))
 | _,_,_,_,.nil s=>⟨rfl,rfl,by simp⟩
 | _,_,_,s2,.cons (o:=o) (rest:=rest) (s:=s) (s':=s') (acc:=acc) (wr:=wr) (l:=l') hs ht=>by
  obtain ⟨h1,h2,h3⟩:=Rj ht;refine ⟨by simp [h1],rfl,fun i o' ho => ?_⟩;cases i with
  | zero=>
   simp at ho;subst ho;show qb P ops s o (snOf ((s,acc,wr)::l') s2 1) acc wr;have:snOf ((s,acc,wr)::l') s2 1=snOf l' s2 0:=rfl;rw [this,h2];exact hs
  | succ i=>
   have:=h3 i o' (by simpa using ho);simpa [snOf,rM,mB] using this
theorem Gy {acc:List Nat} {i:Nat}:∀ {es:List Edge},(maskOf acc es).testBit i=true->∃e∈es,Region.binds .any e=true/\(e.on=i\/(acc.getD e.on 0).testBit i=true)
 | [],h=>by simp [maskOf] at h
 | e::es,h=>by
  unfold maskOf at h;split at h
  ·rename_i hb;rw [Nat.testBit_or,Nat.testBit_or,Bool.or_eq_true,Bool.or_eq_true,Nat.testBit_two_pow] at h;rcases h with (h | h) | h
   ·exact ⟨e,by simp,hb,.inl (by simpa using h)⟩
   ·exact ⟨e,by simp,hb,.inr h⟩
   ·obtain ⟨e',he,h1,h2⟩:=Gy h;exact ⟨e',by simp [he],h1,h2⟩
  ·obtain ⟨e',he,h1,h2⟩:=Gy h;exact ⟨e',by simp [he],h1,h2⟩
theorem Jv (ops:Array Oper):∀(os:List Oper) (acc:List Nat),ops.toList=(ops.toList.take acc.length)++os->acc.length<=ops.size ->
  (∀j i,(acc.getD j 0).testBit i=true->oK ops i j)->∀j i,((befL os acc).getD j 0).testBit i=true->oK ops i j
 | [],acc,_,_,h=>h
 | o::os,acc,he,hl,h=>by
  unfold befL;have bQ:acc.length<ops.size:=by
   have:=congrArg List.length he;simp at this;omega
  have FL:(ops.toList.take acc.length).length=acc.length:=by simp;omega
  have ho:ops[acc.length]?=some o:=by
   rw [<- Array.getElem?_toList,he,List.getElem?_append_right ag,FL,Nat.sub_self];rfl
  refine Jv ops os _ ?_ (by simp;omega) fun j i hb => ?_
  ·rw [List.length_append,List.length_singleton,List.take_add_one,Array.getElem?_toList,ho];conv=>lhs;rw [he]
   simp
  ·simp only [List.getD_eq_getElem?_getD] at hb;rw [List.getElem?_append] at hb;split at hb
   ·exact h j i (by simpa [List.getD_eq_getElem?_getD] using hb)
   ·rename_i hj;cases hk:j - acc.length with
    | zero=>
     rw [hk] at hb;simp at hb;have XI:j=acc.length:=ag;obtain ⟨e,Ma,Fv,FU⟩:=Gy hb;rw [XI];rcases FU with h1 | h1
     ·exact .one ho (by simpa using Ma) Fv h1
     ·exact .more ho (by simpa using Ma) Fv (h _ _ h1)
    | succ k=>rw [hk] at hb;simp at hb
theorem Vl {l:List Rec} {s2:St} (h:uq ops l s2=true):(∀j o e,ops[j]?=some o->e∈o.after->Region.binds .any e=true->e.on<j) /\
  (∀i j,i<j->j<ops.size->oK ops i j\/Jf ops (snOf l s2) (rM l) (mB l) i j):=by
 unfold uq at h;simp only [Bool.and_eq_true] at h;obtain ⟨h1,h2⟩:=h;refine ⟨fun j o e ho he hb => ?_,fun i j L0 hj => ?_⟩
 ·rw [List.all_eq_true] at h1;have hm:(o,j)∈ops.toList.zipIdx:=by
   rw [List.mem_zipIdx_iff_getElem?];simpa using ho
  have:=h1 _ hm;rw [List.all_eq_true] at this;have:=this e (by simpa using he);simpa [hb] using this
 ·rw [List.all_eq_true] at h2;have h3:=h2 j (by simpa using hj);rw [List.all_eq_true] at h3;have h4:=h3 i (by simpa using L0);rw [Bool.or_eq_true] at h4;rcases h4 with h4 | h4
  ·exact .inl (Jv ops ops.toList [] (by simp) (by simp) (by simp) j i h4)
  ·right;unfold freeB at h4;simp only [Bool.and_eq_true,List.all_eq_true] at h4;obtain ⟨⟨h5,h6⟩,h7⟩:=h4;refine ⟨fun oi oj fM Yd => ?_,fun b hb=>by simpa using h6 b hb,fun b hb=>by simpa using h7 b hb⟩;rw [fM,Yd] at h5;exact h5
theorem Ri {s s':St}:∀l,nD P ops ops.toList s l s'->∃(hr:j8 P ops (snOf l s') (rM l) (mB l)),snOf l s' 0=s/\snOf l s' ops.size=s'/\(∀b,b∈(l.flatMap (·.2.2))↔∃i,i<ops.size/\b∈mB l i)/\(∀b,b∈s'.wr↔b∈s.wr\/b∈(l.flatMap (·.2.2))):=by
 intro l hl;obtain ⟨h1,h2,h3⟩:=Rj hl;have hr:j8 P ops (snOf l s') (rM l) (mB l):=⟨fun i o ho=>h3 i o (by simpa using ho)⟩;have cQ:l.length=ops.size:=by simpa using h1
 have hW:∀b,b∈(l.flatMap (·.2.2))↔∃i,i<ops.size/\b∈mB l i:=by
  intro b;rw [List.mem_flatMap];constructor
  ·rintro ⟨r,eX,hb⟩;obtain ⟨i,hi,rfl⟩:=List.getElem_of_mem eX;exact ⟨i,by omega,by simp [mB,List.getElem?_eq_getElem hi,hb]⟩
  ·rintro ⟨i,hi,hb⟩;have bA:i<l.length:=by omega
   exact ⟨l[i],List.getElem_mem bA,by simpa [mB,List.getElem?_eq_getElem bA] using hb⟩
 have LN:snOf l s' ops.size=s':=by simp [snOf,cQ]
 refine ⟨hr,h2,LN,hW,fun b => ?_⟩;have gR:∀i,i<=ops.size->(b∈(snOf l s' i).wr↔b∈s.wr\/∃k,k<i/\b∈mB l k):=by
  intro i;induction i with
  | zero=>intro _;rw [h2];simp
  | succ i ih=>
   intro hi;obtain ⟨_,hw,_⟩:=hr.parts i _ (Array.getElem?_eq_getElem (show i<ops.size by omega));rw [hw,List.mem_append,ih (by omega)];constructor
   ·rintro ((h | ⟨k,hk,h⟩) | h)
    ·exact .inl h
    ·exact .inr ⟨k,by omega,h⟩
    ·exact .inr ⟨i,by omega,h⟩
   ·rintro (h | ⟨k,hk,h⟩)
    ·exact .inl (.inl h)
    ·by_cases e:k=i
     ·subst e;exact .inr h
     ·exact .inl (.inr ⟨k,by omega,h⟩)
 rw [hW];have:=gR ops.size (Nat.le_refl _);rw [LN] at this;exact this
structure SR (aW:Hp) (s:St):Prop where
 len:aW.length<=s.hp.length
 frame:∀b,b<aW.length->b∉s.wr->s.hp[b]?=aW[b]?
 alive:∀b,b<aW.length->dU s.hp b->dU aW b
theorem aE2 {s s':St} {l:List Rec} (hl:nD P ops ops.toList s l s') {aW:Hp} (C:SR aW s):SR aW s':=by
 obtain ⟨hr,h0,hN,hW,jC⟩:=Ri l hl;have hl:=lens hr (Nat.zero_le ops.size) (Nat.le_refl _);rw [h0,hN] at hl;refine ⟨Nat.le_trans C.len hl,fun b hb hn => ?_,fun b hb h => ?_⟩
 ·have:=Qf hr (c:=b) (by rw [h0];have:=C.len;omega) (fun i hi ib=>hn ((jC b).2 (.inr ((hW b).2 ⟨i,hi,ib⟩)))) ops.size (Nat.le_refl _);rw [h0,hN] at this;rw [this];exact C.frame b hb fun h=>hn ((jC b).2 (.inl h))
 ·have:=Hx hr (c:=b) (by rw [h0];have:=C.len;omega) ops.size (Nat.le_refl _) (by rw [hN];exact h);rw [h0] at this;exact C.alive b hb this
theorem aE1 (hm:P.follows .mixedOrders=true) (hn:ee P) {draw:Bool} {s s':St} {l:List Rec} (hl:nD P ops ops.toList s l s') (hd:draw=true->uq ops l s'=true) {aW:Hp} {I0 Im:Nat->Prop} {μ0 μ:Mu} {w0 w:World} {a:Act}
  (C:CI P aW I0 μ0 w0 s a w Im μ) {id:Nat} {Q:Exit->Act->World->Prop} (hQ:∀a' w' μ' cZ,CI P aW I0 μ0 w0 s' a' w' cZ μ'->Q .normal a' w'):(Code.region id ops draw).wp P Q a w:=by
 obtain ⟨hr,h0,hN,hW,jC⟩:=Ri l hl;cases draw
 ·refine wp_region ?_;rw [show List.range ops.size=List.range' 0 ops.size from List.range_eq_range' ..];refine PI hn hr (W:=l.flatMap (·.2.2)) (fun i hi b hb=>(hW b).2 ⟨i,hi,hb⟩) (by rw [h0];exact C.cP) (fun L a' w' μ' cZ hL I=>hQ a' w' μ' cZ ?_) ops.size 0 ag a w μ Im (P3 (fun i=>by simp) (by rw [h0];exact C) w (.inl rfl));have:=JS hr hL hW (by rw [hN,h0];exact jC) (by rw [h0];exact C) I;rwa [hN] at this
 ·obtain ⟨uY,AO⟩:=Vl (hd rfl);refine wp_region_any hm ?_;refine aE0 hn hr (W:=l.flatMap (·.2.2)) (fun i hi b hb=>(hW b).2 ⟨i,hi,hb⟩) (by rw [h0];exact C.cP) uY AO (fun L a' w' μ' cZ hL I=>hQ a' w' μ' cZ ?_) ops.size _ (by simp) (Nat.le_trans List.countP_le_length (by simp)) ?_ a _ μ Im (P3 (fun i => ?_) (by rw [h0];exact C) w.drew (.inr rfl))
  ·have:=JS hr hL hW (by rw [hN,h0];exact jC) (by rw [h0];exact C) I;rwa [hN] at this
  ·intro j o e hj;simp only [iN,Array.getD_eq_getD_getElem?,Array.getElem?_replicate] at hj;split at hj <;> cases hj
  ·simp only [iN,Array.getD_eq_getD_getElem?,Array.getElem?_replicate];split <;> rfl
def Ex.toExit:Ex->Exit
 | .normal=> .normal
 | .exit id=> .exit id
 | .ret=> .ret
end
end Go.Proofs.YtlomaojlpodibaaGreat
end

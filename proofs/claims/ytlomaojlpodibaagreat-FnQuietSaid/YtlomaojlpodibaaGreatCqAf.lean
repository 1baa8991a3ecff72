/-
  The reference's operations, kind by kind: they are right.
  Results of transactions are not long; the reference's copies of them; its transactions as a public function.
  Operations and monitors that are drawn, as public functions.
  The program's monitors: what they are told of changes.
  The program's monitors: what they are told of changes (proofs).
  Changes between right stores, and what a monitor is told of them (plain laws).
  The law of monitors that are told nothing they do not ask for: what it computes.
  The law of monitors that are told nothing they do not ask for: it is so.
  From a contract to the given statement: arguments that are slices of bytes.
  This program has none of the library's tables: nothing is asked of them.
-/
import Derived.Test.YtlomaojlpodibaaGreatCqAe
import Derived.ProofKit
import Derived.ChangeSlices
noncomputable section
namespace Go.Proofs.YtlomaojlpodibaaGreat
open Go.RowKit
set_option maxRecDepth 100000
def nw (o:Op'):Env:={P:=Pz,vw:=cj,res:=yi,ls:=fun id _=>match id with
 | 0=>some ⟨(),fun _=> .one {keep:=[1,3]} (H6 o 0) (.exit 0) (Ca o)⟩
 | 2=>some ⟨(),fun _=> .one {keep:=[1,4]} (H7 o 0) (.exit 2) (Ca o)⟩
 | _=>none}
theorem at6 (t nm:List UInt8) (row:List Sx):fnT (nw ⟨1,t,nm,[],row,[],[],false⟩) 0 c7 [.agg (aK ⟨1,t,nm,[],row,[],[],false⟩)] []=(
 let q1:=Op'.mk (1:Int) t nm [] row [] [] false;
 let q:Hp:=[some ([aa 1,.str (Op'.table q1),.str (Op'.name q1),.dsl 0 false [],ab aR (Op'.row q1),.dsl 0 false [],.dsl 0 false [],.bool false],178)];
 let q2:=ah 168 [(1,pp 0),(3,aa 0)];
 let q3:=ah 168 [(1,pp 0),(4,aa 0)];
 let q4:=St.mk (ah 168 [(1,pp 0)]) q [];.bind true fun y0=>cz 51 [aa 1,aa 1,aa 10] [] (.bool y0) [] [] (bif !y0 then dz (.bool false) [] [] else bif decide ((↑(List.length (Op'.table q1)):Int)>40) then dz (.bool false) []
  [] else bif decide ((↑(List.length (Op'.name q1)):Int)>40) then dz (.bool false) [] [] else .bind PUnit.unit fun _=>cz 50 [.dsl 0 false []] [] (.bool true) [] [] (.bind PUnit.unit fun _=>cz 220 [.dsl 0 false []] [] (.bool
  true) [] [] (bif decide ((↑(List.length (Op'.row q1)):Int)>6) then dz (.bool false) [] [] else .bind PUnit.unit fun _=> .ai [St.mk q2 q []=St.mk q2 q [],aN Pz 0 (blk Pz c7 0) (St.mk q2 q []) (Ex.exit 0) q4] (.bind
  PUnit.unit fun _=> .ai [St.mk q3 q []=St.mk q3 q [],aN Pz 0 (blk Pz c7 2) (St.mk q3 q []) (Ex.exit 2) q4] (.bind true fun y5=>cz 51 [aa 1,aa 1,aa 6] [] (.bool y5) [] [] (.bind false fun y6=>cz 51 [aa 1,aa 2,
  aa 6] [] (.bool y6) [] [] (bif y5 then bif y6 then dz (.bool true) [] [] else dz (.bool true) [] [] else bif Op'.table q1==[] then bif y6 then dz (.bool true) [] [] else dz (.bool true) [] [] else dz (.bool false) [] []))))))):T _):=fz
theorem at8 (t:List UInt8) (aS:List aZ) (av:List (List UInt8)):fnT (nw ⟨2,t,[],aS,[],[],av,false⟩) 0 c7 [.agg (aK ⟨2,t,[],aS,[],[],av,false⟩)] []=(
 let q1:=Op'.mk (2:Int) t [] aS [] [] av false;
 let q:Hp:=[some ([aa 2,.str (Op'.table q1),.str (Op'.name q1),ab aE (Op'.aS q1),.dsl 0 false [],.dsl 0 false [],ab encStr (Op'.av q1),.bool false],178)];
 let q2:=ah 168 [(1,pp 0),(3,aa 0)];
 let q3:=ah 168 [(1,pp 0),(4,aa 0)];
 let q4:=St.mk (ah 168 [(1,pp 0)]) q [];
 let q5:=(↑(List.length (Op'.aS q1)):Int);.bind true fun y0=>cz 51 [aa 2,aa 1,aa 10] [] (.bool y0) [] [] (bif !y0 then dz (.bool false) [] [] else bif decide ((↑(List.length (Op'.table q1)):Int)>40) then dz (.bool false)
  [] [] else .bind PUnit.unit fun _=>cz 50 [ab aE (Op'.aS q1)] [] (.bool true) [] [] (.bind PUnit.unit fun _=>cz 220 [.dsl 0 false []] [] (.bool true) [] [] (bif decide ((↑(List.length (Op'.av q1)):Int)>6) then dz
  (.bool false) [] [] else .bind PUnit.unit fun _=> .ai [St.mk q2 q []=St.mk q2 q [],aN Pz 0 (blk Pz c7 0) (St.mk q2 q []) (Ex.exit 0) q4] (.bind PUnit.unit fun _=> .ai [St.mk q3 q []=St.mk q3 q [],aN Pz 0 (blk
  Pz c7 2) (St.mk q3 q []) (Ex.exit 2) q4] (.bind true fun y5=>cz 51 [aa 2,aa 1,aa 6] [] (.bool y5) [] [] (.bind true fun y6=>cz 51 [aa 2,aa 2,aa 6] [] (.bool y6) [] [] (bif y5 then bif y6 then dz (.bool true) [] [] else
  bif q5==0 then dz (.bool true) [] [] else dz (.bool false) [] [] else bif Op'.table q1==[] then bif y6 then dz (.bool true) [] [] else bif q5==0 then dz (.bool true) [] [] else dz (.bool false) [] [] else dz (.bool false) []
  []))))))):T _):=fz
theorem at9 (t:List UInt8) (aS:List aZ) (row:List Sx):fnT (nw ⟨3,t,[],aS,row,[],[],false⟩) 0 c7 [.agg (aK ⟨3,t,[],aS,row,[],[],false⟩)] []=(
 let q1:=Op'.mk (3:Int) t [] aS row [] [] false;
 let q:Hp:=[some ([aa 3,.str (Op'.table q1),.str (Op'.name q1),ab aE (Op'.aS q1),ab aR (Op'.row q1),.dsl 0 false [],.dsl 0 false [],.bool false],178)];
 let q2:=ah 168 [(1,pp 0),(3,aa 0)];
 let q3:=ah 168 [(1,pp 0),(4,aa 0)];
 let q4:=St.mk (ah 168 [(1,pp 0)]) q [];
 let q5:=(↑(List.length (Op'.aS q1)):Int);.bind true fun y0=>cz 51 [aa 3,aa 1,aa 10] [] (.bool y0) [] [] (bif !y0 then dz (.bool false) [] [] else bif decide ((↑(List.length (Op'.table q1)):Int)>40) then dz (.bool false)
  [] [] else .bind PUnit.unit fun _=>cz 50 [ab aE (Op'.aS q1)] [] (.bool true) [] [] (.bind PUnit.unit fun _=>cz 220 [.dsl 0 false []] [] (.bool true) [] [] (bif decide ((↑(List.length (Op'.row q1)):Int)>6) then dz (.bool
  false) [] [] else .bind PUnit.unit fun _=> .ai [St.mk q2 q []=St.mk q2 q [],aN Pz 0 (blk Pz c7 0) (St.mk q2 q []) (Ex.exit 0) q4] (.bind PUnit.unit fun _=> .ai [St.mk q3 q []=St.mk q3 q [],aN Pz 0 (blk Pz c7
  2) (St.mk q3 q []) (Ex.exit 2) q4] (.bind true fun y5=>cz 51 [aa 3,aa 1,aa 6] [] (.bool y5) [] [] (.bind true fun y6=>cz 51 [aa 3,aa 2,aa 6] [] (.bool y6) [] [] (bif y5 then bif y6 then dz (.bool true) [] [] else bif q5
  == 0 then dz (.bool true) [] [] else dz (.bool false) [] [] else bif Op'.table q1==[] then bif y6 then dz (.bool true) [] [] else bif q5==0 then dz (.bool true) [] [] else dz (.bool false) [] [] else dz (.bool false) [] []))))))):T _):=fz
theorem au0 (t:List UInt8) (aS:List aZ) (cC:List Mt):fnT (nw ⟨4,t,[],aS,[],cC,[],false⟩) 0 c7 [.agg (aK ⟨4,t,[],aS,[],cC,[],false⟩)] []=(
 let q1:=Op'.mk (4:Int) t [] aS [] cC [] false;
 let q:Hp:=[some ([aa 4,.str (Op'.table q1),.str (Op'.name q1),ab aE (Op'.aS q1),.dsl 0 false [],ab bR (Op'.cC q1),.dsl 0 false [],.bool false],178)];
 let q2:=ah 168 [(1,pp 0),(3,aa 0)];
 let q3:=ah 168 [(1,pp 0),(4,aa 0)];
 let q4:=St.mk (ah 168 [(1,pp 0)]) q [];
 let q5:=(↑(List.length (Op'.aS q1)):Int);.bind true fun y0=>cz 51 [aa 4,aa 1,aa 10] [] (.bool y0) [] [] (bif !y0 then dz (.bool false) [] [] else bif decide ((↑(List.length (Op'.table q1)):Int)>40) then dz (.bool false)
  [] [] else .bind PUnit.unit fun _=>cz 50 [ab aE (Op'.aS q1)] [] (.bool true) [] [] (.bind PUnit.unit fun _=>cz 220 [ab bR (Op'.cC q1)] [] (.bool true) [] [] (.bind PUnit.unit fun _=> .ai [St.mk q2 q []=St.mk q2
  q [],aN Pz 0 (blk Pz c7 0) (St.mk q2 q []) (Ex.exit 0) q4] (.bind PUnit.unit fun _=> .ai [St.mk q3 q []=St.mk q3 q [],aN Pz 0 (blk Pz c7 2) (St.mk q3 q []) (Ex.exit 2) q4] (.bind true fun y5=>cz 51 [aa 4,aa
  1,aa 6] [] (.bool y5) [] [] (.bind true fun y6=>cz 51 [aa 4,aa 2,aa 6] [] (.bool y6) [] [] (bif y5 then bif y6 then dz (.bool true) [] [] else bif q5==0 then dz (.bool true) [] [] else dz (.bool false) [] [] else bif
  Op'.table q1==[] then bif y6 then dz (.bool true) [] [] else bif q5==0 then dz (.bool true) [] [] else dz (.bool false) [] [] else dz (.bool false) [] []))))))):T _):=fz
theorem au1 (t:List UInt8) (aS:List aZ):fnT (nw ⟨5,t,[],aS,[],[],[],false⟩) 0 c7 [.agg (aK ⟨5,t,[],aS,[],[],[],false⟩)] []=(
 let q1:=Op'.mk (5:Int) t [] aS [] [] [] false;
 let q:Hp:=[some ([aa 5,.str (Op'.table q1),.str (Op'.name q1),ab aE (Op'.aS q1),.dsl 0 false [],.dsl 0 false [],.dsl 0 false [],.bool false],178)];
 let q2:=ah 168 [(1,pp 0),(3,aa 0)];
 let q3:=ah 168 [(1,pp 0),(4,aa 0)];
 let q4:=St.mk (ah 168 [(1,pp 0)]) q [];
 let q5:=(↑(List.length (Op'.aS q1)):Int);.bind true fun y0=>cz 51 [aa 5,aa 1,aa 10] [] (.bool y0) [] [] (bif !y0 then dz (.bool false) [] [] else bif decide ((↑(List.length (Op'.table q1)):Int)>40) then dz (.bool false)
  [] [] else .bind PUnit.unit fun _=>cz 50 [ab aE (Op'.aS q1)] [] (.bool true) [] [] (.bind PUnit.unit fun _=>cz 220 [.dsl 0 false []] [] (.bool true) [] [] (.bind PUnit.unit fun _=> .ai [St.mk q2 q []=St.mk q2 q [],
  aN Pz 0 (blk Pz c7 0) (St.mk q2 q []) (Ex.exit 0) q4] (.bind PUnit.unit fun _=> .ai [St.mk q3 q []=St.mk q3 q [],aN Pz 0 (blk Pz c7 2) (St.mk q3 q []) (Ex.exit 2) q4] (.bind true fun y5=>cz 51 [aa 5,aa 1,aa
  6] [] (.bool y5) [] [] (.bind true fun y6=>cz 51 [aa 5,aa 2,aa 6] [] (.bool y6) [] [] (bif y5 then bif y6 then dz (.bool true) [] [] else bif q5==0 then dz (.bool true) [] [] else dz (.bool false) [] [] else bif Op'.table q1
  == [] then bif y6 then dz (.bool true) [] [] else bif q5==0 then dz (.bool true) [] [] else dz (.bool false) [] [] else dz (.bool false) [] []))))))):T _):=fz
theorem au2 (t:List UInt8) (aS:List aZ) (row:List Sx) (b:Bool):fnT (nw ⟨6,t,[],aS,row,[],[],b⟩) 0 c7 [.agg (aK ⟨6,t,[],aS,row,[],[],b⟩)] []=(
 let q1:=Op'.mk (6:Int) t [] aS row [] [] b;
 let q:Hp:=[some ([aa 6,.str (Op'.table q1),.str (Op'.name q1),ab aE (Op'.aS q1),ab aR (Op'.row q1),.dsl 0 false [],.dsl 0 false [],.bool (Op'.gV q1)],178)];
 let q2:=ah 168 [(1,pp 0),(3,aa 0)];
 let q3:=ah 168 [(1,pp 0),(4,aa 0)];
 let q4:=St.mk (ah 168 [(1,pp 0)]) q [];
 let q5:=(↑(List.length (Op'.aS q1)):Int);.bind true fun y0=>cz 51 [aa 6,aa 1,aa 10] [] (.bool y0) [] [] (bif !y0 then dz (.bool false) [] [] else bif decide ((↑(List.length (Op'.table q1)):Int)>40) then dz (.bool false)
  [] [] else .bind PUnit.unit fun _=>cz 50 [ab aE (Op'.aS q1)] [] (.bool true) [] [] (.bind PUnit.unit fun _=>cz 220 [.dsl 0 false []] [] (.bool true) [] [] (bif decide ((↑(List.length (Op'.row q1)):Int)>6) then dz (.bool
  false) [] [] else .bind PUnit.unit fun _=> .ai [St.mk q2 q []=St.mk q2 q [],aN Pz 0 (blk Pz c7 0) (St.mk q2 q []) (Ex.exit 0) q4] (.bind PUnit.unit fun _=> .ai [St.mk q3 q []=St.mk q3 q [],aN Pz 0 (blk Pz c7
  2) (St.mk q3 q []) (Ex.exit 2) q4] (.bind true fun y5=>cz 51 [aa 6,aa 1,aa 6] [] (.bool y5) [] [] (.bind true fun y6=>cz 51 [aa 6,aa 2,aa 6] [] (.bool y6) [] [] (bif y5 then bif y6 then dz (.bool true) [] [] else bif q5
  == 0 then dz (.bool true) [] [] else dz (.bool false) [] [] else bif Op'.table q1==[] then bif y6 then dz (.bool true) [] [] else bif q5==0 then dz (.bool true) [] [] else dz (.bool false) [] [] else dz (.bool false) [] []))))))):T _):=fz
theorem au3  : fnT (nw ⟨7,[],[],[],[],[],[],false⟩) 0 c7 [.agg (aK ⟨7,[],[],[],[],[],[],false⟩)] []=(
 let q:Hp:=[some ([aa 7,.str [],.str [],.dsl 0 false [],.dsl 0 false [],.dsl 0 false [],.dsl 0 false [],.bool false],178)];
 let q1:=ah 168 [(1,pp 0),(3,aa 0)];
 let q2:=ah 168 [(1,pp 0),(4,aa 0)];
 let q3:=St.mk (ah 168 [(1,pp 0)]) q [];.bind true fun y0=>cz 51 [aa 7,aa 1,aa 10] [] (.bool y0) [] [] (bif !y0 then dz (.bool false) [] [] else .bind PUnit.unit fun _=>cz 50 [.dsl 0 false []] [] (.bool true) [] [] (.bind
  PUnit.unit fun _=>cz 220 [.dsl 0 false []] [] (.bool true) [] [] (.bind PUnit.unit fun _=> .ai [St.mk q1 q []=St.mk q1 q [],aN Pz 0 (blk Pz c7 0) (St.mk q1 q []) (Ex.exit 0) q3] (.bind PUnit.unit fun _=> .ai [St.mk
  q2 q []=St.mk q2 q [],aN Pz 0 (blk Pz c7 2) (St.mk q2 q []) (Ex.exit 2) q3] (.bind false fun y5=>cz 51 [aa 7,aa 1,aa 6] [] (.bool y5) [] [] (.bind false fun y6=>cz 51 [aa 7,aa 2,aa 6] [] (.bool y6) [] [] (bif y5
  then bif y6 then dz (.bool true) [] [] else dz (.bool true) [] [] else bif y6 then dz (.bool true) [] [] else dz (.bool true) [] []))))))):T _):=fz
theorem au4  : fnT (nw ⟨8,[],[],[],[],[],[],false⟩) 0 c7 [.agg (aK ⟨8,[],[],[],[],[],[],false⟩)] []=(
 let q:Hp:=[some ([aa 8,.str [],.str [],.dsl 0 false [],.dsl 0 false [],.dsl 0 false [],.dsl 0 false [],.bool false],178)];
 let q1:=ah 168 [(1,pp 0),(3,aa 0)];
 let q2:=ah 168 [(1,pp 0),(4,aa 0)];
 let q3:=St.mk (ah 168 [(1,pp 0)]) q [];.bind true fun y0=>cz 51 [aa 8,aa 1,aa 10] [] (.bool y0) [] [] (bif !y0 then dz (.bool false) [] [] else .bind PUnit.unit fun _=>cz 50 [.dsl 0 false []] [] (.bool true) [] [] (.bind
  PUnit.unit fun _=>cz 220 [.dsl 0 false []] [] (.bool true) [] [] (.bind PUnit.unit fun _=> .ai [St.mk q1 q []=St.mk q1 q [],aN Pz 0 (blk Pz c7 0) (St.mk q1 q []) (Ex.exit 0) q3] (.bind PUnit.unit fun _=> .ai [St.mk
  q2 q []=St.mk q2 q [],aN Pz 0 (blk Pz c7 2) (St.mk q2 q []) (Ex.exit 2) q3] (.bind false fun y5=>cz 51 [aa 8,aa 1,aa 6] [] (.bool y5) [] [] (.bind false fun y6=>cz 51 [aa 8,aa 2,aa 6] [] (.bool y6) [] [] (bif y5
  then bif y6 then dz (.bool true) [] [] else dz (.bool true) [] [] else bif y6 then dz (.bool true) [] [] else dz (.bool true) [] []))))))):T _):=fz
theorem au5  : fnT (nw ⟨9,[],[115,97,105,100],[],[],[],[],false⟩) 0 c7 [.agg (aK ⟨9,[],[115,97,105,100],[],[],[],[],false⟩)] []=(
 let q:Hp:=[some ([aa 9,.str [],.str [115,97,105,100],.dsl 0 false [],.dsl 0 false [],.dsl 0 false [],.dsl 0 false [],.bool false],178)];
 let q1:=ah 168 [(1,pp 0),(3,aa 0)];
 let q2:=ah 168 [(1,pp 0),(4,aa 0)];
 let q3:=St.mk (ah 168 [(1,pp 0)]) q [];.bind true fun y0=>cz 51 [aa 9,aa 1,aa 10] [] (.bool y0) [] [] (bif !y0 then dz (.bool false) [] [] else .bind PUnit.unit fun _=>cz 50 [.dsl 0 false []] [] (.bool true) [] [] (.bind
  PUnit.unit fun _=>cz 220 [.dsl 0 false []] [] (.bool true) [] [] (.bind PUnit.unit fun _=> .ai [St.mk q1 q []=St.mk q1 q [],aN Pz 0 (blk Pz c7 0) (St.mk q1 q []) (Ex.exit 0) q3] (.bind PUnit.unit fun _=> .ai [St.mk
  q2 q []=St.mk q2 q [],aN Pz 0 (blk Pz c7 2) (St.mk q2 q []) (Ex.exit 2) q3] (.bind false fun y5=>cz 51 [aa 9,aa 1,aa 6] [] (.bool y5) [] [] (.bind false fun y6=>cz 51 [aa 9,aa 2,aa 6] [] (.bool y6) [] [] (bif y5
  then bif y6 then dz (.bool true) [] [] else dz (.bool true) [] [] else bif y6 then dz (.bool true) [] [] else dz (.bool true) [] []))))))):T _):=fz
theorem at7 (nm:List UInt8):fnT (nw ⟨10,[],nm,[],[],[],[],false⟩) 0 c7 [.agg (aK ⟨10,[],nm,[],[],[],[],false⟩)] []=(
 let q1:=Op'.mk (10:Int) [] nm [] [] [] [] false;
 let q:Hp:=[some ([aa 10,.str (Op'.table q1),.str (Op'.name q1),.dsl 0 false [],.dsl 0 false [],.dsl 0 false [],.dsl 0 false [],.bool false],178)];
 let q2:=ah 168 [(1,pp 0),(3,aa 0)];
 let q3:=ah 168 [(1,pp 0),(4,aa 0)];
 let q4:=St.mk (ah 168 [(1,pp 0)]) q [];.bind true fun y0=>cz 51 [aa 10,aa 1,aa 10] [] (.bool y0) [] [] (bif !y0 then dz (.bool false) [] [] else bif decide ((↑(List.length (Op'.name q1)):Int)>40) then dz (.bool false) []
  [] else .bind PUnit.unit fun _=>cz 50 [.dsl 0 false []] [] (.bool true) [] [] (.bind PUnit.unit fun _=>cz 220 [.dsl 0 false []] [] (.bool true) [] [] (.bind PUnit.unit fun _=> .ai [St.mk q2 q []=St.mk q2 q [],aN Pz 0
  (blk Pz c7 0) (St.mk q2 q []) (Ex.exit 0) q4] (.bind PUnit.unit fun _=> .ai [St.mk q3 q []=St.mk q3 q [],aN Pz 0 (blk Pz c7 2) (St.mk q3 q []) (Ex.exit 2) q4] (.bind false fun y5=>cz 51 [aa 10,aa 1,aa 6] []
  (.bool y5) [] [] (.bind false fun y6=>cz 51 [aa 10,aa 2,aa 6] [] (.bool y6) [] [] (bif y5 then bif y6 then dz (.bool true) [] [] else dz (.bool true) [] [] else bif y6 then dz (.bool true) [] [] else dz (.bool true) [] []))))))):T _):=fz
theorem aw5 {t nm:List UInt8} {row:List Sx} (h:nB ⟨1,t,nm,[],row,[],[],false⟩):au Pz c7 [.agg (aK ⟨1,t,nm,[],row,[],[],false⟩)] [] ⟨.bool true,[],[]⟩:=by
 have h0:=m4 h.r (by have:=h.rl;omega) _ 0 (Nat.zero_add _);have h2:=m5 h.c (by have:=h.cl;omega) _ 0 (Nat.zero_add _);have ht:=h.t;have hn:=h.n;have hr:=h.rl;have hc:=h.cl;dsimp only at ht hn hr hc;refine a6 (at6 t nm row) ?_;simp only [sz];repeat' with_reducible (first | (rintro y rfl) | (rintro _ -) | intro _ | apply And.intro)
 all_goals first
  | exact aH
  | exact gS _ _ _ ag
  | exact fB _ _ _
  | exact oq h.w h.wl
  | exact ou h.m h.ml
  | exact .aV h0
  | exact .aV h2
  | (exfalso;omega)
  | (exfalso;simp_all;done)
  | rfl
  | trivial
theorem aw6 {t:List UInt8} {aS:List aZ} {av:List (List UInt8)} (h:nB ⟨2,t,[],aS,[],[],av,false⟩):au Pz c7 [.agg (aK ⟨2,t,[],aS,[],[],av,false⟩)] [] ⟨.bool true,[],[]⟩:=by
 have h0:=m4 h.r (by have:=h.rl;omega) _ 0 (Nat.zero_add _);have h2:=m5 h.c (by have:=h.cl;omega) _ 0 (Nat.zero_add _);have ht:=h.t;have hn:=h.n;have hr:=h.rl;have hc:=h.cl;dsimp only at ht hn hr hc;refine a6 (at8 t aS av) ?_;simp only [sz];repeat' with_reducible (first | (rintro y rfl) | (rintro _ -) | intro _ | apply And.intro)
 all_goals first
  | exact aH
  | exact gS _ _ _ ag
  | exact fB _ _ _
  | exact oq h.w h.wl
  | exact ou h.m h.ml
  | exact .aV h0
  | exact .aV h2
  | (exfalso;omega)
  | (exfalso;simp_all;done)
  | rfl
  | trivial
theorem aw7 {t:List UInt8} {aS:List aZ} {row:List Sx} (h:nB ⟨3,t,[],aS,row,[],[],false⟩):au Pz c7 [.agg (aK ⟨3,t,[],aS,row,[],[],false⟩)] [] ⟨.bool true,[],[]⟩:=by
 have h0:=m4 h.r (by have:=h.rl;omega) _ 0 (Nat.zero_add _);have h2:=m5 h.c (by have:=h.cl;omega) _ 0 (Nat.zero_add _);have ht:=h.t;have hn:=h.n;have hr:=h.rl;have hc:=h.cl;dsimp only at ht hn hr hc;refine a6 (at9 t aS row) ?_;simp only [sz];repeat' with_reducible (first | (rintro y rfl) | (rintro _ -) | intro _ | apply And.intro)
 all_goals first
  | exact aH
  | exact gS _ _ _ ag
  | exact fB _ _ _
  | exact oq h.w h.wl
  | exact ou h.m h.ml
  | exact .aV h0
  | exact .aV h2
  | (exfalso;omega)
  | (exfalso;simp_all;done)
  | rfl
  | trivial
theorem aw8 {t:List UInt8} {aS:List aZ} {cC:List Mt} (h:nB ⟨4,t,[],aS,[],cC,[],false⟩):au Pz c7 [.agg (aK ⟨4,t,[],aS,[],cC,[],false⟩)] [] ⟨.bool true,[],[]⟩:=by
 have h0:=m4 h.r (by have:=h.rl;omega) _ 0 (Nat.zero_add _);have h2:=m5 h.c (by have:=h.cl;omega) _ 0 (Nat.zero_add _);have ht:=h.t;have hn:=h.n;have hr:=h.rl;have hc:=h.cl;dsimp only at ht hn hr hc;refine a6 (au0 t aS cC) ?_;simp only [sz];repeat' with_reducible (first | (rintro y rfl) | (rintro _ -) | intro _ | apply And.intro)
 all_goals first
  | exact aH
  | exact gS _ _ _ ag
  | exact fB _ _ _
  | exact oq h.w h.wl
  | exact ou h.m h.ml
  | exact .aV h0
  | exact .aV h2
  | (exfalso;omega)
  | (exfalso;simp_all;done)
  | rfl
  | trivial
theorem aw9 {t:List UInt8} {aS:List aZ} (h:nB ⟨5,t,[],aS,[],[],[],false⟩):au Pz c7 [.agg (aK ⟨5,t,[],aS,[],[],[],false⟩)] [] ⟨.bool true,[],[]⟩:=by
 have h0:=m4 h.r (by have:=h.rl;omega) _ 0 (Nat.zero_add _);have h2:=m5 h.c (by have:=h.cl;omega) _ 0 (Nat.zero_add _);have ht:=h.t;have hn:=h.n;have hr:=h.rl;have hc:=h.cl;dsimp only at ht hn hr hc;refine a6 (au1 t aS) ?_;simp only [sz];repeat' with_reducible (first | (rintro y rfl) | (rintro _ -) | intro _ | apply And.intro)
 all_goals first
  | exact aH
  | exact gS _ _ _ ag
  | exact fB _ _ _
  | exact oq h.w h.wl
  | exact ou h.m h.ml
  | exact .aV h0
  | exact .aV h2
  | (exfalso;omega)
  | (exfalso;simp_all;done)
  | rfl
  | trivial
theorem ax0 {t:List UInt8} {aS:List aZ} {row:List Sx} {b:Bool} (h:nB ⟨6,t,[],aS,row,[],[],b⟩):au Pz c7 [.agg (aK ⟨6,t,[],aS,row,[],[],b⟩)] [] ⟨.bool true,[],[]⟩:=by
 have h0:=m4 h.r (by have:=h.rl;omega) _ 0 (Nat.zero_add _);have h2:=m5 h.c (by have:=h.cl;omega) _ 0 (Nat.zero_add _);have ht:=h.t;have hn:=h.n;have hr:=h.rl;have hc:=h.cl;dsimp only at ht hn hr hc;refine a6 (au2 t aS row b) ?_;simp only [sz];repeat' with_reducible (first | (rintro y rfl) | (rintro _ -) | intro _ | apply And.intro)
 all_goals first
  | exact aH
  | exact gS _ _ _ ag
  | exact fB _ _ _
  | exact oq h.w h.wl
  | exact ou h.m h.ml
  | exact .aV h0
  | exact .aV h2
  | (exfalso;omega)
  | (exfalso;simp_all;done)
  | rfl
  | trivial
theorem ax1  (h:nB ⟨7,[],[],[],[],[],[],false⟩):au Pz c7 [.agg (aK ⟨7,[],[],[],[],[],[],false⟩)] [] ⟨.bool true,[],[]⟩:=by
 have h0:=m4 h.r (by have:=h.rl;omega) _ 0 (Nat.zero_add _);have h2:=m5 h.c (by have:=h.cl;omega) _ 0 (Nat.zero_add _);have ht:=h.t;have hn:=h.n;have hr:=h.rl;have hc:=h.cl;dsimp only at ht hn hr hc;refine a6 (au3) ?_;simp only [sz];repeat' with_reducible (first | (rintro y rfl) | (rintro _ -) | intro _ | apply And.intro)
 all_goals first
  | exact aH
  | exact gS _ _ _ ag
  | exact fB _ _ _
  | exact oq h.w h.wl
  | exact ou h.m h.ml
  | exact .aV h0
  | exact .aV h2
  | (exfalso;omega)
  | (exfalso;simp_all;done)
  | rfl
  | trivial
theorem ax2  (h:nB ⟨8,[],[],[],[],[],[],false⟩):au Pz c7 [.agg (aK ⟨8,[],[],[],[],[],[],false⟩)] [] ⟨.bool true,[],[]⟩:=by
 have h0:=m4 h.r (by have:=h.rl;omega) _ 0 (Nat.zero_add _);have h2:=m5 h.c (by have:=h.cl;omega) _ 0 (Nat.zero_add _);have ht:=h.t;have hn:=h.n;have hr:=h.rl;have hc:=h.cl;dsimp only at ht hn hr hc;refine a6 (au4) ?_;simp only [sz];repeat' with_reducible (first | (rintro y rfl) | (rintro _ -) | intro _ | apply And.intro)
 all_goals first
  | exact aH
  | exact gS _ _ _ ag
  | exact fB _ _ _
  | exact oq h.w h.wl
  | exact ou h.m h.ml
  | exact .aV h0
  | exact .aV h2
  | (exfalso;omega)
  | (exfalso;simp_all;done)
  | rfl
  | trivial
theorem ax3  (h:nB ⟨9,[],[115,97,105,100],[],[],[],[],false⟩):au Pz c7 [.agg (aK ⟨9,[],[115,97,105,100],[],[],[],[],false⟩)] [] ⟨.bool true,[],[]⟩:=by
 have h0:=m4 h.r (by have:=h.rl;omega) _ 0 (Nat.zero_add _);have h2:=m5 h.c (by have:=h.cl;omega) _ 0 (Nat.zero_add _);have ht:=h.t;have hn:=h.n;have hr:=h.rl;have hc:=h.cl;dsimp only at ht hn hr hc;refine a6 (au5) ?_;simp only [sz];repeat' with_reducible (first | (rintro y rfl) | (rintro _ -) | intro _ | apply And.intro)
 all_goals first
  | exact aH
  | exact gS _ _ _ ag
  | exact fB _ _ _
  | exact oq h.w h.wl
  | exact ou h.m h.ml
  | exact .aV h0
  | exact .aV h2
  | (exfalso;omega)
  | (exfalso;simp_all;done)
  | rfl
  | trivial
theorem aw4 {nm:List UInt8} (h:nB ⟨10,[],nm,[],[],[],[],false⟩):au Pz c7 [.agg (aK ⟨10,[],nm,[],[],[],[],false⟩)] [] ⟨.bool true,[],[]⟩:=by
 have h0:=m4 h.r (by have:=h.rl;omega) _ 0 (Nat.zero_add _);have h2:=m5 h.c (by have:=h.cl;omega) _ 0 (Nat.zero_add _);have ht:=h.t;have hn:=h.n;have hr:=h.rl;have hc:=h.cl;dsimp only at ht hn hr hc;refine a6 (at7 nm) ?_;simp only [sz];repeat' with_reducible (first | (rintro y rfl) | (rintro _ -) | intro _ | apply And.intro)
 all_goals first
  | exact aH
  | exact gS _ _ _ ag
  | exact fB _ _ _
  | exact oq h.w h.wl
  | exact ou h.m h.ml
  | exact .aV h0
  | exact .aV h2
  | (exfalso;omega)
  | (exfalso;simp_all;done)
  | rfl
  | trivial
structure nC (r:bV):Prop where
 c:r.av.length<=1000
 w:r.rows.length<=1000
 s:∀q∈r.rows,fv q
theorem nb (a b c:Int):nC ⟨a,b,c,[],[]⟩:=⟨by simp,by simp,by simp⟩
theorem aK9 {x:aA} (hx:iY aI x) {t:Nat} (ht:t<3) {o:Op'} (ho:o.av.length<=4):nC (vX (bD t) (x.ak.getD t []) o):=by
 have hl:(x.ak.getD t []).length<=1000:=by
  have hn:x.ak.length=3:=hx.h.n;exact hx.l _ (bH [] ag)
 have hc:(nJ (bD t) o.av).length<=1000:=by
  unfold nJ;cases (o.av.length:Int)==0
  ·rw [cond_false];omega
  ·rw [cond_true,List.length_map];exact (jM ht).n
 refine ⟨hc,?_,fun q hq => ?_⟩
 ·show (lK _ _ _ _).length<=1000;unfold lK;rw [List.length_map];exact Nat.le_trans (List.length_filter_le _ _) hl
 ·obtain ⟨r,hr,rfl⟩:=List.mem_map.1 (show q∈List.map _ _ from hq);have Ys:=hx.rw (t:=t) ht r (List.mem_filter.1 hr).1;refine ⟨?_,fun d hd => ?_⟩
  ·show (List.map _ _).length<=_;rw [List.length_map];omega
  ·obtain ⟨nm,_,rfl⟩:=List.mem_map.1 (show d∈List.map _ _ from hd);exact Ys.rU nm
theorem Vd {x:aA} (hx:iY aI x) {ops:List Op'} {ids:List Int} {ow:List (List UInt8)} {i:Nat} (ho:mE (ops.getD i .zero)):nC (dW aI x ops ids ow i).2:=by
 unfold dW;cases im aI (ops.getD i .zero) != 0
 ·rw [cond_false];cases h7:(ops.getD i .zero).kind==7||(ops.getD i .zero).kind==9
  ·rw [cond_false];cases h8:(ops.getD i .zero).kind==8
   ·rw [cond_false];cases iH:(ops.getD i .zero).kind==10
    ·rw [cond_false];cases (gh ops ids (ops.getD i .zero).row).2 != 0
     ·rw [cond_false];rw [Bool.or_eq_false_iff] at h7;have a1:(ops.getD i .zero).kind≠7:=by simpa only [beq_eq_false_iff_ne,ne_eq] using h7.1
      have a2:(ops.getD i .zero).kind≠9:=by simpa only [beq_eq_false_iff_ne,ne_eq] using h7.2
      have a3:(ops.getD i .zero).kind≠8:=by simpa only [beq_eq_false_iff_ne,ne_eq] using h8
      have a4:(ops.getD i .zero).kind≠10:=by simpa only [beq_eq_false_iff_ne,ne_eq] using iH
      have hk:=ho.k;obtain ⟨t,ht,e,_⟩:=ho.t ag;rw [e,Int.toNat_natCast];unfold Ac;cases (ops.getD i .zero).kind==1
      ·rw [cond_false];cases (ops.getD i .zero).kind==2
       ·rw [cond_false];cases (ops.getD i .zero).kind==6
        ·rw [cond_false];unfold rV;dsimp only;cases (chL aI (ops.getD i .zero) t (gh ops ids (ops.getD i .zero).row).1 (ew (aI.getD t .zero) (x.ak.getD t []) (ops.getD i .zero).aS) x).2==0 <;> exact nb _ _ _
        ·rw [cond_true];unfold wy IJ;dsimp only;generalize nq (aI.getD t .zero) (ops.getD i .zero).aS (gh ops ids (ops.getD i .zero).row).1 (x.ak.getD t []) 0 true=y;cases (decide (0<y.1)&&y.2) != (ops.getD i .zero).gV <;> exact nb _ _ _
       ·rw [cond_true];exact aK9 hx ht ho.s.2.2.2.2
      ·rw [cond_true];unfold pN;cases l5 ops i (ops.getD i .zero).name
       ·rw [cond_false];cases (x.ak.getD t []).length==12
        ·rw [cond_false];cases (setRL (aI.getD t .zero) (gh ops ids (ops.getD i .zero).row).1 (gM (aI.getD t .zero) (ids.getD i 0))).2 != 0 <;> exact nb _ _ _
        ·exact nb _ _ _
       ·exact nb _ _ _
     ·exact nb _ _ _
    ·rw [cond_true];dsimp only;cases ow.any (fun w=>w==(ops.getD i .zero).name) <;> exact nb _ _ _
   ·exact nb _ _ _
  ·exact nb _ _ _
 ·exact nb _ _ _
theorem Rc {ops:List Op'} {ids:List Int} {ow:List (List UInt8)} (ho:∀o∈ops,mE o):∀(k i:Nat) (x:aA) (out:List bV),i+k=ops.length->zj aI ops ids ow k i x->(∀r∈out,nC r) ->
  (∀r∈(trL aI ops ids ow k i x out).2.1,nC r)/\(trL aI ops ids ow k i x out).2.1.length<=out.length+k
 | 0,i,x,out,_,_,h=>⟨h,by simp [trL]⟩
 | k+1,i,x,out,hi,hP,h=>by
  have hs:=Vd (ow:=ow) (ids:=ids) hP.1 (ho _ (bH .zero (show i<ops.length by omega)));have h':∀r∈out++[(dW aI x ops ids ow i).2],nC r:=fun r hr=>by
   rcases List.mem_append.1 hr with hr | hr
   ·exact h r hr
   ·rw [List.mem_singleton] at hr;rw [hr];exact hs
  rw [trL];cases hc:(dW aI x ops ids ow i).2.code != 0
  ·rw [cond_false];have ih:=Rc ho k (i+1) (dW aI x ops ids ow i).1 _ (by omega) (hP.2.2 (by simpa using hc)) h';refine ⟨ih.1,?_⟩;have:=ih.2;rw [List.length_append,List.length_singleton] at this;omega
  ·rw [cond_true];refine ⟨h',?_⟩;dsimp only;rw [List.length_append,List.length_singleton];omega
theorem aS4 {x:aA} {ops:List Op'} {ow:List (List UInt8)} (hx:iT x) (h2:x.next+ops.length<=1000000) (ho:∀o∈ops,mE o):(∀r∈(dt aI x ops ow).2.1,nC r)/\(dt aI x ops ow).2.1.length<=ops.length+1:=by
 have hI:=Cy (ow:=ow) hx.1 h2 ho ops.length 0 x [] ag (by simpa [cntI] using hx.2);have hL:=Rc (ow:=ow) ho ops.length 0 x [] ag hI.1 (fun r hr=>by cases hr);rw [List.length_nil,Nat.zero_add] at hL;unfold dt zi;generalize trL aI ops (idsF ops x.next) ow ops.length 0 x []=r at *;cases r.2.2
 ·exact ⟨hL.1,Nat.le_succ_of_le hL.2⟩
 ·rw [cond_true];cases ka aI ⟨(dR r.1).ak,nxL (idsF ops x.next) (dR r.1).next⟩ != 0
  ·exact ⟨hL.1,Nat.le_succ_of_le hL.2⟩
  ·rw [cond_true];refine ⟨fun q hq => ?_,?_⟩
   ·rcases List.mem_append.1 hq with hq | hq
    ·exact hL.1 q hq
    ·rw [List.mem_singleton] at hq;rw [hq];exact nb _ _ _
   ·dsimp only;rw [List.length_append,List.length_singleton];have:=hL.2;omega
theorem OJ {L o:List bV} {i:Nat} {r:bV} (hr:nC r):∀(m k:Nat),k+m=r.rows.length->aT Pz 0 (lp Pz pf 2) (B8 L o i r (r.rows.take k) k) (.exit 2) (QK L o i r r.rows)
 | 0,k,hk=>by
  have hk:k=r.rows.length:=hk;subst hk;rw [List.take_length];refine bt (OI L o (i:Nat) r r.rows (r.rows.length:Nat)) ?_;simp only [sz];exact ⟨fun h=>ag,fun _=>⟨rfl,rfl⟩⟩
 | m+1,k,hk=>by
  have ki:k<r.rows.length:=ag;have hl:=hr.w;have aD:=bI.at r.rows ⟨0,[]⟩ k 2 ki rfl;have w1:=cX k;have FU:=Bs _ (hr.s _ (bH (⟨0,[]⟩:Rw) ki));have ih:=OJ (L:=L) (o:=o) (i:=i) hr m (k+1) ag;rw [fU ⟨0,[]⟩ ki] at ih;have om:(r.rows.take k).length=k:=by rw [List.length_take];omega
  refine bt (OI L o (i:Nat) r (r.rows.take k) (k:Nat)) ?_;simp only [sz,w1,bI.af,bP.af,bI.length,Int.toNat_natCast];refine ⟨fun _=>⟨⟨aB,aD⟩,?_⟩,fun h=>ag⟩;rintro _ -;refine ⟨FU,aB,?_⟩;simp only [B8,dF,aq,List.length_append,List.length_singleton] at ih ⊢;exact ih
theorem OH {L:List bV} (hL:∀r∈L,nC r) (hl:L.length<=1000):∀(m i:Nat),i+m=L.length->aT Pz 0 (lp Pz pf 0) (B7 L (L.take i) i) (.exit 0) ⟨ah 48 [(3,.sl 0 0 L.length false)],[some ([.aw (ae bL L)],rA)],[]⟩
 | 0,i,hi=>by
  have hi:i=L.length:=hi;subst hi;rw [List.take_length];refine bt (OG L L (L.length:Nat) bV.zero) ?_;simp only [sz];exact ⟨fun h=>ag,fun _=>⟨rfl,rfl⟩⟩
 | m+1,i,hi=>by
  have bA:i<L.length:=ag;have hr:=hL _ (bH (⟨0,0,0,[],[]⟩:bV) bA);have aD:=sZ.at L ⟨0,0,0,[],[]⟩ i 5 bA rfl;have w1:=cX i;have h2:=OJ (L:=L) (o:=L.take i) (i:=i) hr (L.getD i ⟨0,0,0,[],[]⟩).rows.length 0 ag;have ih:=OH hL hl m (i+1) ag;rw [fU ⟨0,0,0,[],[]⟩ bA] at ih;have om:(L.take i).length=i:=by rw [List.length_take];omega
  have hc:=hr.c;refine bt (OG L (L.take i) (i:Nat) (L.getD i ⟨0,0,0,[],[]⟩)) ?_;simp only [sz,w1,sZ.af,sZ.length,cx.length,Int.toNat_natCast,Nat.zero_add];refine ⟨fun _=>⟨⟨aB,aD⟩,?_⟩,fun h=>ag⟩;refine ⟨⟨a8,cx.all _,a8,a8,ag,ag⟩,?_⟩;rintro _ -;refine ⟨⟨a8,.aV h2⟩,aB,?_⟩;simp only [B7,dF,bL,List.length_append,List.length_singleton] at ih ⊢;exact ih
theorem az7 {L:List bV} (hL:∀r∈L,nC r) (hl:L.length<=1000):au Pz pf [ab bL L] [] ⟨ab bL L,[],[]⟩:=by
 have h:=OH hL hl L.length 0 ag;refine a6 (az5 L) ?_;simp only [sz];rintro _ -;exact ⟨⟨a8,.aV h⟩,aH⟩
theorem wv (t:Int):(dr t).length<=40:=by
 unfold dr;generalize t.toNat=n;match n with
 | 0 | 1 | 2=>decide
 | n+3=>simp
theorem Bj {t:Nat} (ht:t<3):∀c∈(bD t).av,c.name.length<=40:=by
 have:t=0\/t=1\/t=2:=ag;rcases this with rfl | rfl | rfl <;> decide
theorem lr.R {t:Nat} (ht:t<3) {s:Sx} (h:lr (bD t) s):zQ s:=by
 obtain ⟨c,hc,h1,h2,h3,h4,h5,h6⟩:=h;refine ⟨by rw [h1];exact Bj ht c hc,⟨_,h2⟩,h3,h4,ag,?_⟩;by_cases he:s.names=[]
 ·exact .inl he
 ·exact .inr (h5 he).2
theorem j7.R {t:Nat} (ht:t<3) {m:Mt} (h:j7 (bD t) m):wL m:=by
 obtain ⟨c,hc,h1,h2,_⟩:=h.aC;exact ⟨h.fn,⟨_,h2⟩,h.len,by rw [h1];exact Bj ht c hc⟩
theorem wW {t:Nat} (ht:t<3) {l:List aZ} (h:∀q∈l,gE (bD t) q):∀q∈l,nu q:=fun q hq=>((h q hq).X ht).i
theorem av0 {o:Op'} (h:fq o):au Pz c7 [.agg (aK o)] [] ⟨.bool true,[],[]⟩:=by
 cases h with
 | ins t row nm ht hr hl hn=>
  have h3:t.toNat<3:=ag;have eI:nm.length<=40:=by
   simp only [pO,List.mem_cons,List.not_mem_nil,or_false] at hn;rcases hn with rfl | rfl | rfl <;> decide
  exact aw5 ⟨wv t,eI,(fun q hq=>by cases hq),by simp,(fun q hq=>by cases hq),by simp,fun q hq=>(hr q hq).R h3,by dsimp only;omega,(fun q hq=>by cases hq),by simp⟩
 | HE t aS av ht hw gQ hc hl=>
  have h3:t.toNat<3:=ag;refine aw6 ⟨wv t,by simp,wW h3 hw,by dsimp only;omega,(fun q hq=>by cases hq),by simp,(fun q hq=>by cases hq),by simp,fun q hq => ?_,by dsimp only;omega⟩;rcases hc q hq with rfl | ⟨c,cN,rfl⟩
  ·decide
  ·exact Bj h3 c cN
 | IF t aS row ht hw gQ hr hl=>
  have h3:t.toNat<3:=ag;exact aw7 ⟨wv t,by simp,wW h3 hw,by dsimp only;omega,(fun q hq=>by cases hq),by simp,fun q hq=>(hr q hq).R h3,by dsimp only;omega,(fun q hq=>by cases hq),by simp⟩
 | «mut» t aS cC ht hw gQ hm hl=>
  have h3:t.toNat<3:=ag;exact aw8 ⟨wv t,by simp,wW h3 hw,by dsimp only;omega,fun q hq=>(hm q hq).R h3,by dsimp only;omega,(fun q hq=>by cases hq),by simp,(fun q hq=>by cases hq),by simp⟩
 | del t aS ht hw gQ=>
  have h3:t.toNat<3:=ag;exact aw9 ⟨wv t,by simp,wW h3 hw,by dsimp only;omega,(fun q hq=>by cases hq),by simp,(fun q hq=>by cases hq),by simp,(fun q hq=>by cases hq),by simp⟩
 | wait t aS row b ht hw gQ hr hl=>
  have h3:t.toNat<3:=ag;exact ax0 ⟨wv t,by simp,wW h3 hw,by dsimp only;omega,(fun q hq=>by cases hq),by simp,fun q hq=>(hr q hq).R h3,by dsimp only;omega,(fun q hq=>by cases hq),by simp⟩
 | DW=>exact ax1 ⟨by simp,by simp,(fun q hq=>by cases hq),by simp,(fun q hq=>by cases hq),by simp,(fun q hq=>by cases hq),by simp,(fun q hq=>by cases hq),by simp⟩
 | Dt=>exact ax2 ⟨by simp,by simp,(fun q hq=>by cases hq),by simp,(fun q hq=>by cases hq),by simp,(fun q hq=>by cases hq),by simp,(fun q hq=>by cases hq),by simp⟩
 | HD=>exact ax3 ⟨by simp,by simp,(fun q hq=>by cases hq),by simp,(fun q hq=>by cases hq),by simp,(fun q hq=>by cases hq),by simp,(fun q hq=>by cases hq),by simp⟩
 | Dz nm hn=>
  have eI:nm.length<=40:=by
   simp only [s4,List.mem_cons,List.not_mem_nil,or_false] at hn;rcases hn with rfl | rfl <;> decide
  exact aw4 ⟨by simp,eI,(fun q hq=>by cases hq),by simp,(fun q hq=>by cases hq),by simp,(fun q hq=>by cases hq),by simp,(fun q hq=>by cases hq),by simp⟩
theorem RP (l:List Op') (hc:∀o∈l,fq o) (hl:l.length<=1048576):∀(k i:Nat),i+k=l.length->aT Pz 0 (lp Pz r9 0) (Il l i) (.exit 0) ⟨ah 19 [],[],[]⟩
 | 0,i,hi=>by
  have hi:i=l.length:=hi;subst hi;refine bt (RO l (l.length:Nat)) ?_;simp only [sz];exact ⟨fun h=>ag,fun _=>⟨rfl,rfl⟩⟩
 | k+1,i,hi=>by
  have bA:i<l.length:=ag;have aD:=iM.at l ⟨0,[],[],[],[],[],[],false⟩ i 8 bA rfl;have w1:=cX i;have ih:=RP l hc hl k (i+1) ag;refine bt (RO l (i:Nat)) ?_;simp only [sz,w1,iM.af,Int.toNat_natCast];refine ⟨fun _=>⟨⟨aB,aD⟩,?_⟩,fun h=>ag⟩;rintro _ -;exact ⟨av0 (hc _ (bH _ bA)),ih⟩
theorem ay7 {l:List Op'} (hc:∀o∈l,fq o) (hl:l.length<=8):au Pz r9 [ab aK l] [] ⟨.int .i64 0,[],[]⟩:=by
 have h:=RP l hc ag l.length 0 ag;refine a6 (zqT l) ?_;simp only [sz,iM.af];refine ⟨fun h=>ag,fun _ => ?_⟩;rintro _ -;exact ⟨⟨a8,.aV h⟩,aH⟩
theorem aS8 {x:aA} {ops:List Op'} {ow:List (List UInt8)} (hx:qc x) (hR:p9 aI) (hU:nE aI) (h2:x.next+ops.length<=1000000) (hD:∀o∈ops,fq o) (hn:ops.length<=8) (hw:ow.length<=4096):
  au Pz xe [.agg [ab ao aI],.agg (aM x),ab aK ops,ab encStr ow] [] ⟨.tup [.agg (aM (dt aI x ops ow).1),ab bL (dt aI x ops ow).2.1,.int .i64 0],[],[]⟩:=by
 have hg:∀o∈ops,mE o:=fun o h=>(hD o h).g;have hI:=Cw (ow:=ow) hx.fit h2 hg ag ag;have hr:=IA (ow:=ow) hx h2 hg ag ag;have hs:=aS4 (ow:=ow) hx.fit h2 hg;have sP:=Ha hr.fit.2.wo.h.s;have Mk:=az7 hs.1 ag;have h1:=hx.fit.1;have w1:wz (x.next+(ops.length:Int))=x.next+ops.length:=du ag
 have kQ:=hI.1;refine a6 (aS6 aI x ops ow) ?_;simp only [sz,w1,bN.af,bB.af,iM.af,cx.af,sZ.af];refine ⟨fun h=>ag,fun _=>⟨fun h=>ag,fun _ => ?_⟩⟩;rintro _ -;refine ⟨aO3 hx hR hU,?_⟩;rintro _ -;refine ⟨ay7 hD hn,fun h=>ag,fun _ => ?_⟩;rintro y e;have e:y=dt aI x ops ow:=e;rw [<- e] at kQ sP Mk ⊢;refine ⟨kQ,?_⟩;rintro _ -;refine ⟨sP,?_⟩;rintro _ -;exact ⟨Mk,aH⟩
abbrev sg:Nat:=71
abbrev EH:Nat:=26
abbrev EO:Nat:=28
abbrev Cp:Nat:=63
def qR:List (List UInt8):=[[109],[110]]
def PS (S:aO):cy:=fun f vs hp=>match vs,hp with
 | [.ptr 0 0,.sl 1 0 _ _],[some ([.dsl _ _ cs,.int _ k,.int _ s],_),some (c,t)]=>bif Nat.beq f sj then some ⟨dQ (aX cs k s) qR,fun y=>⟨.str y.1,[ar y.2,some (c,t)],[0]⟩⟩ else none
 | [.ptr 0 0,.int _ n],[some ([.dsl _ _ cs,.int _ k,.int _ s],_)]=>bif Nat.beq f oV then some ⟨ja (aX cs k s) n,fun y=>⟨.agg (aE y.1),[ar y.2],[0]⟩⟩ else rf S f vs hp
 | _,_=>rf S f vs hp
def Se (S:aO):Env:={P:=Pz,vw:=mA,res:=PS S}
def Ng (nm tn:List UInt8) (l:Nat) (c1 c2 c3 c4:Bool) (f:Bool):Option bM:=some ([.str nm,.str tn,.sl 4 0 l f,.bool c1,.bool c2,.bool c3,.bool c4,.sl 5 0 0 false],Cp)
def wa (x:Src) (k:Int) (tb:Tb) (nm:List UInt8) (l:List (List UInt8)) (c1 c2 c3 c4:Bool) (i:Int):St:=
 ⟨ah 65 [(0,.ptr 0 0),(2,.ptr 1 0),(3,.int .i64 k),(4,.ptr 2 0),(5,.ptr 3 0),(6,.int .i64 i)],
  [ar x,some ([.str [],.str [],.dsl 0 true [],.bool false,.bool false,.bool false,.bool false,.dsl 0 true []],Cp),some (ao tb,gp),Ng nm tb.name l.length c1 c2 c3 c4 false,some ([.aw (ae encStr l)],ni),some ([.aw []],Co)],[0]⟩
def an2:Ex->Kp:=fun _=>{keep:=[0,2,3,4,5,6],lI:=[(3,2),(3,7)],wr:=[0]}
theorem Nf (x:Src) (k:Int) (tb:Tb) (nm:List UInt8) (l:List (List UInt8)) (c1 c2 c3 c4:Bool) (i:Int):bp (Se []) 1 an2 (lp Pz sg 0) (wa x k tb nm l c1 c2 c3 c4 i)=(
 let q:List V:=[.str [],.str [],.dsl 0 true [],.bool false,.bool false,.bool false,.bool false,.dsl 0 true []];
 let q1:=List.getD (af aY (ae aY tb.av)) i.toNat (aL.mk [] (0:Int) (0:Int) (0:Int) (0:Int) (0:Int) [] false);
 let q2:List V:=[.str nm,.str tb.name,.sl 4 0 l.length false,.bool c1,.bool c2,.bool c3,.bool c4,.sl 5 0 0 false];
 let q3:=ah 65 [(0,pp 0),(2,pp 1),(3,aa k),(4,pp 2),(5,pp 3),(6,aa (wz (i+1)))];
 let q4:=ae encStr l;bif decide (i<(tb.av.length:Int)) then .bind (bq (aX (ae aP x.l) (x.k:Int) x.s) (2:Int)) fun y0=>cz 105 [pp 0,aa 2] [ar x] (.bool y0.1) [ar y0.2] [0] (bif y0.1 then .ai [0<=i /\
  i<(tb.av.length:Int),td 8 i (ae aY tb.av)=(aY q1)] (.ai [0=0,List.length q4=l.length*1,l.length+1<=9223372036854775807,(l.length+1)*16<=140737488355328] (.done (Ex.normal,St.mk q3 [ar y0.2,
  some (q,63),some ((ao tb),44),some ([.str nm,.str tb.name,.sl 4 0 (l.length+1) false,.bool c1,.bool c2,.bool c3,.bool c4,.sl 5 0 0 false],63),some ([.aw (ae encStr l++[.str (aL.name q1)])],9),some ([.aw []],
  34)] [0]))) else .done (Ex.normal,St.mk q3 [ar y0.2,some (q,63),some ((ao tb),44),some (q2,63),some ([.aw q4],9),some ([.aw []],34)] [0])) else .done (Ex.exit 0,St.mk (ah 65 [(0,pp 0),(2,pp 1),(3,aa k),(4,
  pp 2),(5,pp 3),(6,aa i)]) [ar x,some (q,63),some ((ao tb),44),some (q2,63),some ([.aw q4],9),some ([.aw []],34)] [0]):T _):=kz
def ab8:Nat->St->Option b8:=fun id s=>match id,s.tm.get 3,s.tm.get 4,s.tm.get 5 with
 | 0,.int _ k,.ptr b4 _,.ptr b5 _=>match (s.hp.getD 0 none:Option bM),(s.hp.getD b4 none:Option bM),(s.hp.getD b5 none:Option bM) with
  | some ([.dsl _ _ cs,.int _ a,.int _ b],_),some ([.str tn,.dsl _ _ cc,.dsl _ _ uu,.bool r],_),some ([.str nm,.str _,_,.bool c1,.bool c2,.bool c3,.bool c4,_],_)=>
   some ⟨pkL (bw tn cc uu r) (bw tn cc uu r).av.length 0 (aX cs a b) [],fun y=> .one {keep:=[0,2,3,4,5,6],lI:=[(6,2),(6,7)],wr:=[0]} (wa (aX cs a b) k (bw tn cc uu r) nm [] c1 c2 c3 c4 0) (.exit 0) (wa y.2 k (bw tn cc uu r) nm y.1 c1 c2 c3 c4 (bw tn cc uu r).av.length)⟩
  | _,_,_=>none
 | _,_,_,_=>none
def IW (S:aO):Env:={P:=Pz,vw:=mA,res:=PS S,ls:=ab8}
theorem ah0 (S:aO) (x:Src):fnT (IW S) 0 sg [.ptr 0 0] [ar x]=(
 let q:=af ao (ae ao S);
 let q1:=Tb.mk [] [] [] false;
 let q2:List V:=[.str [],.str [],.dsl 0 true [],.bool false,.bool false,.bool false,.bool false,.dsl 0 true []];.bind (aU (aX (ae aP x.l) (x.k:Int) x.s) (3:Int)) fun y0=>
 let q6:=List.getD q y0.1.toNat q1;
 let q3:=bw (Tb.name q6) (ae aY (Tb.av q6)) (ae aJ (Tb.uniq q6)) (Tb.root q6);
 let q4:List V:=[.str (Tb.name q3),ab aY (Tb.av q3),ab aJ (Tb.uniq q3),.bool (Tb.root q3)];
 let q5:=ah 65 [(0,pp 0),(2,pp 1),(3,aa y0.1),(4,pp 2),(5,pp 3),(6,aa 0)];
 let q7:=List.length (Tb.av q3);cz 103 [pp 0,aa 3] [ar x] (aa y0.1) [ar y0.2] [0] (.bind PUnit.unit fun _=>cz 7 [] [] (.agg [ab ao S]) [] [] (.ai [0<=y0.1/\y0.1<(S.length:Int),td 4 y0.1 (ae ao S)=(ao
  q6)] (.bind (dQ (aX (ae aP y0.2.l) (y0.2.k:Int) y0.2.s) [[(109:UInt8)],[(110:UInt8)]]) fun y2=>cz 150 [pp 0,.sl 1 0 2 true] [ar y0.2,some ([.str [109],.str [110]],9)] (.str y2.1) [ar y2.2,some ([.str
  [109],.str [110]],9)] [0] (.bind (bq (aX (ae aP y2.2.l) (y2.2.k:Int) y2.2.s) (4:Int)) fun y3=>cz 105 [pp 0,aa 4] [ar y2.2] (.bool y3.1) [ar y3.2] [0] (.bind (bq (aX (ae aP y3.2.l) (y3.2.k:
  Int) y3.2.s) (4:Int)) fun y4=>cz 105 [pp 0,aa 4] [ar y3.2] (.bool y4.1) [ar y4.2] [0] (.bind (bq (aX (ae aP y4.2.l) (y4.2.k:Int) y4.2.s) (4:Int)) fun y5=>cz 105 [pp 0,aa 4] [ar y4.2] (.bool y5.1)
  [ar y5.2] [0] (.bind (bq (aX (ae aP y5.2.l) (y5.2.k:Int) y5.2.s) (4:Int)) fun y6=>
 let q8:List V:=[.str y2.1,.str (Tb.name q3),.sl 4 0 0 false,.bool !y3.1,.bool !y4.1,.bool !y5.1,.bool !y6.1,.sl 5 0 0 false];
 let q9:=aX (ae aP y6.2.l) (y6.2.k:Int) y6.2.s;cz 105 [pp 0,aa 4] [ar y5.2] (.bool y6.1) [ar y6.2] [0] (.bind (pkL q3 q7 0 q9 []) fun y7=> .ai [St.mk q5 [ar y6.2,some (q2,63),some ((ao q6),44),some ([.str
  y2.1,.str (Tb.name q6),.sl 4 0 0 false,.bool !y3.1,.bool !y4.1,.bool !y5.1,.bool !y6.1,.sl 5 0 0 false],63),some ([.aw []],9),some ([.aw []],34)] [0]=St.mk q5 [ar q9,some (q2,63),some (q4,44),some (q8,63),some
  ([.aw []],9),some ([.aw []],34)] [0],aN Pz 1 (blk Pz sg 0) (St.mk q5 [ar q9,some (q2,63),some (q4,44),some (q8,63),some ([.aw []],9),some ([.aw []],34)] [0]) (Ex.exit 0) (St.mk (ah 65 [(0,pp 0),(2,pp
  1),(3,aa y0.1),(4,pp 2),(5,pp 3),(6,aa (↑q7:Int))]) [ar y7.2,some (q2,63),some (q4,44),some ([.str y2.1,.str (Tb.name q3),.sl 4 0 y7.1.length false,.bool !y3.1,.bool !y4.1,.bool !y5.1,.bool !y6.1,.sl 5 0 0
  false],63),some ([.aw (ae encStr y7.1)],9),some ([.aw []],34)] [0])] (.bind (bq (aX (ae aP y7.2.l) (y7.2.k:Int) y7.2.s) (3:Int)) fun y8=>cz 105 [pp 0,aa 3] [ar y7.2] (.bool y8.1) [ar y8.2] [0] (bif
  y8.1 then .bind (ja (aX (ae aP y8.2.l) (y8.2.k:Int) y8.2.s) y0.1) fun y9=>cz 41 [pp 0,aa y0.1] [ar y8.2] (.agg (aE y9.1)) [ar y9.2] [0] (.ai [0=0,0=0,1<=9223372036854775807,48<=140737488355328] (dz
  (.agg [.str y2.1,.str (Tb.name q3),ab encStr y7.1,.bool !y3.1,.bool !y4.1,.bool !y5.1,.bool !y6.1,.dsl 1 false (aE y9.1)]) [ar y9.2] [0])) else dz (.agg [.str y2.1,.str (Tb.name q3),ab encStr y7.1,.bool !y3.1,.bool
  !y4.1,.bool !y5.1,.bool !y6.1,.dsl 0 false []]) [ar y8.2] [0])))))))))):T _):=fz
def aF3 (m:Mon) (x':Src) (os:List Op'):cy:=fun f vs hp=>match vs,hp with
 | [.dsl _ _ cs],[]=>bif Nat.beq f Au then some ⟨fe (af aP cs),fun y=>⟨.ptr 0 0,[ar y],[]⟩⟩ else none
 | [.ptr 0 0],[some ([.dsl _ _ _,.int _ _,.int _ _],_)]=>bif Nat.beq f sg then some ⟨(),fun _=>⟨.agg (hZ m),[ar x'],[0]⟩⟩ else bif Nat.beq f qy then some ⟨(),fun _=>⟨ab aK os,[ar x'],[0]⟩⟩ else none
 | _,_=>none
def IX (m:Mon) (x':Src) (os:List Op'):Env:={P:=Pz,vw:=mA,res:=aF3 m x' os}
theorem ah5 (l:List UInt8) (m:Mon) (x':Src):fnT (IX m x' []) 0 EH [ab aP l] []=(
 let q:V:= .agg [.str (Mon.name m),.str (Mon.table m),ab encStr (Mon.av m),.bool (Mon.gB m),.bool (Mon.ins m),.bool (Mon.del m),.bool (Mon.mod m),ab aE (Mon.aS m)];.bind (fe (af aP (ae aP l))) fun y0
  => cz 39 [ab aP l] [] (pp 0) [ar y0] [] (.bind PUnit.unit fun _=>cz 71 [pp 0] [ar y0] q [ar x'] [0] (dz q [] [])):T _):=fz
theorem ay8 (l:List UInt8) (os:List Op') (x':Src):fnT (IX Mon.zero x' os) 0 EO [ab aP l] []=(
 .bind (fe (af aP (ae aP l))) fun y0=>cz 39 [ab aP l] [] (pp 0) [ar y0] [] (.bind PUnit.unit fun _=>cz 77 [pp 0] [ar y0] (ab aK os) [ar x'] [0] (dz (ab aK os) [] [])):T _):=fz
theorem GB (k:Int) (tb:Tb) (nm:List UInt8) (c1 c2 c3 c4:Bool) (hle:tb.av.length<=1000):∀(n i:Nat) (x:Src) (l:List (List UInt8)) (c:Nat),i+n=tb.av.length->x.OK (c+n*3)->l.length<=i ->
  aT Pz 1 (lp Pz sg 0) (wa x k tb nm l c1 c2 c3 c4 i) (.exit 0) (wa (pkL tb n i x l).2 k tb nm (pkL tb n i x l).1 c1 c2 c3 c4 tb.av.length)
 | 0,i,x,l,c,hi,h,hl=>by
  obtain rfl:i=tb.av.length:=hi;refine bt (Nf x k tb nm l c1 c2 c3 c4 (tb.av.length:Nat)) ?_;simp only [sz];exact ⟨fun h=>ag,fun _=>⟨rfl,rfl⟩⟩
 | n+1,i,x,l,c,hi,h,hl=>by
  have o1:=fx (x:=x) (n:=2) (c:=c+n*3) (h.less ag) ag;have aD:=(oQ tb.av i ag).1;have w1:=cX i;refine bt (Nf x k tb nm l c1 c2 c3 c4 (i:Nat)) ?_;simp only [sz,w1,dZ,db.af];refine ⟨fun _ => ?_,fun h=>ag⟩;rintro y e;have n1:=gy (c:=c+n*3) x 2 (h.less ag) ag;rw [pkL];rw [<- e] at o1 n1 ⊢;clear e;refine ⟨n1,fun hy => ?_,fun hy => ?_⟩
  ·rw [hy,cond_true];have ih:=GB k tb nm c1 c2 c3 c4 hle n (i+1) y.2 (l++[(tb.av.getD i ⟨[],0,0,0,0,0,[],false⟩).name]) c ag o1 (by simp only [List.length_append,List.length_singleton];omega);refine ⟨⟨⟨ag,ag⟩,aD⟩,⟨a8,by rw [cx.length],ag,ag⟩,?_⟩;simp only [wa,Ng,dF,encStr,List.length_append,List.length_singleton,Int.toNat_natCast] at ih ⊢;exact ih
  ·rw [hy,cond_false];exact GB k tb nm c1 c2 c3 c4 hle n (i+1) y.2 l c ag o1 ag
theorem O8 (tb:Tb):∀(k i:Nat) (x:Src) (l:List (List UInt8)),i+k=tb.av.length->(∀n∈l,∃q∈tb.av,n=q.name)->∀n∈(pkL tb k i x l).1,∃q∈tb.av,n=q.name
 | 0,i,x,l,hi,hl=>hl
 | k+1,i,x,l,hi,hl=>by
  rw [pkL];refine O8 tb k (i+1) _ _ ag ?_;cases (bq x 2).1
  ·exact hl
  ·intro n hn;rcases List.mem_append.1 hn with hn | hn
   ·exact hl n hn
   ·rw [List.mem_singleton.1 hn];exact ⟨_,(oQ tb.av i ag).2,rfl⟩
structure jS (t:Nat) (m:Mon):Prop where
 ht:t<3
 tn:m.table=(bD t).name
 nm:m.name∈qR
 cn:∀n∈m.av,∃q∈(bD t).av,n=q.name
 cl:m.av.length<=3
 wc:∀c∈m.aS,lP (bD t) c
 wl:m.aS.length<=1
def SD (r:aF):Prop:=∃m x' t,r=⟨.agg (hZ m),[ar x'],[0]⟩/\jS t m
theorem ah8 {x:Src} {c:Nat} (h:x.OK (c+70)):∃m x' t,au Pz sg [.ptr 0 0] [ar x] ⟨.agg (hZ m),[ar x'],[0]⟩/\jS t m:=by
 suffices hh:∃r,au Pz sg [.ptr 0 0] [ar x] r/\SD r by
  obtain ⟨r,h1,m,x',t,rfl,h2⟩:=hh;exact ⟨m,x',t,h1,h2⟩
 have o0:=dJ (x:=x) (n:=3) (c:=c+67) (h.less ag) ag;have n0:=fD (c:=c+67) x 3 (h.less ag);have ht:=o0.2;generalize Gi:aU x 3=y0 at *;obtain ⟨t,eJ⟩:∃t:Nat,y0.1=t:=⟨y0.1.toNat,ag⟩;have oh:t<3:=ag;have aD:=zf aI y0.1 ht;have hlen:=xU ht;have hX:∀ {q:aZ},gE (df y0.1) q->lP (bD t) q:=fun hq=>by rw [eJ] at hq;exact hq.X oh
 have jH:df y0.1=bD t:=by rw [eJ];rfl
 have LH:∀ {x:Src} {c:Nat},x.OK (c+40)->au Pz oV [.ptr 0 0,.int .i64 y0.1] [ar x] ⟨.agg (aE (ja x y0.1).1),[ar (ja x y0.1).2],[0]⟩/\gE (df y0.1) (ja x y0.1).1:=fun hx=>by
  have:=DU (t:=y0.1) ht hx;exact ⟨this.1,this.2.1⟩
 change List.take 4 (List.drop (y0.1.toNat*4) (ae ao aI))=ao (df y0.1) at aD
 generalize hS:aI=S at *;have hp:au Pz nR [] [] ⟨.agg [ab ao S],[],[]⟩:=hS▸qY;have pH:y0.1<S.length:=by rw [<- hS];exact ht.2
 have hs:S.getD y0.1.toNat ⟨[],[],[],false⟩=df y0.1:=by rw [<- hS]
 rw [jH] at aD hlen hs;have aW6:df y0.1=bD t:=jH;generalize xO:bD t=tb at *;refine kL (E:=IW S) follows named (ah0 S x) ?_;simp only [sz,dZ,bN.af,cH,Gi];rintro y e;have e:y=y0:=e;rw [e];simp only [hs];refine ⟨n0,?_⟩;rintro _ -;refine ⟨hp,⟨⟨ht.1,pH⟩,aD⟩,?_⟩;rintro y2 e2;have o2:=qW (x:=y0.2) (L:=qR) (c:=c+64) (o0.1.less ag) (by simp [qR]);have n2:=x6 (c:=c+64) y0.2 qR true rfl rfl rfl (o0.1.less ag);have e2:y2=dQ y0.2 qR:=e2;rw [<- e2] at o2 n2;clear e2;refine ⟨n2,?_⟩;rintro y3 e3;have o3:=fx (x:=y2.2) (n:=4) (c:=c+61) (o2.1.less ag) ag;have n3:=gy (c:=c+61) y2.2 4 (o2.1.less ag) ag;rw [<- e3] at o3 n3;clear e3;refine ⟨n3,?_⟩;rintro y4 e4;have o4:=fx (x:=y3.2) (n:=4) (c:=c+58) (o3.less ag) ag;have n4:=gy (c:=c+58) y3.2 4 (o3.less ag) ag;rw [<- e4] at o4 n4;clear e4;refine ⟨n4,?_⟩;rintro y5 e5;have o5:=fx (x:=y4.2) (n:=4) (c:=c+55) (o4.less ag) ag;have n5:=gy (c:=c+55) y4.2 4 (o4.less ag) ag;rw [<- e5] at o5 n5;clear e5;refine ⟨n5,?_⟩;rintro y6 e6;have o6:=fx (x:=y5.2) (n:=4) (c:=c+52) (o5.less ag) ag;have n6:=gy (c:=c+52) y5.2 4 (o5.less ag) ag;rw [<- e6] at o6 n6;clear e6;refine ⟨n6,?_⟩;rintro y7 e7;have hl:=GB y0.1 tb y2.1 (!y3.1) (!y4.1) (!y5.1) (!y6.1) ag tb.av.length 0 y6.2 [] (c+43) ag (o6.less ag) (Nat.le_refl _);have a7:=Bw tb tb.av.length 0 y6.2 [] (c+43) ag (o6.less ag) (by simp);have b7:=O8 tb tb.av.length 0 y6.2 [] ag (by simp);rw [<- e7] at hl a7 b7;clear e7;have a72:=a7.2.1;rw [List.length_nil] at a72;refine ⟨⟨a8,.aV hl⟩,?_⟩;rintro y8 e8;have o8:=fx (x:=y7.2) (n:=3) (c:=c+40) (a7.2.2.less ag) ag;have n8:=gy (c:=c+40) y7.2 3 (a7.2.2.less ag) ag;rw [<- e8] at o8 n8;clear e8;refine ⟨n8,fun hy => ?_,fun hy => ?_⟩
 ·rintro y9 e9;have h9:=LH (x:=y8.2) (c:=c) o8;rw [<- e9] at h9;refine ⟨h9.1,aB,⟨⟨y2.1,tb.name,y7.1,!y3.1,!y4.1,!y5.1,!y6.1,[y9.1]⟩,y9.2,t,rfl,?_⟩⟩;exact ⟨oh,by rw [xO],o2.2,by rw [xO];exact b7,by show y7.1.length<=3;omega,by rw [xO];intro q hq;rw [List.mem_singleton.1 hq];exact hX h9.2,Nat.le_refl _⟩
 ·exact ⟨⟨y2.1,tb.name,y7.1,!y3.1,!y4.1,!y5.1,!y6.1,[]⟩,y8.2,t,rfl,⟨oh,by rw [xO],o2.2,by rw [xO];exact b7,by show y7.1.length<=3;omega,by simp,by simp⟩⟩
theorem ah6 (l:List UInt8) (h:l.length<=1048576):∃m t,au Pz EH [ab aP l] [] ⟨.agg (hZ m),[],[]⟩/\jS t m:=by
 have h0:(fe l).OK (0+70):=(BW l h).less ag;obtain ⟨m,x',t,h1,h2⟩:=ah8 h0;refine ⟨m,t,?_,h2⟩;refine a6 (ah5 l m x') ?_;simp only [sz,pP.af];rintro y rfl;refine ⟨HJ l,?_⟩;rintro _ -;exact ⟨h1,aH⟩
theorem ay9 (l:List UInt8) (h:l.length<=1048576):au Pz EO [ab aP l] [] ⟨ab aK (fo (fe l)).1,[],[]⟩/\(∀o∈(fo (fe l)).1,fq o)/\(fo (fe l)).1.length<=5:=by
 have h0:(fe l).OK (0+825):=(BW l h).less ag;have hs:=G6 h0;refine ⟨?_,hs.1,hs.2.1⟩;refine a6 (ay8 l (fo (fe l)).1 (fo (fe l)).2) ?_;simp only [sz,pP.af];rintro y rfl;refine ⟨HJ l,?_⟩;rintro _ -;exact ⟨OC h0,aH⟩
structure dv where
 id:Int
 bJ:Rw
 new:Rw
def cU (c:dv):List V:=[.int .i64 c.id,.int .i64 c.bJ.id,ab aG c.bJ.cells,.int .i64 c.new.id,ab aG c.new.cells]
theorem vE:Lay cU 5:=⟨ag,fun _=>rfl,fun x y h=>by
 obtain ⟨b,⟨c,d⟩,⟨e,f⟩⟩:=x;obtain ⟨b',⟨c',d'⟩,⟨e',f'⟩⟩:=y;simp only [cU,ab,List.cons.injEq,V.int.injEq,V.dsl.injEq,true_and,and_true] at h;obtain ⟨rfl,rfl,⟨_,h4⟩,rfl,_,h6⟩:=h;obtain rfl:=bP.inj _ _ h4;obtain rfl:=bP.inj _ _ h6;rfl,fun _=>rfl⟩
abbrev Cr:Nat:=77
abbrev xb:Nat:=30
abbrev nP:Nat:=86
abbrev EG:Nat:=84
abbrev EF:Nat:=88
abbrev ux:Nat:=173
abbrev KQ:Nat:=172
abbrev Eg:Nat:=87
abbrev EA:Nat:=170
abbrev Av:Nat:=137
abbrev uS:Nat:=89
abbrev EV:Nat:=174
abbrev Eb:Nat:=175
abbrev mL:Nat:=235
abbrev KS:Nat:=118
abbrev Ey:Nat:=82
abbrev Eo:Nat:=85
abbrev uF:Nat:=169
abbrev Er:Nat:=171
abbrev uG:Nat:=124
def qO (id:Int) (a b:Rw):Int:=bif decide (id<1) then 0 else bif a.id==0&&b.id==id then 1 else bif a.id==id&&b.id==0 then 2 else bif a.id==id&&b.id==id then 3 else 0
def ky (t:Tb) (m:Mon) (r:Rw):Rw:=bif r.id==0 || !dL t r m.aS then ⟨0,[]⟩ else m6 t r m.av
def bY (m:Mon) (u:dv):Bool:=bif u.bJ.id==0 then m.ins else bif u.new.id==0 then m.del else m.mod
def kD (t:Tb) (m:Mon) (c:bE):dv:=⟨c.id,ky t m c.bJ,ky t m c.new⟩
def oG (t:Tb) (m:Mon) (k:Int) (c:bE):Bool:=c.eA==k&&(!l7 (kD t m c).bJ (kD t m c).new&&bY m (kD t m c))
def gu (t:Tb) (m:Mon) (k:Int) (l:List bE):List dv:=(l.filter (oG t m k)).map (kD t m)
def yg:cy:=fun f vs hp=>match vs,hp with
 | [.str _],[]=>bif Nat.beq f KS then some ⟨true,fun y=>⟨.bool y,[],[]⟩⟩ else none
 | [.sl 0 0 _ _],[some ([.str s],T)]=>bif Nat.beq f sv then some ⟨decide (s.length<=40),fun y=>⟨.bool y,[some ([.str s],T)],[]⟩⟩ else none
 | [.sl 0 0 _ _],[some ([.int _ a,.int _ b],T)]=>bif Nat.beq f KQ then some ⟨(bif a != 0 then a else b),fun y=>⟨.int .i64 y,[some ([.int .i64 a,.int .i64 b],T)],[]⟩⟩ else none
 | [.dsl _ _ cs],[]=>bif Nat.beq f sv then some ⟨true,fun y=>⟨.bool y,[],[]⟩⟩ else bif Nat.beq f Al then some ⟨true,fun y=>⟨.bool y,[],[]⟩⟩ else bif Nat.beq f Ey then some ⟨decide (((af bU cs).length:Int)<=4096),fun y=>⟨.bool y,[],[]⟩⟩ else tp f vs hp
 | [.dsl _ _ _,.str _],[]=>bif Nat.beq f Er then some ⟨false,fun y=>⟨.bool y,[],[]⟩⟩ else bif Nat.beq f uG then some ⟨(),fun _=>⟨.int .i64 (-1),[],[]⟩⟩ else none
 | [.agg [.dsl _ _ _],.str _],[]=>bif Nat.beq f Av then some ⟨(0:Int),fun y=>⟨.int .i64 y,[],[]⟩⟩ else none
 | [.agg [.str tn,.dsl _ _ cc,.dsl _ _ uu,.bool q],.str nm],[]=>bif Nat.beq f Ar then some ⟨kT (bw tn cc uu q) nm,fun y=>⟨.tup [.agg (aY y.1),.bool y.2],[],[]⟩⟩ else none
 | [.agg [.str _,.dsl _ _ _,.dsl _ _ _,.bool _],.dsl _ _ _],[]=>bif Nat.beq f ux then some ⟨(),fun _=>⟨.int .i64 0,[],[]⟩⟩ else bif Nat.beq f sc then some ⟨(),fun _=>⟨.int .i64 0,[],[]⟩⟩ else none
 | [.agg [.dsl _ _ _]],[]=>bif Nat.beq f ET then some ⟨true,fun y=>⟨.bool y,[],[]⟩⟩ else none
 | [.int _ i,.agg [.int _ a,.dsl _ _ cs],.agg [.int _ b,.dsl _ _ ds]],[]=>bif Nat.beq f EA then some ⟨qO i ⟨a,af aG cs⟩ ⟨b,af aG ds⟩,fun y=>⟨.int .i64 y,[],[]⟩⟩ else none
 | [.int _ n,.int _ lo,.int _ hi],[]=>bif Nat.beq f Aw then some ⟨bC n lo hi,fun y=>⟨.bool y,[],[]⟩⟩ else none
 | [.agg [.str _,.dsl _ _ _,.dsl _ _ _,.bool _],.agg [.int _ _,.dsl _ _ _]],[]=>bif Nat.beq f xd then some ⟨true,fun y=>⟨.bool y,[],[]⟩⟩ else none
 | [.agg [.str tn,.dsl _ _ cc,.dsl _ _ uu,.bool q],.agg [.int _ d,.dsl _ _ cs],.str nm],[]=>bif Nat.beq f Aj then some ⟨dw (bw tn cc uu q) ⟨d,af aG cs⟩ nm,fun y=>⟨ab aj y,[],[]⟩⟩ else none
 | [.agg [.str tn,.dsl _ _ cc,.dsl _ _ uu,.bool q],.agg [.int _ d,.dsl _ _ cs],.dsl _ _ ls],[]=>bif Nat.beq f Aq then some ⟨dL (bw tn cc uu q) ⟨d,af aG cs⟩ (af aE ls),fun y=>⟨.bool y,[],[]⟩⟩ else bif Nat.beq f mL then some ⟨m6 (bw tn cc uu q) ⟨d,af aG cs⟩ (af encStr ls),fun y=>⟨.agg (aq y),[],[]⟩⟩ else none
 | [.agg [.str a,.str b,.dsl _ _ cs,.bool p1,.bool p2,.bool p3,.bool p4,.dsl _ _ ws],.agg [.str tn,.dsl _ _ cc,.dsl _ _ uu,.bool q],.agg [.int _ d,.dsl _ _ rs]],[]=>bif Nat.beq f EV then some ⟨ky (bw tn cc uu q) (j0 a b cs p1 p2 p3 p4 ws) ⟨d,af aG rs⟩,fun y=>⟨.agg (aq y),[],[]⟩⟩ else none
 | [.agg [.str a,.str b,.dsl _ _ cs,.bool p1,.bool p2,.bool p3,.bool p4,.dsl _ _ ws],.agg [.int _ i,.int _ d,.dsl _ _ rs,.int _ e,.dsl _ _ qs]],[]=>bif Nat.beq f Eb then some ⟨bY (j0 a b cs p1 p2 p3 p4 ws) ⟨i,⟨d,af aG rs⟩,⟨e,af aG qs⟩⟩,fun y=>⟨.bool y,[],[]⟩⟩ else none
 | _,_=>tp f vs hp
def eB:Env:={P:=Pz,vw:=j3,res:=yg}
theorem ZO (i:Int) (a b:Rw):fnT eB 0 EA [.int .i64 i,.agg (aq a),.agg (aq b)] []=(
 bif decide (i<1) then dz (aa 0) [] [] else bif a.id==0 then bif b.id==i then dz (aa 1) [] [] else bif a.id==i then bif b.id==0 then dz (aa 2) [] [] else bif a.id==i then bif b.id==i then dz (aa 3) [] [] else dz (aa 0)
  [] [] else dz (aa 0) [] [] else bif a.id==i then bif b.id==i then dz (aa 3) [] [] else dz (aa 0) [] [] else dz (aa 0) [] [] else bif a.id==i then bif b.id==0 then dz (aa 2) [] [] else bif a.id==i then bif b.id==i then
  dz (aa 3) [] [] else dz (aa 0) [] [] else dz (aa 0) [] [] else bif a.id==i then bif b.id==i then dz (aa 3) [] [] else dz (aa 0) [] [] else dz (aa 0) [] []:T _):=kz
theorem SV (m:Mon) (u:dv):fnT eB 0 Eb [.agg (hZ m),.agg (cU u)] []=(
 bif Rw.id (dv.bJ u)==0 then dz (.bool (Mon.ins m)) [] [] else bif Rw.id (dv.new u)==0 then dz (.bool (Mon.del m)) [] [] else dz (.bool (Mon.mod m)) [] []:T _):=kz
theorem aK7 (t:Tb) (m:Mon) (r:Rw):fnT eB 0 EV [.agg (hZ m),.agg (ao t),.agg (aq r)] []=(
 let q:=bw t.name (ae aY t.av) (ae aJ t.uniq) t.root;
 let q1:=Rw.mk r.id (af aG (ae aG r.cells));
 let q2:V:= .agg [aa 0,.dsl 0 false []];bif r.id==0 then dz q2 [] [] else .bind (dL q q1 (af aE (ae aE (Mon.aS m)))) fun y0=> .ai [au (Env.P eB) 62 [.agg (ao t),.agg (aq r),ab aE (Mon.aS m)] []
  (aF.mk (.bool y0) [] [])] (bif !y0 then dz q2 [] [] else .bind (m6 q q1 (af encStr (ae encStr (Mon.av m)))) fun y1=> .ai [au (Env.P eB) 235 [.agg (ao t),.agg (aq r),ab encStr (Mon.av m)] [] (aF.mk (.agg
  (aq y1)) [] [])] (dz (.agg (aq y1)) [] [])):T _):=kz
def yT (t:Tb) (r:Rw) (l:List (List UInt8)):St:=⟨ah 31 [(3,.ptr 0 0),(4,.ptr 1 0),(6,.ptr 2 0),(7,.ptr 3 0),(13,ab encStr l),(14,.int .i64 l.length),(15,.int .i64 0)],[gU t,ir r,some ([.int .i64 0,.dsl 0 true []],eR),some ([.int .i64 r.id,.dsl 0 true []],eR)],[]⟩
def H8 (t:Tb) (r:Rw) (l:List (List UInt8)) (o:List aQ) (i:Int):St:=⟨ah 31 [(3,.ptr 0 0),(4,.ptr 1 0),(6,.ptr 2 0),(7,.ptr 3 0),(13,ab encStr l),(14,.int .i64 l.length),(15,.int .i64 i)],[gU t,ir r,some ([.int .i64 0,.dsl 0 true []],eR),some ([.int .i64 r.id,.sl 4 0 o.length false],eR),some ([.aw (ae aG o)],ix)],[]⟩
def ap1:Ex->Kp:=fun ex=>match ex with
 | .normal=>{keep:=[3,4,6,7,13,14,15],perm:=some ([0,1,2,3,5],[4])}
 | _=>{keep:=[6,7]}
def ao8:Ex->Kp:=fun ex=>match ex with
 | .normal=>{keep:=[3,4,6,7,13,14,15],perm:=some ([0,1,2,3,6],[4])}
 | _=>{keep:=[6,7]}
theorem Pv (t:Tb) (r:Rw) (l:List (List UInt8)):bp eB 0 ap1 (lp Pz mL 0) (yT t r l)=(
 let q:=List.getD (af encStr (ae encStr l)) 0 [];
 let q1:=(l.length:Int);bif decide ((0:Int)<q1) then .ai [(0:Int)<=0/\(0:Int)<q1,List.take 1 (List.drop 0 (ae encStr l))=[.str q]] (.bind (dw (bw t.name (ae aY t.av) (ae aJ t.uniq) t.root) (Rw.mk
  r.id (af aG (ae aG r.cells))) q) fun y0=> .ai [au (Env.P eB) 125 [.agg (ao t),.agg (aq r),.str q] [] (aF.mk (ab aj y0) [] [])] (.bind (af aj (ae aj y0)) fun y1=> .ai [au (Env.P eB) 201
  [ab aj y0] [] (aF.mk (ab aj y1) [] [])] (.ai [true=true,0=0,1<=9223372036854775807,24<=140737488355328] (nz (ah 31 [(3,pp 0),(4,pp 1),(6,pp 2),(7,pp 3),(13,ab encStr l),(14,aa q1),(15,aa 1)]) [some
  (ao t,44),some ((aq r),53),some ([aa 0,.dsl 0 true []],53),some ([aa r.id,.sl 4 0 1 false],53),some ([.aw [ab aj y1]],32)])))) else .done (Ex.exit 0,St.mk (ah 31 [(6,pp 0),(7,pp 1)]) [some ([aa 0,.dsl 0
  true []],53),some ([aa r.id,.dsl 0 true []],53)] []):T _):=kz
theorem Pa (t:Tb) (r:Rw) (l:List (List UInt8)) (o:List aQ) (i:Int):bp eB 0 ao8 (lp Pz mL 0) (H8 t r l o i)=(
 let q:=List.getD (af encStr (ae encStr l)) i.toNat [];
 let q1:=(l.length:Int);bif decide (i<q1) then .ai [0<=i/\i<q1,td 1 i (ae encStr l)=[.str q]] (.bind (dw (bw t.name (ae aY t.av) (ae aJ t.uniq) t.root) (Rw.mk r.id (af aG (ae aG r.cells)))
  q) fun y0=> .ai [au (Env.P eB) 125 [.agg (ao t),.agg (aq r),.str q] [] (aF.mk (ab aj y0) [] [])] (.bind (af aj (ae aj y0)) fun y1=> .ai [au (Env.P eB) 201 [ab aj y0] [] (aF.mk (ab aj y1) []
  [])] (.ai [0=0,List.length (ae aG o)=o.length*1,o.length+1<=9223372036854775807,(o.length+1)*24<=140737488355328] (nz (ah 31 [(3,pp 0),(4,pp 1),(6,pp 2),(7,pp 3),(13,ab encStr l),(14,aa q1),(15,
  aa (wz (i+1)))]) [some (ao t,44),some ((aq r),53),some ([aa 0,.dsl 0 true []],53),some ([aa r.id,.sl 4 0 (o.length+1) false],53),some ([.aw (ae aG o++[ab aj y1])],32)])))) else .done (Ex.exit 0,
  St.mk (ah 31 [(6,pp 0),(7,pp 1)]) [some ([aa 0,.dsl 0 true []],53),some ([aa r.id,.sl 2 0 o.length false],53),some ([.aw (ae aG o)],32)] []):T _):=kz
def H9 (r:Rw) (o:List aQ):St:=⟨ah 31 [(6,.ptr 0 0),(7,.ptr 1 0)],[some ([.int .i64 0,.dsl 0 true []],eR),some ([.int .i64 r.id,.sl 2 0 o.length false],eR),some ([.aw (ae aG o)],ix)],[]⟩
def Sm (t:Tb) (r:Rw) (l:List (List UInt8)):Env:={P:=Pz,vw:=j3,res:=yg,ls:=fun id _=>match id with
 | 0=>some ⟨(),fun _=> .one {keep:=[3,4,6,7,13,14,15]} (yT t r l) (.exit 0) (H9 r (l.map (dw t r)))⟩
 | _=>none}
theorem aB9 (t:Tb) (r:Rw) (l:List (List UInt8)):fnT (Sm t r l) 0 mL [.agg (ao t),.agg (aq r),ab encStr l] []=(
 let q:Hp:=[some (ao t,44),some ((aq r),53),some ([aa 0,.dsl 0 true []],53),some ([aa r.id,.dsl 0 true []],53)];
 let q1:=ah 31 [(3,pp 0),(4,pp 1),(6,pp 2),(7,pp 3),(13,ab encStr l),(14,aa (l.length:Int)),(15,aa 0)];
 let q2:=List.map (dw t r) l;.bind PUnit.unit fun _=> .ai [St.mk q1 q []=St.mk q1 q [],aN Pz 0 (blk Pz mL 0) (St.mk q1 q []) (Ex.exit 0) (St.mk (ah 31 [(6,pp 0),(7,pp 1)]) [some ([aa 0,.dsl 0 true []],53),
  some ([aa r.id,.sl 2 0 (List.length q2) false],53),some ([.aw (ae aG q2)],32)] [])] (dz (.agg [aa r.id,ab aG q2]) [] []):T _):=fz
def Sn (t:Tb) (r:Rw):Env:={P:=Pz,vw:=j3,res:=yg,ls:=fun id _=>match id with
 | 0=>some ⟨(),fun _=> .one {keep:=[3,4,6,7,13,14,15]} (yT t r []) (.exit 0) ⟨ah 31 [(6,.ptr 0 0),(7,.ptr 1 0)],[some ([.int .i64 0,.dsl 0 true []],eR),some ([.int .i64 r.id,.dsl 0 true []],eR)],[]⟩⟩
 | _=>none}
theorem aB8 (t:Tb) (r:Rw):fnT (Sn t r) 0 mL [.agg (ao t),.agg (aq r),ab encStr []] []=(
 let q:Hp:=[some (ao t,44),some ((aq r),53),some ([aa 0,.dsl 0 true []],53),some ([aa r.id,.dsl 0 true []],53)];
 let q1:=ah 31 [(3,pp 0),(4,pp 1),(6,pp 2),(7,pp 3),(13,.dsl 0 false []),(14,aa 0),(15,aa 0)];.bind PUnit.unit fun _=> .ai [St.mk q1 q []=St.mk q1 q [],aN Pz 0 (blk Pz mL 0) (St.mk q1 q []) (Ex.exit 0)
  (St.mk (ah 31 [(6,pp 0),(7,pp 1)]) [some ([aa 0,.dsl 0 true []],53),some ([aa r.id,.dsl 0 true []],53)] [])] (dz (.agg [aa r.id,.dsl 0 false []]) [] []):T _):=fz
def Cg (S:aO) (m:Mon) (k:Int) (l:List bE) (o:List dv) (i:Int):St:=⟨ah 65 [(3,.ptr 0 0),(4,.ptr 1 0),(7,.int .i64 k),(8,.sl 2 0 o.length false),(17,ab bU l),(18,.int .i64 l.length),(19,.int .i64 i)],[some (hZ m,Cp),c8 S,some ([.aw (ae cU o)],Cr)],[]⟩
def aq4:Ex->Kp:=fun ex=>match ex with
 | .normal=>{keep:=[3,4,7,8,17,18,19],eu:=[8]}
 | _=>{keep:=[8],eu:=[8]}
theorem Rm (S:aO) (m:Mon) (k:Int) (l:List bE) (o:List dv) (i:Int):bp eB 0 aq4 (lp Pz uS 0) (Cg S m k l o i)=(
 let q:=List.getD (af bU (ae bU l)) i.toNat (bE.mk (0:Int) (0:Int) (Rw.mk (0:Int) []) (Rw.mk (0:Int) []));
 let q1:List V:=[.str (Mon.name m),.str (Mon.table m),ab encStr (Mon.av m),.bool (Mon.gB m),.bool (Mon.ins m),.bool (Mon.del m),.bool (Mon.mod m),ab aE (Mon.aS m)];
 let q2:=List.getD (af ao (ae ao S)) k.toNat (Tb.mk [] [] [] false);
 let q8:=(l.length:Int);
 let q3:=ah 65 [(3,pp 0),(4,pp 1),(7,aa k),(8,.sl 2 0 o.length false),(17,ab bU l),(18,aa q8),(19,aa (wz (i+1)))];
 let q4:=j0 (Mon.name m) (Mon.table m) (ae encStr (Mon.av m)) (Mon.gB m) (Mon.ins m) (Mon.del m) (Mon.mod m) (ae aE (Mon.aS m));
 let q5:Hp:=[some (q1,63),c8 S,some ([.aw (ae cU o)],77)];
 let q6:=bw (Tb.name q2) (ae aY (Tb.av q2)) (ae aJ (Tb.uniq q2)) (Tb.root q2);
 let q7:List Prop:=[0<=k/\k<(S.length:Int),td 4 k (ae ao S)=ao q2];
 let q9:=Rw.cells (bE.bJ q);
 let bK:=Rw.cells (bE.new q);
 let bS:=Rw.id (bE.bJ q);
 let cF:=Rw.id (bE.new q);bif decide (i<q8) then .ai [0<=i/\i<q8,td 6 i (ae bU l)=[aa (bE.eA q),aa (bE.id q),aa bS,ab aG q9,aa cF,ab aG bK]] (bif bE.eA q != k then nz q3 q5 else .ai q7
  (.bind (ky q6 q4 (Rw.mk bS (af aG (ae aG q9)))) fun y0=>
 let dq:=Rw.mk y0.id (af aG (ae aG y0.cells));.ai [au (Env.P eB) 174 [.agg q1,.agg (ao q2),.agg [aa bS,ab aG q9]] [] (aF.mk (.agg (aq y0)) [] [])] (.ai q7 (.bind (ky q6 q4 (Rw.mk cF (af aG
  (ae aG bK)))) fun y1=>
 let dS:=Rw.mk y1.id (af aG (ae aG y1.cells));.ai [au (Env.P eB) 174 [.agg q1,.agg (ao q2),.agg [aa cF,ab aG bK]] [] (aF.mk (.agg (aq y1)) [] [])] (.bind (l7 dq dS) fun y2=> .ai [au (Env.P
  eB) 164 [.agg (aq y0),.agg (aq y1)] [] (aF.mk (.bool y2) [] [])] (bif !y2 then .bind (bY q4 (dv.mk (bE.id q) dq dS)) fun y3=> .ai [au (Env.P eB) 175 [.agg q1,.agg [aa (bE.id q),aa y0.id,ab aG y0.cells,
  aa y1.id,ab aG y1.cells]] [] (aF.mk (.bool y3) [] [])] (bif y3 then .ai [0=0,List.length (ae cU o)=o.length*5,o.length+1<=9223372036854775807,(o.length+1)*72<=140737488355328] (nz (ah 65 [(3,pp 0),
  (4,pp 1),(7,aa k),(8,.sl 2 0 (o.length+1) false),(17,ab bU l),(18,aa q8),(19,aa (wz (i+1)))]) [some (q1,63),c8 S,some ([.aw (ae cU o++[aa (bE.id q),aa y0.id,ab aG y0.cells,aa y1.id,ab
  aG y1.cells])],77)]) else nz q3 q5) else nz q3 q5)))))) else .done (Ex.exit 0,St.mk (ah 65 [(8,.sl 0 0 o.length false)]) [some ([.aw (ae cU o)],77)] []):T _):=kz
def aF8 (k:Int):cy:=fun f vs hp=>match vs,hp with
 | [.agg [.dsl _ _ _],.str _],[]=>bif Nat.beq f Av then some ⟨(),fun _=>⟨.int .i64 k,[],[]⟩⟩ else none
 | _,_=>yg f vs hp
def Sv (S:aO) (m:Mon) (k:Int) (l:List bE) (o:List dv):Env:={P:=Pz,vw:=j3,res:=aF8 k,ls:=fun id _=>match id with
 | 0=>some ⟨(),fun _=> .one {keep:=[3,4,7,8,17,18,19],eu:=[8]} (Cg S m k l [] 0) (.exit 0) ⟨ah 65 [(8,.sl 0 0 o.length false)],[some ([.aw (ae cU o)],Cr)],[]⟩⟩
 | _=>none}
theorem upT (S:aO) (m:Mon) (k:Int) (l:List bE) (o:List dv):fnT (Sv S m k l o) 0 uS [.agg (hZ m),.agg [ab ao S],ab bU l] []=(
 let q:Hp:=[some ([.str (Mon.name m),.str (Mon.table m),ab encStr (Mon.av m),.bool (Mon.gB m),.bool (Mon.ins m),.bool (Mon.del m),.bool (Mon.mod m),ab aE (Mon.aS m)],63),c8 S,some ([.aw []],77)];
 let q1:=ah 65 [(3,pp 0),(4,pp 1),(7,aa k),(8,.sl 2 0 0 false),(17,ab bU l),(18,aa (l.length:Int)),(19,aa 0)];.bind PUnit.unit fun _=>cz 137 [.agg [ab ao S],.str (Mon.table m)] [] (aa k) [] [] (.bind
  PUnit.unit fun _=> .ai [St.mk q1 q []=St.mk q1 q [],aN Pz 0 (blk Pz uS 0) (St.mk q1 q []) (Ex.exit 0) (St.mk (ah 65 [(8,.sl 0 0 o.length false)]) [some ([.aw (ae cU o)],77)] [])] (dz (ab cU o) [] [])):T _):=fz
theorem TD (S:aO) (c:bE):fnT eB 0 Eg [.agg [ab ao S],.agg (bU c)] []=(
 let q:=List.getD (af ao (ae ao S)) (Int.toNat (bE.eA c)) (Tb.mk [] [] [] false);
 let q1:=aq (bE.new c);
 let q2:=(S.length:Int);.bind (qO (bE.id c) (Rw.mk (Rw.id (bE.bJ c)) (af aG (ae aG (Rw.cells (bE.bJ c))))) (Rw.mk (Rw.id (bE.new c)) (af aG (ae aG (Rw.cells (bE.new c)))))) fun y0=> .ai [au
  (Env.P eB) 170 [aa (bE.id c),.agg (aq (bE.bJ c)),.agg q1] [] (aF.mk (aa y0) [] [])] (bif y0==0 then dz (.bool false) [] [] else .bind (bC (bE.eA c) (0:Int) (wz (q2 - 1))) fun y1=> .ai [au (Env.P eB) 45 [aa
  (bE.eA c),aa 0,aa (wz (q2 - 1))] [] (aF.mk (.bool y1) [] [])] (bif !y1 then dz (.bool false) [] [] else .ai [0<=bE.eA c/\bE.eA c<q2,List.take 4 (List.drop (Int.toNat (bE.eA c)*4) (ae ao S))=ao q] (bif
  Rw.id (bE.bJ c)==0 then bif Rw.id (bE.new c)==0 then dz (.bool true) [] [] else .bind true fun y2=> .ai [au (Env.P eB) 60 [.agg (ao q),.agg q1] [] (aF.mk (.bool y2) [] [])] (dz (.bool y2) [] []) else .bind true fun y3
  => .ai [au (Env.P eB) 60 [.agg (ao q),.agg (aq (bE.bJ c))] [] (aF.mk (.bool y3) [] [])] (bif y3 then bif Rw.id (bE.new c)==0 then dz (.bool true) [] [] else .bind true fun y4=> .ai [au (Env.P eB) 60 [.agg (ao
  q),.agg q1] [] (aF.mk (.bool y4) [] [])] (dz (.bool y4) [] []) else dz (.bool false) [] [])))):T _):=fz
def BL (k:Int):cy:=fun f vs hp=>match vs,hp with
 | [.agg [.dsl _ _ _],.str _],[]=>bif Nat.beq f Av then some ⟨(),fun _=>⟨.int .i64 k,[],[]⟩⟩ else none
 | [.agg [.dsl _ _ _],.agg [.int _ _,.int _ _,.int _ _,.dsl _ _ _,.int _ _,.dsl _ _ _]],[]=>bif Nat.beq f Eg then some ⟨true,fun y=>⟨.bool y,[],[]⟩⟩ else none
 | [.agg [.int _ _,.int _ _,.int _ _,.dsl _ _ _,.int _ _,.dsl _ _ _],.ptr 0 0],[B]=>bif Nat.beq f nP then some ⟨false,fun y=>⟨.bool y,[B],[]⟩⟩ else none
 | [.dsl _ _ _,.fn g [.ptr 0 0]],[B]=>bif Nat.beq f uF&&Nat.beq g nP then some ⟨(),fun _=>⟨.int .i64 (-1),[B],[]⟩⟩ else bif Nat.beq f Eo&&Nat.beq g nP then some ⟨false,fun y=>⟨.bool y,[B],[]⟩⟩ else none
 | [.agg [.str _,.str _,.dsl _ _ _,.bool _,.bool _,.bool _,.bool _,.dsl _ _ _]],[]=>bif Nat.beq f EG then some ⟨true,fun y=>⟨.bool y,[],[]⟩⟩ else none
 | [.agg [.dsl _ _ _],.agg [.str _,.str _,.dsl _ _ _,.bool _,.bool _,.bool _,.bool _,.dsl _ _ _]],[]=>bif Nat.beq f EF then some ⟨(0:Int),fun y=>⟨.int .i64 y,[],[]⟩⟩ else none
 | [.agg [.str a,.str b,.dsl _ _ cs,.bool p1,.bool p2,.bool p3,.bool p4,.dsl _ _ ws],.agg [.dsl _ _ ss],.dsl _ _ ls],[]=>bif Nat.beq f uS then some ⟨gu ((af ao ss).getD k.toNat .zero) (j0 a b cs p1 p2 p3 p4 ws) k (af bU ls),fun y=>⟨ab cU y,[],[]⟩⟩ else none
 | _,_=>yg f vs hp
def ln (k:Int):Env:={P:=Pz,vw:=j3,res:=BL k}
theorem ai7 (S:aO) (c:bE):fnT (ln 0) 0 nP [.agg (bU c),.ptr 0 0] [c8 S]=(
 .bind true fun y0=>cz 87 [.agg [ab ao S],.agg [aa (bE.eA c),aa (bE.id c),aa (Rw.id (bE.bJ c)),ab aG (Rw.cells (bE.bJ c)),aa (Rw.id (bE.new c)),ab aG (Rw.cells (bE.new c))]] [] (.bool y0) [] [] (dz
  (.bool !y0) [c8 S] []):T _):=fz
def HU (S:aO) (l:List bE) (i:Int):St:=⟨ah 19 [(0,ab bU l),(1,.fn nP [.ptr 0 0]),(7,.int .i64 l.length),(8,.int .i64 i)],[c8 S],[]⟩
theorem MD (S:aO) (l:List bE) (i:Int):bp (ln 0) 1 kr (lp Pz uF 0) (HU S l i)=(
 let q:=List.getD (af bU (ae bU l)) i.toNat (bE.mk (0:Int) (0:Int) (Rw.mk (0:Int) []) (Rw.mk (0:Int) []));
 let q1:=(l.length:Int);bif decide (i<q1) then .ai [0<=i/\i<q1,td 6 i (ae bU l)=[aa (bE.eA q),aa (bE.id q),aa (Rw.id (bE.bJ q)),ab aG (Rw.cells (bE.bJ q)),aa (Rw.id (bE.new q)),ab aG
  (Rw.cells (bE.new q))]] (.bind false fun y0=>cz 86 [.agg [aa (bE.eA q),aa (bE.id q),aa (Rw.id (bE.bJ q)),ab aG (Rw.cells (bE.bJ q)),aa (Rw.id (bE.new q)),ab aG (Rw.cells (bE.new q))],pp 0] [c8 S] (.bool
  y0) [c8 S] [] (bif y0 then .done (Ex.ret,St.mk (ah 19 [(4,aa i)]) [c8 S] []) else nz (ah 19 [(0,ab bU l),(1,.fn 86 [pp 0]),(7,aa q1),(8,aa (wz (i+1)))]) [c8 S])) else .done (Ex.exit 0,St.mk (ah 19 []) [c8
  S] []):T _):=kz
def R8 (S:aO) (l:List bE):Env:={P:=Pz,vw:=j3,res:=BL 0,ls:=fun id _=>match id with
 | 0=>some ⟨(),fun _=> .one {keep:=[0,1,7,8]} (HU S l 0) (.exit 0) ⟨ah 19 [],[c8 S],[]⟩⟩
 | _=>none}
theorem Y8 (S:aO) (l:List bE):fnT (R8 S l) 0 uF [ab bU l,.fn nP [.ptr 0 0]] [c8 S]=(
 let q:=ah 19 [(0,ab bU l),(1,.fn 86 [pp 0]),(7,aa (l.length:Int)),(8,aa 0)];.bind PUnit.unit fun _=> .ai [St.mk q [c8 S] []=St.mk q [c8 S] [],aN Pz 1 (blk Pz uF 0) (St.mk q [c8 S] []) (Ex.exit 0)
  (St.mk (ah 19 []) [c8 S] [])] (dz (aa (-1:Int)) [c8 S] []):T _):=fz
theorem Tq (S:aO) (l:List bE):fnT (ln 0) 0 Eo [ab bU l,.fn nP [.ptr 0 0]] [c8 S]=(
 .bind PUnit.unit fun _=>cz 169 [ab bU l,.fn 86 [pp 0]] [c8 S] (aa (-1:Int)) [c8 S] [] (dz (.bool false) [c8 S] []):T _):=fz
theorem ZC (l:List bE):fnT (ln 0) 0 Ey [ab bU l] []=(
 dz (.bool (decide ((l.length:Int)<=4096))) [] []:T _):=fz
def HW (l:List (List UInt8)) (t:List UInt8) (i:Int):St:=⟨ah 19 [(0,ab encStr l),(1,.str t),(7,.int .i64 l.length),(8,.int .i64 i)],[],[]⟩
theorem MN (l:List (List UInt8)) (t:List UInt8) (i:Int):bp (ln 0) 0 kr (lp Pz uG 0) (HW l t i)=(
 let q:=(l.length:Int);
 let q1:=af encStr (ae encStr l);bif decide (i<q) then .ai [0<=i/\i<q,td 1 i (ae encStr l)=[.str (List.getD q1 i.toNat [])]] (bif t==List.getD q1 i.toNat [] then .done (Ex.ret,St.mk (ah 19 [(4,aa i)]) [] [])
  else nz (ah 19 [(0,ab encStr l),(1,.str t),(7,aa q),(8,aa (wz (i+1)))]) []) else .done (Ex.exit 0,St.mk (ah 19 []) [] []):T _):=kz
def Sb (l:List (List UInt8)) (t:List UInt8):Env:={P:=Pz,vw:=j3,res:=BL 0,ls:=fun id _=>match id with
 | 0=>some ⟨(),fun _=> .one {keep:=[0,1,7,8]} (HW l t 0) (.exit 0) ⟨ah 19 [],[],[]⟩⟩
 | _=>none}
theorem ZE (l:List (List UInt8)) (t:List UInt8):fnT (Sb l t) 0 uG [ab encStr l,.str t] []=(
 let q:=ah 19 [(0,ab encStr l),(1,.str t),(7,aa (l.length:Int)),(8,aa 0)];.bind PUnit.unit fun _=> .ai [St.mk q [] []=St.mk q [] [],aN Pz 0 (blk Pz uG 0) (St.mk q [] []) (Ex.exit 0) (St.mk (ah 19 []) []
  [])] (dz (aa (-1:Int)) [] []):T _):=fz
theorem UP (l:List (List UInt8)) (t:List UInt8):fnT (ln 0) 0 Er [ab encStr l,.str t] []=(
 .bind PUnit.unit fun _=>cz 124 [ab encStr l,.str t] [] (aa (-1:Int)) [] [] (dz (.bool false) [] []):T _):=fz
def HO (t:Tb) (l:List (List UInt8)) (i:Int):St:=⟨ah 24 [(2,.ptr 0 0),(9,ab encStr l),(10,.int .i64 l.length),(11,.int .i64 i)],[gU t],[]⟩
def al0:Ex->Kp:=fun ex=>match ex with
 | .normal=>{keep:=[2,9,10,11]}
 | .ret=>{keep:=[4]}
 | _=>{keep:=[]}
theorem JT (t:Tb) (l:List (List UInt8)) (i:Int):bp (ln 0) 0 al0 (lp Pz ux 0) (HO t l i)=(
 let q:=List.getD (af encStr (ae encStr l)) i.toNat [];
 let q1:=(l.length:Int);bif decide (i<q1) then .ai [0<=i/\i<q1,td 1 i (ae encStr l)=[.str q]] (.bind (kT (bw t.name (ae aY t.av) (ae aJ t.uniq) t.root) q) fun y0=>cz 123 [.agg (ao t),.str q] []
  (.tup [.agg (aY y0.1),.bool y0.2]) [] [] (bif !y0.2 then .done (Ex.ret,St.mk (ah 24 [(4,aa 11)]) [] []) else nz (ah 24 [(2,pp 0),(9,ab encStr l),(10,aa q1),(11,aa (wz (i+1)))]) [some (ao t,44)])) else .done
  (Ex.exit 0,St.mk (ah 24 []) [] []):T _):=kz
def RV (t:Tb) (l:List (List UInt8)):Env:={P:=Pz,vw:=j3,res:=BL 0,ls:=fun id _=>match id with
 | 0=>some ⟨(),fun _=> .one {keep:=[2,9,10,11]} (HO t l 0) (.exit 0) ⟨ah 24 [],[],[]⟩⟩
 | _=>none}
theorem TL (t:Tb) (l:List (List UInt8)):fnT (RV t l) 0 ux [.agg (ao t),ab encStr l] []=(
 let q:=ah 24 [(2,pp 0),(9,ab encStr l),(10,aa (l.length:Int)),(11,aa 0)];
 let q1:Hp:=[some (ao t,44)];.bind PUnit.unit fun _=> .ai [St.mk q q1 []=St.mk q q1 [],aN Pz 0 (blk Pz ux 0) (St.mk q q1 []) (Ex.exit 0) (St.mk (ah 24 []) [] [])] (dz (aa 0) [] []):T _):=fz
theorem ah3 (m:Mon):fnT eB 0 EG [.agg (hZ m)] []=(
 let q:Hp:=[some ([.str (Mon.table m)],9)];.bind true fun y0=> .ai [au (Env.P eB) 118 [.str (Mon.name m)] [] (aF.mk (.bool y0) [] [])] (bif y0 then .bind (decide (List.length (Mon.table m)<=40)) fun y1=> .ai [au (Env.P
  eB) 122 [.sl 0 0 1 true] q (aF.mk (.bool y1) q [])] (bif y1 then bif decide ((↑(List.length (Mon.av m)):Int)<=6) then .bind true fun y2=> .ai [au (Env.P eB) 122 [ab encStr (Mon.av m)] [] (aF.mk (.bool y2) [] [])] (bif
  y2 then .bind true fun y3=> .ai [au (Env.P eB) 43 [ab aE (Mon.aS m)] [] (aF.mk (.bool y3) [] [])] (dz (.bool y3) [] []) else dz (.bool false) [] []) else dz (.bool false) [] [] else dz (.bool false) [] []) else dz (.bool
  false) [] []):T _):=fz
theorem ah1 (S:aO) (m:Mon) (k:Int):fnT (ln k) 0 EF [.agg [ab ao S],.agg (hZ m)] []=(
 let q:=List.getD (af ao (ae ao S)) k.toNat (Tb.mk [] [] [] false);
 let q1:List Prop:=[0<=k/\k<(S.length:Int),td 4 k (ae ao S)=ao q];.bind PUnit.unit fun _=>cz 137 [.agg [ab ao S],.str (Mon.table m)] [] (aa k) [] [] (bif decide (k<0) then dz (aa 10) [] [] else .bind
  false fun y1=>cz 171 [ab encStr (Mon.av m),.str [95,117,117,105,100]] [] (.bool y1) [] [] (bif y1 then dz (aa 11) [] [] else .ai q1 (.bind PUnit.unit fun _=>cz 173 [.agg (ao q),ab encStr (Mon.av m)] [] (aa 0) []
  [] (.ai q1 (.bind PUnit.unit fun _=>cz 46 [.agg (ao q),ab aE (Mon.aS m)] [] (aa 0) [] [] (.bind (0:Int) fun y4=>cz 172 [.sl 0 0 2 true] [some ([aa 0,aa 0],3)] (aa y4) [some ([aa 0,aa 0],3)] [] (dz (aa y4)
  [] []))))))):T _):=fz
theorem ai9 (S:aO) (m:Mon) (l:List bE) (k:Int):fnT (ln k) 0 xb [.agg [ab ao S],.agg (hZ m),ab bU l] []=(
 let q:List V:=[.str (Mon.name m),.str (Mon.table m),ab encStr (Mon.av m),.bool (Mon.gB m),.bool (Mon.ins m),.bool (Mon.del m),.bool (Mon.mod m),ab aE (Mon.aS m)];
 let q1:V:= .tup [.dsl 0 false [],aa 1];
 let q2:=af bU (ae bU l);.bind (decide ((↑(List.length q2):Int)<=4096)) fun y0=>cz 82 [ab bU l] [] (.bool y0) [] [] (bif !y0 then dz (.tup [.dsl 0 false [],aa 2]) [] [] else .bind true fun y1=>cz 83 [.agg [ab
  ao S]] [] (.bool y1) [] [] (bif !y1 then dz q1 [] [] else .bind true fun y2=>cz 84 [.agg q] [] (.bool y2) [] [] (bif !y2 then dz q1 [] [] else .bind false fun y3=>cz 85 [ab bU l,.fn 86 [pp 0]] [c8 S] (.bool y3) [c8 S] []
  (bif y3 then dz q1 [] [] else .bind (0:Int) fun y4=>cz 88 [.agg [ab ao S],.agg q] [] (aa y4) [] [] (bif y4 != 0 then dz (.tup [.dsl 0 false [],aa y4]) [] [] else .bind (gu (List.getD (af ao (ae ao S)) k.toNat
  (Tb.mk [] [] [] false)) (j0 (Mon.name m) (Mon.table m) (ae encStr (Mon.av m)) (Mon.gB m) (Mon.ins m) (Mon.del m) (Mon.mod m) (ae aE (Mon.aS m))) k q2) fun y5=>cz 89 [.agg q,.agg [ab ao S],ab bU l] [] (ab
  cU y5) [] [] (dz (.tup [ab cU y5,aa 0]) [] [])))))):T _):=fz
structure nr (c:bE):Prop where
 t:0<=c.eA/\c.eA<3
 i:1<=c.id/\c.id<1000000
 k:qO c.id c.bJ c.new≠0
 o:c.bJ.id=0\/(c.bJ.id=c.id/\dh (bD c.eA.toNat) c.bJ)
 w:c.new.id=0\/(c.new.id=c.id/\dh (bD c.eA.toNat) c.new)
theorem ZP (i:Int) (a b:Rw):au Pz EA [.int .i64 i,.agg (aq a),.agg (aq b)] [] ⟨.int .i64 (qO i a b),[],[]⟩:=by
 have ht:=ZO i a b;unfold qO;cases h1:decide (i<1) <;> cases h2:(a.id==0) <;> cases h3:(b.id==i) <;> cases h4:(a.id==i) <;> cases h5:(b.id==0) <;>
  simp only [h1,h2,h3,h4,h5,cond_true,cond_false,Bool.and_true,Bool.and_false] at ht ⊢ <;>
  exact iG (E:=eB) follows named ht (by simp) aH
theorem SW (m:Mon) (u:dv):au Pz Eb [.agg (hZ m),.agg (cU u)] [] ⟨.bool (bY m u),[],[]⟩:=by
 have ht:=SV m u;unfold bY;cases h1:(u.bJ.id==0) <;> cases h2:(u.new.id==0) <;>
  simp only [h1,h2,cond_true,cond_false] at ht ⊢ <;>
  exact iG (E:=eB) follows named ht (by simp) aH
theorem Pc {t:Tb} {r:Rw} (hr:iX t r) (l:List (List UInt8)) (hl:l.length<=1048576):∀(k i:Nat),i+k=l.length->1<=i->aT Tryz.prog 0 (lp Tryz.prog mL 0) (H8 t r l ((l.take i).map (dw t r)) i) (.exit 0) (H9 r (l.map (dw t r)))
 | 0,i,hi,_=>by
  obtain rfl:i=l.length:=hi;rw [List.take_length];refine bZ (E:=eB) follows named (Pa t r l (l.map (dw t r)) (l.length:Nat)) ?_;simp only [ba,T.WP,All,bh,bl,bg];exact ⟨fun h=>by omega,fun _=>⟨rfl,rfl⟩⟩
 | k+1,i,hi,h1=>by
  have aD:=cx.at l [] i 1 (by omega) rfl;have ih:=Pc hr l hl k (i+1) (by omega) (by omega);have w1:IntKind.i64.wrap ((i:Int)+1)=((i+1:Nat):Int):=bW (by omega);have cD:((l.take i).map (dw t r)).length=i:=by rw [List.length_map,List.length_take];omega
  have hc:=DP hr (l.getD i []);have hd:=hr.rU (l.getD i []);refine bZ (E:=eB) follows named (Pa t r l ((l.take i).map (dw t r)) (i:Nat)) ?_;simp only [ba,T.WP,All,bh,bl,bg,w1,cx.af,bP.af,bu.af,bP.length,cH,Int.toNat_natCast,cD];refine ⟨fun _=>⟨⟨aB,aD⟩,?_⟩,fun h=>by omega⟩;rintro y rfl;refine ⟨hc,?_⟩;rintro z rfl;refine ⟨DS _ hd,aB,?_⟩;rw [fU [] (show i<l.length by omega),List.map_append,List.map_singleton] at ih;simp only [H8,dF,aG,encS,ab,List.length_append,List.length_singleton,cD] at ih ⊢;exact ih
theorem aD6 {t:Tb} {r:Rw} (hr:iX t r) (l:List (List UInt8)) (hl:l.length<=1048576) (h0:0<l.length):aT Pz 0 (lp Pz mL 0) (yT t r l) (.exit 0) (H9 r (l.map (dw t r))):=by
 have aD:=cx.at l [] 0 1 ag rfl;rw [Nat.zero_mul] at aD
 have ih:=Pc hr l hl (l.length - 1) 1 ag ag;have hc:=DP hr (l.getD 0 []);have hd:=hr.rU (l.getD 0 []);refine bt (Pv t r l) ?_;simp only [sz,cx.af,bP.af,bu.af,cH];refine ⟨fun _=>⟨⟨aB,aD⟩,?_⟩,fun h=>ag⟩;rintro y rfl;refine ⟨hc,?_⟩;rintro z rfl;refine ⟨DS _ hd,⟨a8,a8,ag,ag⟩,?_⟩;rw [show l.take 1=[l.getD 0 []] by
  have:=fU (l:=l) [] (show 0<l.length from h0);simpa using this] at ih
 exact ih
theorem aD7 (t:Tb) (r:Rw):aT Pz 0 (lp Pz mL 0) (yT t r []) (.exit 0) ⟨ah 31 [(6,.ptr 0 0),(7,.ptr 1 0)],[some ([.int .i64 0,.dsl 0 true []],eR),some ([.int .i64 r.id,.dsl 0 true []],eR)],[]⟩:=by
 refine bt (Pv t r []) ?_;simp only [sz];exact ⟨fun h=>by simp at h,fun _=>⟨rfl,rfl⟩⟩
theorem aA3 {t:Tb} {r:Rw} (hr:iX t r) (l:List (List UInt8)) (hl:l.length<=1048576):au Pz mL [.agg (ao t),.agg (aq r),ab encStr l] [] ⟨.agg (aq (m6 t r l)),[],[]⟩:=by
 by_cases h0:l=[]
 ·subst h0;refine a6 (aB8 t r) ?_;simp only [sz];rintro _ -;exact ⟨⟨a8,.aV (aD7 t r)⟩,aH⟩
 ·have dy:=aD6 hr l hl (List.length_pos_iff.2 h0);refine a6 (aB9 t r l) ?_;simp only [sz];rintro _ -;exact ⟨⟨a8,.aV dy⟩,aH⟩
theorem Qp {t:Tb} {m:Mon} {r:Rw} (hG:lV t) (hr:r.id=0\/dh t r) (hc:∀c∈m.aS,lP t c) (hw:m.aS.length<=1048576) (hl:m.av.length<=1048576):au Pz EV [.agg (hZ m),.agg (ao t),.agg (aq r)] [] ⟨.agg (aq (ky t m r)),[],[]⟩:=by
 refine a6 (aK7 t m r) ?_;unfold ky;simp only [sz,bP.af,cp.af,cx.af,cH];refine ⟨fun h => ?_,fun h => ?_⟩
 ·rw [(dT:(r.id==0)=true)];exact aH
 ·have hn:r.id≠0:=dT;rw [(dT:(r.id==0)=false)];have hR:dh t r:=by rcases hr with h | h;exact absurd h hn;exact h
  rintro y e;have e:y=dL t r m.aS:=e;rw [Bool.false_or,<- e];refine ⟨by rw [e];exact af5 hG hR hc hw,fun h => ?_,fun h => ?_⟩
  ·rw [(dT:y=false)];exact aH
  ·rw [(dT:y=true)];rintro z rfl;exact ⟨aA3 (hR.rt hG) _ hl,aH⟩
theorem aK8 {t:Tb} {m:Mon} {r:Rw} (hG:lV t) (hr:r.id=0\/dh t r) (hl:m.av.length<=1048576):fv (ky t m r):=by
 unfold ky;cases h:(r.id==0)
 ·have hn:r.id≠0:=dT;have hR:dh t r:=by rcases hr with h | h;exact absurd h hn;exact h
  cases h2:dL t r m.aS
  ·exact ⟨by simp,by simp⟩
  ·refine ⟨by simpa [m6] using hl,fun d hd => ?_⟩;simp only [Bool.not_true,Bool.or_self,cond_false,m6] at hd;obtain ⟨n,_,rfl⟩:=List.mem_map.1 hd;exact (hR.rt hG).rU n
 ·exact ⟨by simp,by simp⟩
theorem aU0 (t:Tb) (m:Mon) (k:Int) (l:List bE) (c:bE):gu t m k (l++[c])=gu t m k l++(bif oG t m k c then [kD t m c] else []):=by
 unfold gu;rw [List.filter_append,List.map_append];congr 1;cases h:oG t m k c <;> simp [h]
theorem Ro (t:Tb) (m:Mon) (k:Int) (l:List bE):(gu t m k l).length<=l.length:=by
 unfold gu;rw [List.length_map];exact List.length_filter_le _ _
structure De (t:Nat) (m:Mon):Prop where
 ht:t<3
 cl:m.av.length<=1048576
 wc:∀c∈m.aS,lP (bD t) c
 wl:m.aS.length<=1048576
theorem Rn {m:Mon} {t:Nat} (hm:De t m) (l:List bE) (hl:l.length<=1048576) (hc:∀c∈l,nr c):∀(k i:Nat),i+k=l.length ->
  aT Tryz.prog 0 (lp Tryz.prog uS 0) (Cg aI m t l (gu (bD t) m t (l.take i)) i) (.exit 0) ⟨ah 65 [(8,.sl 0 0 (gu (bD t) m t l).length false)],[some ([.aw (ae cU (gu (bD t) m t l))],Cr)],[]⟩
 | 0,i,hi=>by
  obtain rfl:i=l.length:=hi
  rw [List.take_length]
  refine bt (Rm aI m t l (gu (bD t) m t l) (l.length:Nat)) ?_
  simp only [ba,T.WP,All,bh,bl,bg]
  exact ⟨fun h=>ag,fun _=>⟨rfl,rfl⟩⟩
 | k+1,i,hi=>by
  have bA:i<l.length:=ag
  have aD:=pQ.at l (⟨0,0,⟨0,[]⟩,⟨0,[]⟩⟩:bE) i 6 bA rfl
  have eU:=bN.at aI ⟨[],[],[],false⟩ t 4 (by have:=hm.ht;show t<3;omega) rfl
  have ih:=Rn hm l hl hc k (i+1) ag
  have w1:IntKind.i64.wrap ((i:Int)+1)=((i+1:Nat):Int):=bW ag
  have hle:=Ro (bD t) m t (l.take i)
  rw [List.length_take] at hle
  rw [fU (⟨0,0,⟨0,[]⟩,⟨0,[]⟩⟩:bE) bA,aU0] at ih
  have eC:=hc _ (bH (⟨0,0,⟨0,[]⟩,⟨0,[]⟩⟩:bE) bA)
  have hG:=jM hm.ht
  have ht:=hm.ht
  generalize hq:l.getD i (⟨0,0,⟨0,[]⟩,⟨0,[]⟩⟩:bE)=c at *
  have W2:(c.eA==(t:Int))=true->(c.bJ.id=0\/dh (bD t) c.bJ)/\(c.new.id=0\/dh (bD t) c.new):=fun h=>by
   have h:c.eA=(t:Int):=by simpa using h
   have h1:=eC.o
   have h2:=eC.w
   rw [h,Int.toNat_natCast] at h1 h2
   exact ⟨h1.imp id fun h=>h.2,h2.imp id fun h=>h.2⟩
  refine bt (Rm aI m t l (gu (bD t) m t (l.take i)) (i:Nat)) ?_
  simp only [ba,T.WP,All,bh,bl,bg,w1,pQ.af,bN.af,bP.af,vE.length,Int.toNat_natCast,hq,cH]
  refine ⟨fun _=>⟨⟨aB,aD⟩,fun h => ?_,fun h => ?_⟩,fun h=>ag⟩
  ·rw [show oG (bD t) m t c=false by unfold oG;rw [show (c.eA==(t:Int))=false by simpa using h];rfl,cond_false,List.append_nil] at ih
   exact ih
  ·have hb:(c.eA==(t:Int))=true:=by simpa using h
   obtain ⟨ho,hw⟩:=W2 hb
   have xC:j0 m.name m.table (ae encStr m.av) m.gB m.ins m.del m.mod (ae aE m.aS)=m:=by unfold j0;rw [cx.af,cp.af]
   have h1:=Qp hG ho hm.wc hm.wl hm.cl
   have h2:=Qp hG hw hm.wc hm.wl hm.cl
   have hS:=aK8 (m:=m) hG ho hm.cl
   have h3:=Qk (ky (bD t) m c.bJ) (ky (bD t) m c.new) hS
   have h4:=SW m (kD (bD t) m c)
   have hlen:(t:Int)<(aI.length:Int):=by show (t:Int)<3;omega
   have ep:aI.getD t ⟨[],[],[],false⟩=bD t:=rfl
   simp only [xC,ep]
   refine ⟨⟨⟨ag,hlen⟩,eU⟩,?_⟩
   rintro y1 e1
   have e1:y1=ky (bD t) m c.bJ:=e1
   subst e1
   refine ⟨h1,⟨⟨ag,hlen⟩,eU⟩,?_⟩
   rintro y2 e2
   have e2:y2=ky (bD t) m c.new:=e2
   subst e2
   refine ⟨h2,?_⟩
   rintro y3 e3
   have e3:y3=l7 (ky (bD t) m c.bJ) (ky (bD t) m c.new):=e3
   have Gb:oG (bD t) m t c=(!y3&&bY m (kD (bD t) m c)):=by rw [e3];unfold oG;rw [hb];rfl
   rw [<- e3] at h3
   rw [Gb] at ih
   refine ⟨h3,fun h => ?_,fun h => ?_⟩
   ·have h:y3=false:=by simpa using h
    rw [h,Bool.not_false,Bool.true_and] at ih
    rintro y4 e4
    have e4:y4=bY m (kD (bD t) m c):=e4
    rw [<- e4] at ih h4
    refine ⟨h4,fun h => ?_,fun h => ?_⟩
    ·rw [h,cond_true] at ih
     refine ⟨aB,?_⟩
     simp only [Cg,dF,cU,kD,ab,List.length_append,List.length_singleton] at ih ⊢
     exact ih
    ·rw [show y4=false by simpa using h,cond_false,List.append_nil] at ih
     exact ih
   ·rw [show y3=true by simpa using h,Bool.not_true,Bool.false_and,cond_false,List.append_nil] at ih
    exact ih
theorem Q3 {t:Nat} (ht:t<3):au Pz Av [.agg [ab ao aI],.str (bD t).name] [] ⟨.int .i64 t,[],[]⟩:=by
 have:t=0\/t=1\/t=2:=ag;rcases this with rfl | rfl | rfl
 ·exact jV (n:=1000) (d:=30) kz
 ·exact jV (n:=1000) (d:=30) kz
 ·exact jV (n:=1000) (d:=30) kz
theorem aj6 {n:List UInt8} (h:n∈qR):au Pz KS [.str n] [] ⟨.bool true,[],[]⟩:=by
 have:n=[109]\/n=[110]:=by simpa [qR] using h
 rcases this with rfl | rfl
 ·exact jV (n:=1000) (d:=30) kz
 ·exact jV (n:=1000) (d:=30) kz
theorem VS:au Pz KQ [.sl 0 0 2 true] [some ([.int .i64 0,.int .i64 0],ld)] ⟨.int .i64 0,[some ([.int .i64 0,.int .i64 0],ld)],[]⟩:=
 au.Bf 3 (cM:=[.dsl 2 false [.int .i64 0,.int .i64 0]]) rfl (jV (n:=1000) (d:=30) kz) rfl
theorem aT8 {m:Mon} {t:Nat} (hm:De t m) (hn:m.table=(bD t).name) (l:List bE) (hl:l.length<=1048576) (hc:∀c∈l,nr c):
  au Pz uS [.agg (hZ m),.agg [ab ao aI],ab bU l] [] ⟨ab cU (gu (bD t) m t l),[],[]⟩:=by
 have dy:=Rn hm l hl hc l.length 0 ag;have lC:=Q3 hm.ht;rw [<- hn] at lC;refine a6 (upT aI m t l (gu (bD t) m t l)) ?_;simp only [sz];rintro _ -;refine ⟨lC,?_⟩;rintro _ -;exact ⟨⟨a8,.aV dy⟩,aH⟩
theorem TE {c:bE} (h:nr c):au Pz Eg [.agg [ab ao aI],.agg (bU c)] [] ⟨.bool true,[],[]⟩:=by
 obtain ⟨t,ht⟩:∃t:Nat,c.eA=t:=⟨c.eA.toNat,by have:=h.t;omega⟩;have oh:t<3:=by have:=h.t;omega
 have hG:=jM oh;have eU:=bN.at aI ⟨[],[],[],false⟩ t 4 (by show t<3;omega) rfl;have w1:wz (((aI.length:Nat):Int) - 1)=2:=by decide
 have ho:=h.o;have hw:=h.w;rw [ht,Int.toNat_natCast] at ho hw;have hR:∀ {r:Rw},r.id≠0->(r.id=0\/(r.id=c.id/\dh (bD t) r))->au Pz xd [.agg (ao (bD t)),.agg (aq r)] [] ⟨.bool true,[],[]⟩:=fun Yq hr=>by
  rcases hr with hr | ⟨h1,h2⟩
  ·exact absurd hr Yq
  ·exact aI1 h2 (Nat.le_trans hG.n ag) hG.mx (by rw [h1];exact h.i) (aR7 oh)
 have hlen:(t:Int)<(aI.length:Int):=by show (t:Int)<3;omega
 refine a6 (TD aI c) ?_;simp only [sz,w1,bP.af,bN.af,ht,Int.toNat_natCast];rintro y0 e0;have e0:y0=qO c.id c.bJ c.new:=e0;refine ⟨by rw [e0];exact ZP _ _ _,fun h0=>absurd (e0.symm.trans h0) h.k,fun _ => ?_⟩;rintro y1 e1;have hy:y1=true:=by rw [e1];unfold bC;rw [Bool.and_eq_true,decide_eq_true_eq,decide_eq_true_eq];omega
 refine ⟨by rw [e1];exact rE _ _ _,fun h=>by rw [hy] at h;simp at h,fun _=>⟨⟨⟨ag,hlen⟩,eU⟩,fun h1=>⟨fun h2=>aH,fun h2 => ?_⟩,fun h1 => ?_⟩⟩
 ·rintro _ rfl;exact ⟨hR h2 hw,aH⟩
 ·rintro _ rfl;refine ⟨hR h1 ho,fun _=>⟨fun h2=>aH,fun h2 => ?_⟩,fun h=>by simp at h⟩;rintro _ rfl;exact ⟨hR h2 hw,aH⟩
theorem ai8 {c:bE} (h:nr c):au Pz nP [.agg (bU c),.ptr 0 0] [c8 aI] ⟨.bool false,[c8 aI],[]⟩:=by
 refine a6 (ai7 aI c) ?_;simp only [sz];rintro _ rfl;exact ⟨TE h,aH⟩
theorem ME {l:List bE} (hl:l.length<=1048576) (h:∀c∈l,nr c):∀(k i:Nat),i+k=l.length->aT Pz 1 (lp Pz uF 0) (HU aI l i) (.exit 0) ⟨ah 19 [],[c8 aI],[]⟩
 | 0,i,hi=>by
  obtain rfl:i=l.length:=hi;refine bt (MD aI l (l.length:Nat)) ?_;simp only [sz];exact ⟨fun h=>ag,fun _=>⟨rfl,rfl⟩⟩
 | k+1,i,hi=>by
  have aD:=pQ.at l (⟨0,0,⟨0,[]⟩,⟨0,[]⟩⟩:bE) i 6 ag rfl;have ih:=ME hl h k (i+1) ag;have w1:=cX i;refine bt (MD aI l (i:Nat)) ?_;simp only [sz,w1,pQ.af,Int.toNat_natCast];refine ⟨fun _=>⟨⟨aB,aD⟩,?_⟩,fun h=>ag⟩;rintro y rfl;exact ⟨ai8 (h _ (bH (⟨0,0,⟨0,[]⟩,⟨0,[]⟩⟩:bE) ag)),fun h=>by simp at h,fun _=>ih⟩
theorem Y9 {l:List bE} (hl:l.length<=1048576) (h:∀c∈l,nr c):au Pz uF [ab bU l,.fn nP [.ptr 0 0]] [c8 aI] ⟨.int .i64 (-1),[c8 aI],[]⟩:=by
 have dy:=ME hl h l.length 0 ag;refine a6 (Y8 aI l) ?_;simp only [sz];rintro _ -;exact ⟨⟨a8,.aV dy⟩,aH⟩
theorem Ts {l:List bE} (hl:l.length<=1048576) (h:∀c∈l,nr c):au Pz Eo [ab bU l,.fn nP [.ptr 0 0]] [c8 aI] ⟨.bool false,[c8 aI],[]⟩:=by
 refine a6 (Tq aI l) ?_;simp only [sz];rintro _ -;exact ⟨Y9 hl h,aH⟩
theorem ZD (l:List bE) (hl:l.length<=4096):au Tryz.prog Ey [ab bU l] [] ⟨.bool true,[],[]⟩:=by
 refine iG (E:=ln 0) follows named (ZC l) (by simp) ?_;simp only [T.WP];rw [decide_eq_true (show (l.length:Int)<=4096 by omega)];exact ⟨rfl,rfl,by simp⟩
theorem MO {l:List (List UInt8)} {t:List UInt8} (hl:l.length<=1048576) (h:t∉l):∀(k i:Nat),i+k=l.length->aT Pz 0 (lp Pz uG 0) (HW l t i) (.exit 0) ⟨ah 19 [],[],[]⟩
 | 0,i,hi=>by
  obtain rfl:i=l.length:=hi;refine bt (MN l t (l.length:Nat)) ?_;simp only [sz];exact ⟨fun h=>ag,fun _=>⟨rfl,rfl⟩⟩
 | k+1,i,hi=>by
  have aD:=cx.at l [] i 1 ag rfl;have ih:=MO hl h k (i+1) ag;have w1:=cX i;have hm:l.getD i []∈l:=bH [] ag;refine bt (MN l t (i:Nat)) ?_;simp only [sz,w1,cx.af,Int.toNat_natCast];refine ⟨fun _=>⟨⟨aB,aD⟩,fun h1 => ?_,fun _=>ih⟩,fun h=>ag⟩;exfalso;first
  | exact h (h1▸hm)
  | exact h ((eq_of_beq h1)▸hm)
theorem UQ {l:List (List UInt8)} {t:List UInt8} (hl:l.length<=1048576) (h:t∉l):au Pz Er [ab encStr l,.str t] [] ⟨.bool false,[],[]⟩:=by
 have dy:=MO hl h l.length 0 ag;have h1:au Pz uG [ab encStr l,.str t] [] ⟨.int .i64 (-1),[],[]⟩:=by
  refine a6 (ZE l t) ?_;simp only [sz];rintro _ -;exact ⟨⟨a8,.aV dy⟩,aH⟩
 refine a6 (UP l t) ?_;simp only [sz];rintro _ -;exact ⟨h1,aH⟩
theorem JU {t:Tb} {l:List (List UInt8)} (ht:t.av.length<=1048576) (hl:l.length<=1048576) (h:∀n∈l,(kT t n).2=true):∀(k i:Nat),i+k=l.length->aT Tryz.prog 0 (lp Tryz.prog ux 0) (HO t l i) (.exit 0) ⟨ah 24 [],[],[]⟩
 | 0,i,hi=>by
  obtain rfl:i=l.length:=hi;refine bZ (E:=ln 0) follows named (JT t l (l.length:Nat)) ?_;simp only [ba,T.WP,All,bh,bl,bg];exact ⟨fun h=>by omega,fun _=>⟨rfl,rfl⟩⟩
 | k+1,i,hi=>by
  have aD:=cx.at l [] i 1 (by omega) rfl;have ih:=JU ht hl h k (i+1) (by omega);have w1:IntKind.i64.wrap ((i:Int)+1)=((i+1:Nat):Int):=bW (by omega);have hn:=h _ (bH (d:=[]) (show i<l.length by omega));have eW:=No t (l.getD i []) ht;refine bZ (E:=ln 0) follows named (JT t l (i:Nat)) ?_;simp only [ba,T.WP,All,bh,bl,bg,w1,cx.af,Int.toNat_natCast,cH];refine ⟨fun _=>⟨⟨aB,aD⟩,?_⟩,fun h=>by omega⟩;rintro y e;rw [<- e] at eW hn;exact ⟨eW,fun h=>by rw [hn] at h;simp at h,fun _=>ih⟩
theorem TM {t:Tb} {l:List (List UInt8)} (ht:t.av.length<=1048576) (hl:l.length<=1048576) (h:∀n∈l,(kT t n).2=true):au Pz ux [.agg (ao t),ab encStr l] [] ⟨.int .i64 0,[],[]⟩:=by
 have dy:=JU ht hl h l.length 0 ag;refine a6 (TL t l) ?_;simp only [sz];rintro _ -;exact ⟨⟨a8,.aV dy⟩,aH⟩
theorem aM4 (l:List (List UInt8)) (hl:l.length<=1048576) (h:∀x∈l,x.length<=40):au Pz sv [ab encStr l] [] ⟨.bool true,[],[]⟩:=by
 refine a6 (Qy l) ?_;simp only [sz,cx.af];rintro y rfl;refine ⟨J7 l hl,?_,rfl,by simp⟩;refine congrArg V.bool ?_;have:¬0<=fidx (fun t:List UInt8=>decide (40<t.length)) l 0:=fun h0=>by
  obtain ⟨x,hx,h2⟩:=sw.1 h0;have:=h x hx;have h2:40<x.length:=iu;omega
 rw [decide_eq_false this];rfl
theorem jS.g {t:Nat} {m:Mon} (h:jS t m):De t m:=⟨h.ht,by have:=h.cl;omega,h.wc,by have:=h.wl;omega⟩
theorem jS.named {t:Nat} {m:Mon} (h:jS t m):∀n∈m.av,(kT (bD t) n).2=true:=fun n hn=>by
 obtain ⟨q,hq,rfl⟩:=h.cn n hn;have:=(jM h.ht).pl q hq;unfold kT;rw [decide_eq_true this.1];rfl
theorem jS.uu {t:Nat} {m:Mon} (h:jS t m):([95,117,117,105,100]:List UInt8)∉m.av:=fun hu=>by
 obtain ⟨q,hq,e⟩:=h.cn _ hu;have ht:=h.ht;have:∀q∈(bD t).av,q.name≠[95,117,117,105,100]:=by
  have:t=0\/t=1\/t=2:=ag;rcases this with rfl | rfl | rfl <;> decide
 exact this q hq e.symm
theorem aR8 {t:Nat} (ht:t<3):(bD t).name.length<=40:=by
 have:t=0\/t=1\/t=2:=ag;rcases this with rfl | rfl | rfl <;> decide
theorem ah4 {t:Nat} {m:Mon} (h:jS t m):au Tryz.prog EG [.agg (hZ m)] [] ⟨.bool true,[],[]⟩:=by
 have cd:=h.cl;have gQ:=h.wl;have hs:=Qx m.table;have om:m.table.length<=40:=by rw [h.tn];exact aR8 h.ht
 rw [decide_eq_true om] at hs;have og:=aM4 m.av (by omega) fun x hx=>by
  obtain ⟨q,hq,rfl⟩:=h.cn x hx;exact Bj h.ht q hq
 have ga:=Uy (fun c hc=>(h.wc c hc).i) (show m.aS.length<=8 by omega);refine iG (E:=eB) follows named (ah3 m) (by simp) ?_;simp only [ba,T.WP,All,bh,bl,bg];rintro y0 rfl;refine ⟨aj6 h.nm,fun _ => ?_,fun h=>by simp at h⟩;rintro y1 e1;have e1:y1=true:=e1.trans (decide_eq_true om);subst e1;refine ⟨hs,fun _=>⟨fun _ => ?_,fun h=>by omega⟩,fun h=>by simp at h⟩;rintro y2 rfl;refine ⟨og,fun _ => ?_,fun h=>by simp at h⟩;rintro y3 rfl;exact ⟨ga,⟨rfl,rfl,by simp⟩⟩
theorem ah2 {t:Nat} {m:Mon} (h:jS t m):au Pz EF [.agg [ab ao aI],.agg (hZ m)] [] ⟨.int .i64 0,[],[]⟩:=by
 have cd:=h.cl;have gQ:=h.wl;have ht:=h.ht;have hG:=jM ht;have eU:=bN.at aI ⟨[],[],[],false⟩ t 4 (by show t<3;omega) rfl;have hlen:(t:Int)<(aI.length:Int):=by show (t:Int)<3;omega
 have lC:=Q3 ht;rw [<- h.tn] at lC;have eC:=Uw (bD t) m.aS (Nat.le_trans hG.n ag) ag;rw [K2 fun c cd=>(h.wc c cd).n] at eC;have W7:=TM (t:=bD t) (Nat.le_trans hG.n ag) ag h.named;refine a6 (ah1 aI m t) ?_;simp only [sz,bN.af,Int.toNat_natCast];rintro _ -;refine ⟨lC,fun h=>ag,fun _ => ?_⟩;rintro _ rfl;refine ⟨UQ ag h.uu,fun h=>by simp at h,fun _=>⟨⟨⟨ag,hlen⟩,eU⟩,?_⟩⟩;rintro _ -;refine ⟨W7,⟨⟨ag,hlen⟩,eU⟩,?_⟩;rintro _ -;refine ⟨eC,?_⟩;rintro _ rfl;exact ⟨VS,aH⟩
theorem GC {t:Nat} {m:Mon} (h:jS t m) (l:List bE) (hl:l.length<=4096) (hc:∀c∈l,nr c):au Tryz.prog xb [.agg [ab ao aI],.agg (hZ m),ab bU l] [] ⟨.tup [ab cU (gu (bD t) m t l),.int .i64 0],[],[]⟩:=by
 have xC:j0 m.name m.table (ae encStr m.av) m.gB m.ins m.del m.mod (ae aE m.aS)=m:=by unfold j0;rw [cx.af,cp.af]
 have hu:=aT8 h.g h.tn l (by omega) hc;refine iG (E:=ln t) follows named (ai9 aI m l t) (by simp) ?_;simp only [ba,T.WP,All,bg,bN.af,pQ.af,Int.toNat_natCast,xC];rintro y0 e0;have e0:y0=true:=e0.trans (decide_eq_true (show (l.length:Int)<=4096 by omega));subst e0;refine ⟨ZD l hl,fun h=>by simp at h,fun _ => ?_⟩;rintro _ rfl;refine ⟨aK1,fun h=>by simp at h,fun _ => ?_⟩;rintro _ rfl;refine ⟨ah4 h,fun h=>by simp at h,fun _ => ?_⟩;rintro _ rfl;refine ⟨Ts (by omega) hc,fun h=>by simp at h,fun _ => ?_⟩;rintro _ rfl;refine ⟨ah2 h,fun h=>by simp at h,fun _ => ?_⟩;rintro y5 e5;have e5:y5=gu (bD t) m t l:=e5;subst e5;exact ⟨hu,⟨rfl,rfl,by simp⟩⟩
theorem ag7 {zs:List Int} {x:Int} (h:x∈Lib.compact zs):x∈zs:=by
 unfold Lib.compact Lib.compactUpTo at h;obtain ⟨i,hi,rfl⟩:=List.mem_map.1 h;have iJ:i<zs.length:=List.mem_range.1 (List.mem_filter.1 hi).1;simp [getElem!_pos,iJ]
theorem as8 {a b:List Rw} {x:Int} (h:x∈ks a b):∃r,(r∈a\/r∈b)/\r.id=x:=by
 have h1:=ag7 h;unfold nd at h1;rw [List.mem_mergeSort] at h1;obtain ⟨r,hr,e⟩:=List.mem_map.1 h1;exact ⟨r,List.mem_append.1 hr,e⟩
theorem P6 {rows:List Rw} (hp:iW rows) (x:Int):(gN rows x=false/\eK rows x=⟨0,[]⟩)\/(gN rows x=true/\eK rows x∈rows/\(eK rows x).id=x):=by
 unfold eK;cases h:gN rows x with
 | false=>exact .inl ⟨rfl,rfl⟩
 | true=>
  have h1:=(AI hp x).1 h;exact .inr ⟨rfl,bH _ h1.1,h1.2⟩
theorem LA {rows:List Rw} {r:Rw} (h:r∈rows):gN rows r.id=true:=by
 unfold gN;rw [List.any_eq_true];exact ⟨r,h,by simp⟩
theorem iV.aR0 {t:Nat} (ht:t<3) {nx:Int} {rows:List Rw} (h:iV (bD t) nx rows):jT rows:=
 ⟨by have:=h.n;omega,h.p,fun r hr=>(h.c r hr).s (jM ht)⟩
theorem TG {t:Int} {a b:List Rw} {ids:List Int} {c:bE} (h:c∈iZ t a b ids):∃x∈ids,c=z6 t a b x:=by
 unfold iZ at h;obtain ⟨x,hx,e⟩:=List.mem_map.1 h;exact ⟨x,(List.mem_filter.1 hx).1,e.symm⟩
theorem TF {t:Nat} (ht:t<3) {nx ny:Int} {a b:List Rw} (ha:iV (bD t) nx a) (hb:iV (bD t) ny b) (hx:nx<=1000000) (hy:ny<=1000000) {c:bE} (h:c∈iZ t a b (ks a b)):nr c:=by
 obtain ⟨x,YR,rfl⟩:=TG h;obtain ⟨r,hr,e⟩:=as8 YR;have hid:1<=x/\x<1000000:=by
  rcases hr with hr | hr
  ·have:=ha.i r hr;omega
  ·have:=hb.i r hr;omega
 have Yy:gN a x=true\/gN b x=true:=by
  rcases hr with hr | hr
  ·exact .inl (e▸LA hr)
  ·exact .inr (e▸LA hr)
 have oc:=P6 ha.p x;have cr:=P6 hb.p x;have ho:(eK a x).id=0\/((eK a x).id=x/\dh (bD t) (eK a x)):=by
  rcases oc with ⟨_,h⟩ | ⟨_,h1,h2⟩
  ·exact .inl (by rw [h])
  ·exact .inr ⟨h2,ha.c _ h1⟩
 have hw:(eK b x).id=0\/((eK b x).id=x/\dh (bD t) (eK b x)):=by
  rcases cr with ⟨_,h⟩ | ⟨_,h1,h2⟩
  ·exact .inl (by rw [h])
  ·exact .inr ⟨h2,hb.c _ h1⟩
 refine ⟨by show (0:Int)<=t/\(t:Int)<3;omega,hid,?_,ho,hw⟩;show qO x (eK a x) (eK b x)≠0;have Mz:decide (x<1)=false:=decide_eq_false (by omega);have hz:((0:Int)==x)=false:=by simpa using (show (0:Int)≠x by omega)
 have Ba:(x==0)=false:=by simpa using (show x≠0 by omega)
 unfold qO;rw [Mz,cond_false];rcases oc with ⟨h1,h2⟩ | ⟨_,_,h2⟩ <;> rcases cr with ⟨h3,h4⟩ | ⟨_,_,h4⟩
 ·rcases Yy with h | h <;> simp_all
 ·rw [h2,h4];simp
 ·rw [h2,h4];simp [hz,Ba]
 ·rw [h2,h4];simp [Ba]
theorem Kk {x y:aA} (hx:iT x) (hy:iT y) (nx:x.next<=1000000) (ny:y.next<=1000000):∀n,n<=3->(∀c∈gk x y n,nr c)/\(gk x y n).length<=24*n
 | 0,_=>by simp [gk]
 | n+1,hn=>by
  have ih:=Kk hx hy nx ny n ag;have ha:=hx.2.r n ag;have hb:=hy.2.r n ag;have h1:=GS (x.ak.getD n []) (y.ak.getD n []);have h2:=DR n (x.ak.getD n []) (y.ak.getD n []) (ks (x.ak.getD n []) (y.ak.getD n []));have:=ha.n;have:=hb.n;rw [gk];refine ⟨fun c hc => ?_,by rw [List.length_append];omega⟩;rcases List.mem_append.1 hc with hc | hc
  ·exact ih.1 c hc
  ·exact TF ag ha hb nx ny hc
theorem iT.Q5 {x:aA} (h:iT x):∀a∈x.ak,jT a:=fun a ha=>by
 obtain ⟨i,hi,e⟩:=xW [] ha;have h3:=h.2.n;exact e▸(h.2.r i ag).aR0 ag
theorem U9 {x y:aA} (hx:iT x) (hy:iT y):au Pz sf [.agg (aM x),.agg (aM y)] [] ⟨.tup [ab bU (gk x y 3),.int .i64 0],[],[]⟩:=by
 have h:=Va (x:=x) (y:=y) (by rw [hx.2.n];omega) (by rw [hx.2.n,hy.2.n]) hx.Q5 hy.Q5;rwa [hx.2.n] at h
def allM (m:Mon):Mon:=⟨m.name,m.table,m.av,m.gB,true,true,true,m.aS⟩
theorem aR9 (t:Tb) (m:Mon) (k:Int) (c:bE):oG t m k c=(bY m (kD t (allM m) c)&&oG t (allM m) k c):=by
 have e:kD t (allM m) c=kD t m c:=rfl;have ea:∀u,bY (allM m) u=true:=fun u=>by unfold bY allM;cases (u.bJ.id==0) <;> cases (u.new.id==0) <;> rfl
 unfold oG;rw [e,ea];cases (c.eA==k) <;> cases (l7 (kD t m c).bJ (kD t m c).new) <;> cases (bY m (kD t m c)) <;> rfl
theorem aT9 (t:Tb) (m:Mon) (k:Int) (l:List bE):gu t m k l=(gu t (allM m) k l).filter (bY m):=by
 unfold gu;rw [List.filter_map,List.filter_filter];congr 1;exact List.filter_congr fun c _=>aR9 t m k c
def lM {α:Type} (p:α->Bool) (l:List α) (i:Nat):Nat:=((l.take i).filter p).length
theorem aU8 {α:Type} (p:α->Bool) (l:List α) (d:α) {i:Nat} (h:i<l.length):lM p l (i+1)=lM p l i+(bif p (l.getD i d) then 1 else 0):=by
 unfold lM;rw [fU d h,List.filter_append,List.length_append];cases hp:p (l.getD i d)
 ·rw [List.filter_cons_of_neg (by rw [hp];simp)];rfl
 ·rw [List.filter_cons_of_pos hp];rfl
theorem aU7 {α:Type} (p:α->Bool) (l:List α) (d:α) {i:Nat} (h:i<l.length) (hp:p (l.getD i d)=true):lM p l i<(l.filter p).length/\(l.filter p).getD (lM p l i) d=l.getD i d:=by
 have e:l.filter p=(l.take i).filter p++(l.getD i d::(l.drop (i+1)).filter p):=by
  have e1:l=l.take i++(l.getD i d::l.drop (i+1)):=by
   rw [List.getD_eq_getElem?_getD,List.getElem?_eq_getElem h,Option.getD_some,<- List.drop_eq_getElem_cons h,List.take_append_drop]
  conv=>lhs;rw [e1]
  rw [List.filter_append,List.filter_cons_of_pos hp]
 rw [e];unfold lM;refine ⟨by rw [List.length_append,List.length_cons];omega,?_⟩;rw [List.getD_eq_getElem?_getD,List.getElem?_append_right (Nat.le_refl _),Nat.sub_self];rfl
theorem aU6 {α:Type} (p:α->Bool) (l:List α):lM p l l.length=(l.filter p).length:=by
 unfold lM;rw [List.take_length]
abbrev xc:Nat:=5
abbrev KR:Nat:=31
def dv.zero:dv:=⟨0,⟨0,[]⟩,⟨0,[]⟩⟩
def Rp:Vw:=fun t cs i=>bif Nat.beq t Cr then some (cU ((af cU cs).getD i dv.zero)) else j3 t cs i
def PX (S:aO) (m:Mon) (T:Tb) (k:Int):cy:=fun f vs hp=>match vs,hp with
 | [],[]=>bif Nat.beq f nR then some ⟨(),fun _=>⟨.agg [ab ao S],[],[]⟩⟩ else none
 | [.dsl _ _ cs],[]=>bif Nat.beq f EH then some ⟨(),fun _=>⟨.agg (hZ m),[],[]⟩⟩ else bif Nat.beq f E5 then some ⟨ry (af aP cs),fun y=>⟨.agg (aM y),[],[]⟩⟩ else bif Nat.beq f EO then some ⟨(fo (fe (af aP cs))).1,fun y=>⟨ab aK y,[],[]⟩⟩ else none
 | [.agg [.dsl _ _ _],.agg [.dsl _ _ ts,.int _ nx],.dsl _ _ os,.sl 0 0 _ _],[_]=>bif Nat.beq f xe then some ⟨dt S ⟨af az ts,nx⟩ (af aK os) [],fun y=>⟨.tup [.agg (aM y.1),ab bL y.2.1,.int .i64 0],[none],[0]⟩⟩ else none
 | [.agg [.dsl _ _ ts,.int _ nx],.agg [.dsl _ _ us,.int _ ny]],[]=>bif Nat.beq f sf then some ⟨gk ⟨af az ts,nx⟩ ⟨af az us,ny⟩ 3,fun y=>⟨.tup [ab bU y,.int .i64 0],[],[]⟩⟩ else none
 | [.agg [.dsl _ _ _],.agg [.str a,.str b,.dsl _ _ cs,.bool p1,.bool p2,.bool p3,.bool p4,.dsl _ _ ws],.dsl _ _ ls],[]=>bif Nat.beq f xb then some ⟨gu T (j0 a b cs p1 p2 p3 p4 ws) k (af bU ls),fun y=>⟨.tup [ab cU y,.int .i64 0],[],[]⟩⟩ else none
 | [.agg [.dsl _ _ _],.agg [.str _,.str _,.dsl _ _ _,.bool _,.bool _,.bool _,.bool _,.dsl _ _ _],.sl 0 0 _ _],[_]=>bif Nat.beq f xb then some ⟨(),fun _=>⟨.tup [ab cU [],.int .i64 0],[none],[0]⟩⟩ else none
 | [.agg [.dsl _ _ _],.agg [.str _,.str _,.dsl _ _ _,.bool _,.bool _,.bool _,.bool _,.dsl _ _ _]],[]=>bif Nat.beq f KR then some ⟨(),fun _=>⟨.tup [.int .i64 10,.int .i64 0],[],[]⟩⟩ else none
 | _,_=>none
def Ia (S:aO) (m:Mon) (dC full:List dv) (n i:Int):St:=⟨ah 163 [(5,.ptr 0 0),(6,.ptr 1 0),(13,ab cU dC),(18,ab cU full),(20,.int .i64 n),(21,.int .i64 i)],[c8 S,some (hZ m,Cp)],[]⟩
def ap4:Ex->Kp:=fun ex=>match ex with
 | .normal=>{keep:=[5,6,13,18,20,21]}
 | .ret=>{keep:=[4]}
 | .exit _=>{keep:=[5,13,20]}
def Sp (S:aO) (m:Mon) (T:Tb) (k:Int):Env:={P:=Pz,vw:=Rp,res:=PX S m T k}
theorem PB (S:aO) (m:Mon) (dC full:List dv) (n i:Int):bp (Sp S m .zero 0) 0 ap4 (lp Pz xc 0) (Ia S m dC full n i)=(
 let q7:=dv.mk (0:Int) (Rw.mk (0:Int) []) (Rw.mk (0:Int) []);
 let q:=List.getD (af cU (ae cU dC)) n.toNat q7;
 let q1:=List.getD (af cU (ae cU full)) i.toNat q7;
 let q2:List V:=[.str (Mon.name m),.str (Mon.table m),ab encStr (Mon.av m),.bool (Mon.gB m),.bool (Mon.ins m),.bool (Mon.del m),.bool (Mon.mod m),ab aE (Mon.aS m)];
 let q8:=(dC.length:Int);
 let q3:List Prop:=[0<=n/\n<q8,td 5 n (ae cU dC)=[aa (dv.id q),aa (Rw.id (dv.bJ q)),ab aG (Rw.cells (dv.bJ q)),aa (Rw.id (dv.new q)),ab aG (Rw.cells (dv.new q))]];
 let q4:=ah 163 [(5,pp 0),(6,pp 1),(13,ab cU dC),(18,ab cU full),(20,aa (wz (n+1))),(21,aa (wz (i+1)))];
 let q5:=ah 163 [(5,pp 0),(6,pp 1),(13,ab cU dC),(18,ab cU full),(20,aa n),(21,aa (wz (i+1)))];
 let q6:=ah 163 [(4,.bool false)];bif decide (i<(full.length:Int)) then .ai [0<=i/\i<(full.length:Int),td 5 i (ae cU full)=[aa (dv.id q1),aa (Rw.id (dv.bJ q1)),ab aG (Rw.cells (dv.bJ q1)),aa
  (Rw.id (dv.new q1)),ab aG (Rw.cells (dv.new q1))]] (bif Rw.id (dv.bJ q1)==0 then bif !Mon.ins m then nz q5 [c8 S,some (q2,63)] else bif decide (n>=q8) then .done (Ex.ret,St.mk q6 [] []) else .ai q3 (bif dv.id q !=
  dv.id q1 then .done (Ex.ret,St.mk q6 [] []) else nz q4 [c8 S,some (q2,63)]) else bif Rw.id (dv.new q1)==0 then bif !Mon.del m then nz q5 [c8 S,some (q2,63)] else bif decide (n>=q8) then .done (Ex.ret,St.mk q6 [] []) else
  .ai q3 (bif dv.id q != dv.id q1 then .done (Ex.ret,St.mk q6 [] []) else nz q4 [c8 S,some (q2,63)]) else bif !Mon.mod m then nz q5 [c8 S,some (q2,63)] else bif decide (n>=q8) then .done (Ex.ret,St.mk q6 [] []) else .ai q3
  (bif dv.id q != dv.id q1 then .done (Ex.ret,St.mk q6 [] []) else nz q4 [c8 S,some (q2,63)])) else .done (Ex.exit 0,St.mk (ah 163 [(5,pp 0),(13,ab cU dC),(20,aa n)]) [c8 S] []):T _):=kz
def lQ (S:aO) (m:Mon) (T:Tb) (k:Int) (dC full:List dv) (n:Int):Env:={P:=Pz,vw:=Rp,res:=PX S m T k,ls:=fun id _=>match id with
 | 0=>some ⟨(),fun _=> .one {keep:=[5,6,13,18,20,21]} (Ia S m dC full 0 0) (.exit 0) ⟨ah 163 [(5,.ptr 0 0),(13,ab cU dC),(20,.int .i64 n)],[c8 S],[]⟩⟩
 | _=>none}
theorem Hn (l c:List UInt8) (S:aO) (m:Mon) (T:Tb) (k:Int) (dC full:List dv) (n:Int):fnT (lQ S m T k dC full n) 0 xc [ab aP l,ab aP c] [] =
 bif decide ((↑(List.length l):Int)>(1048576:Int)) then YtlomaojlpodibaaGreat.T.done (aF.mk (V.bool true) [] [])
 else
  bif decide ((↑(List.length c):Int)>(1048576:Int)) then YtlomaojlpodibaaGreat.T.done (aF.mk (V.bool true) [] [])
  else
   YtlomaojlpodibaaGreat.T.bind PUnit.unit fun _=>
    YtlomaojlpodibaaGreat.T.ai [au (Env.P (lQ S m T k dC full n)) 7 [] [] (aF.mk (V.agg [V.dsl (List.length S) false (ae ao S)]) [] [])]
     (YtlomaojlpodibaaGreat.T.bind PUnit.unit fun _=>
      YtlomaojlpodibaaGreat.T.ai
       [au (Env.P (lQ S m T k dC full n)) 26 [V.dsl (List.length c) false (ae aP c)] []
         (aF.mk
          (V.agg
           [V.str (Mon.name m),V.str (Mon.table m),V.dsl (List.length (Mon.av m)) false (ae encStr (Mon.av m)),V.bool (Mon.gB m),V.bool (Mon.ins m),V.bool (Mon.del m),V.bool (Mon.mod m),
            V.dsl (List.length (Mon.aS m)) false (ae aE (Mon.aS m))])
          [] [])]
       (YtlomaojlpodibaaGreat.T.bind (ry (af aP (ae aP l))) fun y2=>
        YtlomaojlpodibaaGreat.T.ai
         [au (Env.P (lQ S m T k dC full n)) 8 [V.dsl (List.length l) false (ae aP l)] []
           (aF.mk (V.agg [V.dsl (List.length (aA.ak y2)) false (ae az (aA.ak y2)),V.int IntKind.i64 (aA.next y2)]) [] [])]
         (YtlomaojlpodibaaGreat.T.bind (Prod.fst (fo (fe (af aP (ae aP c))))) fun y3=>
          YtlomaojlpodibaaGreat.T.ai [au (Env.P (lQ S m T k dC full n)) 28 [V.dsl (List.length c) false (ae aP c)] [] (aF.mk (V.dsl (List.length y3) false (ae aK y3)) [] [])]
           (YtlomaojlpodibaaGreat.T.bind (dt S (aA.mk (af az (ae az (aA.ak y2))) (aA.next y2)) (af aK (ae aK y3)) []) fun y4=>
            YtlomaojlpodibaaGreat.T.ai
             [au (Env.P (lQ S m T k dC full n)) 27
               [V.agg [V.dsl (List.length S) false (ae ao S)],V.agg [V.dsl (List.length (aA.ak y2)) false (ae az (aA.ak y2)),V.int IntKind.i64 (aA.next y2)],
                V.dsl (List.length y3) false (ae aK y3),V.sl 0 0 0 true]
               [some ([],9)]
               (aF.mk
                (V.tup
                 [V.agg [V.dsl (List.length (aA.ak (Prod.fst y4))) false (ae az (aA.ak (Prod.fst y4))),V.int IntKind.i64 (aA.next (Prod.fst y4))],
                  V.dsl (List.length (Prod.fst (Prod.snd y4))) false (ae bL (Prod.fst (Prod.snd y4))),V.int IntKind.i64 (0:Int)])
                [none] [0])]
             (YtlomaojlpodibaaGreat.T.bind
              (gk (aA.mk (af az (ae az (aA.ak y2))) (aA.next y2)) (aA.mk (af az (ae az (aA.ak (Prod.fst y4)))) (aA.next (Prod.fst y4))) 3) fun y5=>
              YtlomaojlpodibaaGreat.T.ai
               [au (Env.P (lQ S m T k dC full n)) 29
                 [V.agg [V.dsl (List.length (aA.ak y2)) false (ae az (aA.ak y2)),V.int IntKind.i64 (aA.next y2)],
                  V.agg [V.dsl (List.length (aA.ak (Prod.fst y4))) false (ae az (aA.ak (Prod.fst y4))),V.int IntKind.i64 (aA.next (Prod.fst y4))]]
                 [] (aF.mk (V.tup [V.dsl (List.length y5) false (ae bU y5),V.int IntKind.i64 (0:Int)]) [] [])]
               (YtlomaojlpodibaaGreat.T.bind
                (gu T (j0 (Mon.name m) (Mon.table m) (ae encStr (Mon.av m)) (Mon.gB m) (Mon.ins m) (Mon.del m) (Mon.mod m) (ae aE (Mon.aS m))) k (af bU (ae bU y5))) fun y6=>
                YtlomaojlpodibaaGreat.T.ai
                 [au (Env.P (lQ S m T k dC full n)) 30
                   [V.agg [V.dsl (List.length S) false (ae ao S)],
                    V.agg
                     [V.str (Mon.name m),V.str (Mon.table m),V.dsl (List.length (Mon.av m)) false (ae encStr (Mon.av m)),V.bool (Mon.gB m),V.bool (Mon.ins m),V.bool (Mon.del m),
                      V.bool (Mon.mod m),V.dsl (List.length (Mon.aS m)) false (ae aE (Mon.aS m))],
                    V.dsl (List.length y5) false (ae bU y5)]
                   [] (aF.mk (V.tup [V.dsl (List.length y6) false (ae cU y6),V.int IntKind.i64 (0:Int)]) [] [])]
                 (YtlomaojlpodibaaGreat.T.bind PUnit.unit fun _=>
                  YtlomaojlpodibaaGreat.T.ai
                   [au (Env.P (lQ S m T k dC full n)) 30
                     [V.agg [V.dsl (List.length S) false (ae ao S)],
                      V.agg
                       [V.str (Mon.name m),V.str (Mon.table m),V.dsl (List.length (Mon.av m)) false (ae encStr (Mon.av m)),V.bool (Mon.gB m),V.bool (Mon.ins m),V.bool (Mon.del m),
                        V.bool (Mon.mod m),V.dsl (List.length (Mon.aS m)) false (ae aE (Mon.aS m))],
                      V.sl 0 0 0 true]
                     [some ([],122)] (aF.mk (V.tup [V.dsl 0 false [],V.int IntKind.i64 (0:Int)]) [none] [0])]
                   (YtlomaojlpodibaaGreat.T.bind
                    (gu T (j0 (Mon.name m) (Mon.table m) (ae encStr (Mon.av m)) (Mon.gB m) true true true (ae aE (Mon.aS m))) k (af bU (ae bU y5))) fun y8=>
                    YtlomaojlpodibaaGreat.T.ai
                     [au (Env.P (lQ S m T k dC full n)) 30
                       [V.agg [V.dsl (List.length S) false (ae ao S)],
                        V.agg
                         [V.str (Mon.name m),V.str (Mon.table m),V.dsl (List.length (Mon.av m)) false (ae encStr (Mon.av m)),V.bool (Mon.gB m),V.bool true,V.bool true,V.bool true,
                          V.dsl (List.length (Mon.aS m)) false (ae aE (Mon.aS m))],
                        V.dsl (List.length y5) false (ae bU y5)]
                       [] (aF.mk (V.tup [V.dsl (List.length y8) false (ae cU y8),V.int IntKind.i64 (0:Int)]) [] [])]
                     (YtlomaojlpodibaaGreat.T.bind PUnit.unit fun _=>
                      YtlomaojlpodibaaGreat.T.ai
                       [St.mk
                          (ah 163
                           [(5,V.ptr 0 0),(6,V.ptr 1 0),(13,V.dsl (List.length y6) false (ae cU y6)),
                             (18,V.dsl (List.length y8) false (ae cU y8)),(20,V.int IntKind.i64 (0:Int)),(21,V.int IntKind.i64 (0:Int))])
                          [c8 S,
                           some
                            ([V.str (Mon.name m),V.str (Mon.table m),V.dsl (List.length (Mon.av m)) false (ae encStr (Mon.av m)),V.bool (Mon.gB m),V.bool (Mon.ins m),
                              V.bool (Mon.del m),V.bool (Mon.mod m),V.dsl (List.length (Mon.aS m)) false (ae aE (Mon.aS m))],
                             63)]
                          [] =
                         St.mk
                          (ah 163
                           [(5,V.ptr 0 0),(6,V.ptr 1 0),(13,V.dsl (List.length dC) false (ae cU dC)),
                             (18,V.dsl (List.length full) false (ae cU full)),(20,V.int IntKind.i64 (0:Int)),(21,V.int IntKind.i64 (0:Int))])
                          [c8 S,
                           some
                            ([V.str (Mon.name m),V.str (Mon.table m),V.dsl (List.length (Mon.av m)) false (ae encStr (Mon.av m)),V.bool (Mon.gB m),V.bool (Mon.ins m),
                              V.bool (Mon.del m),V.bool (Mon.mod m),V.dsl (List.length (Mon.aS m)) false (ae aE (Mon.aS m))],
                             63)]
                          [],
                        aN (Env.P (lQ S m T k dC full n)) 0 (blk Tryz.prog xc 0)
                         (St.mk
                          (ah 163
                           [(5,V.ptr 0 0),(6,V.ptr 1 0),(13,V.dsl (List.length dC) false (ae cU dC)),
                             (18,V.dsl (List.length full) false (ae cU full)),(20,V.int IntKind.i64 (0:Int)),(21,V.int IntKind.i64 (0:Int))])
                          [c8 S,
                           some
                            ([V.str (Mon.name m),V.str (Mon.table m),V.dsl (List.length (Mon.av m)) false (ae encStr (Mon.av m)),V.bool (Mon.gB m),V.bool (Mon.ins m),
                              V.bool (Mon.del m),V.bool (Mon.mod m),V.dsl (List.length (Mon.aS m)) false (ae aE (Mon.aS m))],
                             63)]
                          [])
                         (Ex.exit 0)
                         (St.mk (ah 163 [(5,V.ptr 0 0),(13,V.dsl (List.length dC) false (ae cU dC)),(20,V.int IntKind.i64 n)]) [c8 S]
                          [])]
                       (YtlomaojlpodibaaGreat.T.bind PUnit.unit fun _=>
                        YtlomaojlpodibaaGreat.T.ai
                         [au (Env.P (lQ S m T k dC full n)) 31
                           [V.agg [V.dsl (List.length S) false (ae ao S)],
                            V.agg
                             [V.str [109],V.str [110,111,116,104,105,110,103],V.dsl 0 true [],
                              V.bool false,V.bool false,V.bool false,V.bool false,V.dsl 0 true []]]
                           [] (aF.mk (V.tup [V.int IntKind.i64 (10:Int),V.int IntKind.i64 (0:Int)]) [] [])]
                         (bif n==(↑(List.length dC):Int) then YtlomaojlpodibaaGreat.T.done (aF.mk (V.bool true) [] [])
                         else YtlomaojlpodibaaGreat.T.done (aF.mk (V.bool false) [] [])))))))))))):=by kernel_rfl
theorem PC (m:Mon) (full:List dv) (h:full.length<=1048576):∀(k i:Nat),i+k=full.length ->
  aT Pz 0 (lp Pz xc 0) (Ia aI m (full.filter (bY m)) full (lM (bY m) full i:Nat) i) (.exit 0) ⟨ah 163 [(5,.ptr 0 0),(13,ab cU (full.filter (bY m))),(20,.int .i64 (full.filter (bY m)).length)],[c8 aI],[]⟩
 | 0,i,hi=>by
  obtain rfl:i=full.length:=hi;rw [aU6];refine bt (PB aI m (full.filter (bY m)) full ((full.filter (bY m)).length:Nat) (full.length:Nat)) ?_;simp only [sz];exact ⟨fun h=>ag,fun _=>⟨rfl,rfl⟩⟩
 | k+1,i,hi=>by
  have bA:i<full.length:=ag;have aD:=vE.at full ⟨0,⟨0,[]⟩,⟨0,[]⟩⟩ i 5 bA rfl;have ih:=PC m full h k (i+1) ag;have w1:=cX i;have hs:=aU8 (bY m) full ⟨0,⟨0,[]⟩,⟨0,[]⟩⟩ bA;have ha:=aU7 (bY m) full ⟨0,⟨0,[]⟩,⟨0,[]⟩⟩ bA;have hle:(full.filter (bY m)).length<=full.length:=List.length_filter_le _ _;have kQ:=PB aI m (full.filter (bY m)) full (lM (bY m) full i:Nat) (i:Nat);generalize hu:full.getD i ⟨0,⟨0,[]⟩,⟨0,[]⟩⟩=u at *;generalize vA:full.filter (bY m)=dC at *;generalize hn:lM (bY m) full i=n at *;have F7:bY m u=false->lM (bY m) full (i+1)=n:=fun hf=>by rw [hs,hf];rfl
  have jl:bY m u=true->lM (bY m) full (i+1)=n+1/\n<dC.length/\dC.getD n ⟨0,⟨0,[]⟩,⟨0,[]⟩⟩=u:=fun ht=>⟨by rw [hs,ht];rfl,ha ht⟩;have w2:bY m u=true->wz ((n:Int)+1)=((n+1:Nat):Int):=fun ht=>by
   have:=(jl ht).2.1;exact bW ag
  refine bt kQ ?_;simp only [sz,w1,vE.af,Int.toNat_natCast,hu];refine ⟨fun _=>⟨⟨aB,aD⟩,fun h0=>⟨fun hf => ?_,fun ht=>⟨fun gb => ?_,fun _=>⟨⟨?_,?_⟩,fun bc => ?_,fun _ => ?_⟩⟩⟩,fun h0=>⟨fun h1=>⟨fun hf => ?_,fun ht=>⟨fun gb => ?_,fun _=>⟨⟨?_,?_⟩,fun bc => ?_,fun _ => ?_⟩⟩⟩,fun h1=>⟨fun hf => ?_,fun ht=>⟨fun gb => ?_,fun _=>⟨⟨?_,?_⟩,fun bc => ?_,fun _ => ?_⟩⟩⟩⟩⟩,fun h=>ag⟩
  ·have hb:bY m u=false:=by unfold bY;rw [(eo:(u.bJ.id==0)=true),cond_true];simpa using hf
   rw [F7 hb] at ih;exact ih
  ·have hb:bY m u=true:=by unfold bY;rw [(eo:(u.bJ.id==0)=true),cond_true];simpa using ht
   have:=(jl hb).2.1;exfalso;omega
  ·have hb:bY m u=true:=by unfold bY;rw [(eo:(u.bJ.id==0)=true),cond_true];simpa using ht
   have:=(jl hb).2.1;omega
  ·have hb:bY m u=true:=by unfold bY;rw [(eo:(u.bJ.id==0)=true),cond_true];simpa using ht
   exact vE.at dC ⟨0,⟨0,[]⟩,⟨0,[]⟩⟩ n 5 (jl hb).2.1 rfl
  ·have hb:bY m u=true:=by unfold bY;rw [(eo:(u.bJ.id==0)=true),cond_true];simpa using ht
   rw [(jl hb).2.2] at bc;simp at bc
  ·have hb:bY m u=true:=by unfold bY;rw [(eo:(u.bJ.id==0)=true),cond_true];simpa using ht
   rw [w2 hb,<- (jl hb).1];exact ih
  ·have hb:bY m u=false:=by unfold bY;rw [(eo:(u.bJ.id==0)=false),cond_false,(cR:(u.new.id==0)=true),cond_true];simpa using hf
   rw [F7 hb] at ih;exact ih
  ·have hb:bY m u=true:=by unfold bY;rw [(eo:(u.bJ.id==0)=false),cond_false,(cR:(u.new.id==0)=true),cond_true];simpa using ht
   have:=(jl hb).2.1;exfalso;omega
  ·have hb:bY m u=true:=by unfold bY;rw [(eo:(u.bJ.id==0)=false),cond_false,(cR:(u.new.id==0)=true),cond_true];simpa using ht
   have:=(jl hb).2.1;omega
  ·have hb:bY m u=true:=by unfold bY;rw [(eo:(u.bJ.id==0)=false),cond_false,(cR:(u.new.id==0)=true),cond_true];simpa using ht
   exact vE.at dC ⟨0,⟨0,[]⟩,⟨0,[]⟩⟩ n 5 (jl hb).2.1 rfl
  ·have hb:bY m u=true:=by unfold bY;rw [(eo:(u.bJ.id==0)=false),cond_false,(cR:(u.new.id==0)=true),cond_true];simpa using ht
   rw [(jl hb).2.2] at bc;simp at bc
  ·have hb:bY m u=true:=by unfold bY;rw [(eo:(u.bJ.id==0)=false),cond_false,(cR:(u.new.id==0)=true),cond_true];simpa using ht
   rw [w2 hb,<- (jl hb).1];exact ih
  ·have hb:bY m u=false:=by unfold bY;rw [(eo:(u.bJ.id==0)=false),cond_false,(cR:(u.new.id==0)=false),cond_false];simpa using hf
   rw [F7 hb] at ih;exact ih
  ·have hb:bY m u=true:=by unfold bY;rw [(eo:(u.bJ.id==0)=false),cond_false,(cR:(u.new.id==0)=false),cond_false];simpa using ht
   have:=(jl hb).2.1;exfalso;omega
  ·have hb:bY m u=true:=by unfold bY;rw [(eo:(u.bJ.id==0)=false),cond_false,(cR:(u.new.id==0)=false),cond_false];simpa using ht
   have:=(jl hb).2.1;omega
  ·have hb:bY m u=true:=by unfold bY;rw [(eo:(u.bJ.id==0)=false),cond_false,(cR:(u.new.id==0)=false),cond_false];simpa using ht
   exact vE.at dC ⟨0,⟨0,[]⟩,⟨0,[]⟩⟩ n 5 (jl hb).2.1 rfl
  ·have hb:bY m u=true:=by unfold bY;rw [(eo:(u.bJ.id==0)=false),cond_false,(cR:(u.new.id==0)=false),cond_false];simpa using ht
   rw [(jl hb).2.2] at bc;simp at bc
  ·have hb:bY m u=true:=by unfold bY;rw [(eo:(u.bJ.id==0)=false),cond_false,(cR:(u.new.id==0)=false),cond_false];simpa using ht
   rw [w2 hb,<- (jl hb).1];exact ih
theorem jS.all {t:Nat} {m:Mon} (h:jS t m):jS t (allM m):=⟨h.ht,h.tn,h.nm,h.cn,h.cl,h.wc,h.wl⟩
theorem as3:au Pz KR [.agg [ab ao aI],.agg [.str [109],.str [110,111,116,104,105,110,103],.dsl 0 true [],.bool false,.bool false,.bool false,.bool false,.dsl 0 true []]] [] ⟨.tup [.int .i64 10,.int .i64 0],[],[]⟩:=
 jV (n:=1000) (d:=30) kz
abbrev Q1:Nat:=122
theorem ah7 {t:Nat} {m:Mon} (h:jS t m):au Pz xb [.agg [ab ao aI],.agg (hZ m),.sl 0 0 0 true] [some ([],Q1)] ⟨.tup [ab cU [],.int .i64 0],[none],[0]⟩:=
 au.AH (hp:=[some ([],Q1)]) 5 rfl (GC h [] (by simp) (by simp))
theorem aS5 {x:aA} {ops:List Op'} (h:au Pz xe [.agg [ab ao aI],.agg (aM x),ab aK ops,ab encStr []] [] ⟨.tup [.agg (aM (dt aI x ops []).1),ab bL (dt aI x ops []).2.1,.int .i64 0],[],[]⟩):
  au Pz xe [.agg [ab ao aI],.agg (aM x),ab aK ops,.sl 0 0 0 true] [some ([],ni)] ⟨.tup [.agg (aM (dt aI x ops []).1),ab bL (dt aI x ops []).2.1,.int .i64 0],[none],[0]⟩:=
 au.AH (hp:=[some ([],ni)]) 5 rfl h
theorem ZV (l c:List UInt8):au Pz xc [ab aP l,ab aP c] [] ⟨.bool true,[],[]⟩:=by
 by_cases hl:l.length<=1048576
 ·by_cases hc:c.length<=1048576
  ·obtain ⟨m,t,hm,hD⟩:=ah6 c hc;have Mq:=aP2 l hl;have hR:=aO8 l hl;have bX:=ay9 c hc;obtain ⟨x,hx⟩:∃x,ry l=x:=⟨_,rfl⟩;rw [hx] at Mq hR;obtain ⟨sV,hF,mY⟩:=Mq;obtain ⟨os,Ml⟩:∃os,(fo (fe c)).1=os:=⟨_,rfl⟩;rw [Ml] at bX;obtain ⟨Yb,Mg,hon⟩:=bX;have hg:∀o∈os,mE o:=fun o h=>(Mg o h).g;have kQ:=aS5 (aS8 (ow:=[]) hR (by unfold p9;decide) (by unfold nE;decide) ag Mg ag (by simp));have A9:=IA (ow:=[]) hR ag hg ag (by simp);obtain ⟨y,hy⟩:∃y,dt aI x os []=y:=⟨_,rfl⟩;rw [hy] at kQ A9;have LL:=U9 hF A9.fit;have Fy:=Kk hF A9.fit ag A9.nx 3 (Nat.le_refl _);obtain ⟨d,hd⟩:∃d,gk x y.1 3=d:=⟨_,rfl⟩;rw [hd] at LL Fy;have Mv:=GC hD d ag Fy.1;have lD:=GC hD.all d ag Fy.1;have hle:=Ro (bD t) (allM m) t d;have vA:=aT9 (bD t) m t d;obtain ⟨full,mb⟩:∃full,gu (bD t) (allM m) t d=full:=⟨_,rfl⟩;rw [mb] at lD hle vA;rw [vA] at Mv;have dy:=PC m full ag full.length 0 ag;have xC:j0 m.name m.table (ae encStr m.av) m.gB m.ins m.del m.mod (ae aE m.aS)=m:=by unfold j0;rw [cx.af,cp.af]
   have xD:j0 m.name m.table (ae encStr m.av) m.gB true true true (ae aE m.aS)=allM m:=by unfold j0 allM;rw [cx.af,cp.af]
   refine a6 (Hn l c aI m (bD t) t (full.filter (bY m)) full (full.filter (bY m)).length) ?_;simp only [sz,pP.af,bB.af,iM.af,pQ.af,xC,xD];refine ⟨fun h=>ag,fun _=>⟨fun h=>ag,fun _ => ?_⟩⟩;rintro _ -;refine ⟨qY,?_⟩;rintro _ -;refine ⟨hm,?_⟩;rintro y2 e;have e:y2=x:=e.trans hx;subst e;refine ⟨sV,?_⟩;rintro y3 e;have e:y3=os:=e.trans Ml;subst e;refine ⟨Yb,?_⟩;rintro y4 e;have e:y4=y:=e.trans hy;subst e;refine ⟨kQ,?_⟩;rintro y5 e;have e:y5=d:=e.trans hd;subst e;refine ⟨LL,?_⟩;rintro y6 e;have e:y6=full.filter (bY m):=e.trans vA;subst e;refine ⟨Mv,?_⟩;rintro _ -;refine ⟨ah7 hD,?_⟩;rintro y8 e;have e:y8=full:=e.trans mb;subst e;refine ⟨lD,?_⟩;rintro _ -;refine ⟨⟨rfl,.aV dy⟩,?_⟩;rintro _ -;exact ⟨as3,fun _=>aH,fun h=>by simp at h⟩
  ·refine a6 (Hn l c aI .zero .zero 0 [] [] 0) ?_;simp only [sz];exact ⟨fun _=>aH,fun _=>⟨fun _=>aH,fun h=>ag⟩⟩
 ·refine a6 (Hn l c aI .zero .zero 0 [] [] 0) ?_;simp only [sz];exact ⟨fun _=>aH,fun h=>ag⟩
end Go.Proofs.YtlomaojlpodibaaGreat
namespace Go.Proofs.YtlomaojlpodibaaGreat
open Go.RowKit Go.WideShapes Go.ChangeShapes
set_option maxRecDepth 100000
def Old (w:World):Nat->Prop:=fun k=>k<w.heap.size
theorem VG {I:Nat->Prop} {w w':World} {X:Nat->Prop} (h:cO I w w' X) (hX:∀k,¬X k):w.grownBy w' none:=⟨h.os,h.tape,h.output,h.size,fun k hk _=>h.block k hk (hX k)⟩
def Jr (P:Program) (w:World):Prop:=(∀x∈ak,∀g,P.globalNamed x.1=some g->Lib.TabIs P w x.1 x.2.1 x.2.2)/\∀x∈D7,∀g,P.globalNamed x=some g->∃ev,w.cell? ⟨g,0,none⟩=some ev/\(ev= .nilIface\/∃te pe,ev= .iface te pe)
theorem aR1 {P:Program} {w:World} {name:String} {k:IntKind} {zs:List Int} {g:Nat} (h:Lib.TabIs P w name k zs) (hg:P.globalNamed name=some g):g<w.heap.size:=by
 unfold Lib.TabIs World.var? at h;rw [hg] at h;simp only [Option.bind_some] at h;rcases Nat.lt_or_ge g w.heap.size with h1 | h1
 ·exact h1
 ·rw [Array.getElem?_eq_none h1] at h;simp at h
theorem Tw {w:World} {g:Nat} {ev:Value} (h:w.cell? ⟨g,0,none⟩=some ev):g<w.heap.size:=by
 unfold World.cell? at h;rcases Nat.lt_or_ge g w.heap.size with h1 | h1
 ·exact h1
 ·rw [Array.getElem?_eq_none h1] at h;simp at h
theorem au.said {P:Program} {f:FuncId} {vs:List V} {b9:Array Value} {w:World} (h:au P f vs [] ⟨.bool true,[],[]⟩) (hT:Jr P w) (hv:V.RL P (Old w) cf w vs b9.toList):
  Calls P f b9 w fun e w'=>e= .returned (.bool true)/\w.grownBy w' none:=by
 refine (h.2 (Old w) w cf b9 hv ⟨⟨fun k hk=>hk,fun x hx g hg=>⟨aR1 (hT.1 x hx g hg) hg,hT.1 x hx g hg⟩,fun x hx g hg=>by
  obtain ⟨ev,h1,h2⟩:=hT.2 x hx g hg;exact ⟨Tw h1,ev,h1,h2⟩⟩,by simp,by simp,fun _ _ _=>rfl⟩ (fun b g hb=>by cases hb)).mono ?_
 rintro e w' ⟨val,μ',I',rfl,hR,hG⟩;simp only [V.R] at hR;subst hR;exact ⟨rfl,VG hG.cJ fun k hk=>by obtain ⟨b,hb,_⟩:=hk;simp at hb⟩
theorem aI4 {w:World} {a:Addr} {f:Nat->Value} {n:Nat} (hs:a.spot=none) (hn:0<n) (hc:∀i,i<n->w.cell? (a.add i)=some (f i)):
  ∃cells e fr,w.heap[a.block]?=some (.cells cells e fr)/\∀i,i<n->cells[a.off+i]?=some (f i):=by
 have h0:=hc 0 hn;have hb:∀i,(a.add i)=⟨a.block,a.off+i,none⟩:=by
  intro i;unfold Addr.add;split
  ·rename_i h;subst h;obtain ⟨b,o,s⟩:=a;simp only at hs;subst hs;rfl
  ·rfl
 rw [hb 0] at h0;unfold World.cell? at h0;split at h0
 ·rename_i cells e fr hh;refine ⟨cells,e,fr,hh,fun i hi => ?_⟩;have h1:=hc i hi;rw [hb i] at h1;unfold World.cell? at h1;rw [hh] at h1;simpa using h1
 ·cases h0
theorem Jl {P:Program} {I:Nat->Prop} {μ:Mu} {w:World}:∀l:List UInt8,V.RL P I μ w (ae aP l) (l.map fun b=>Value.int .u8 (b.toNat:Nat))
 | []=>by simp [ae,V.RL]
 | b::l=>by
  have:ae aP (b::l)= .int .u8 (b.toNat:Nat)::ae aP l:=rfl;rw [this,List.map_cons];simp only [V.RL,V.R];exact ⟨_,_,rfl,rfl,Jl l⟩
theorem JA {H:Type} {enc:TypeId×Value->H} {w:World} {base S5:Nat} {spare:Nat->Bool} {held:Bool} {v:Value} {d:DataW H} {p:List MemPlace}
  (eW:Value.okWide Pz w .any S5 22 v) (h:DataW.Trod enc Pz w base spare held 22 v d p):
  ∃l:List UInt8,V.R Pz (Old w) cf w (ab aP l) v:=by
 obtain ⟨a0,l0,c0,rfl⟩:=okWide_slice Tryz.underlying22 eW
 have c9:Pz.cellsOf 5=1:=kz
 obtain ⟨fuel,hf⟩:=h
 rcases open_ints Tryz.underlying22 Tryz.underlying5 c9 hf with ⟨ga,_⟩ | ⟨ad,len,cap,zs,ga,_,hl,hm,hlen,_,mQ,A7⟩
 ·simp [Value.cells] at ga
  obtain ⟨rfl,rfl,rfl⟩:=ga
  refine ⟨[],?_⟩
  simp only [V.R]
  exact ⟨none,0,rfl,Nat.le_refl _,fun h=>(nomatch h),.inl ⟨rfl,rfl⟩,.inl rfl⟩
 ·simp [Value.cells] at ga
  obtain ⟨rfl,rfl,rfl⟩:=ga
  have mg:ad.spot=none:=by
   unfold Value.okWide at eW
   rw [Tryz.underlying22] at eW
   simp only [Cell.okWide,Tryz.underlying22,Cell.ok] at eW
   exact eW.2.2.2.1
  have hle:l0<=zs.length:=by rw [hlen];split <;> omega
  let l:List UInt8:=(zs.take l0).map fun z=>UInt8.ofNat z.toNat
  have cD:l.length=l0:=by simp only [l,List.length_map,List.length_take];omega
  refine ⟨l,?_⟩
  obtain ⟨g,off,s⟩:=ad
  simp only at mg;subst mg
  simp only [V.R]
  refine ⟨_,c0,by rw [cD],ag,fun h=>(nomatch h),.inr ⟨g,off,rfl⟩,?_⟩
  by_cases h0:l0=0
  ·left
   have:l=[]:=List.eq_nil_of_length_eq_zero ag
   rw [this];rfl
  ·obtain ⟨cells,e,fr,hh,aD⟩:=aI4 (a:=⟨g,off,none⟩) (n:=l0) rfl ag (fun i hi=>mQ i ag)
   refine .inr <| .inr ⟨g,off,rfl,(Array.getElem?_eq_some_iff.1 hh).1,cells,e,fr,hh,?_⟩
   have xP:((cells.toList.drop off).take (ae aP l).length)=l.map fun b=>Value.int .u8 (b.toNat:Nat):=by
    rw [show (ae aP l).length=l0 by rw [pP.length,Nat.mul_one,cD]]
    apply List.ext_getElem?
    intro i
    rw [List.getElem?_take]
    split
    ·rename_i hi
     rw [List.getElem?_drop,Array.getElem?_toList,aD i hi]
     have h1:zs.getD i 0∈zs:=by
      rw [List.getD_eq_getElem?_getD,List.getElem?_eq_getElem ag];exact List.getElem_mem _
     have h2:=A7 _ h1
     have h3:0<=zs.getD i 0/\zs.getD i 0<=255:=by
      have:IntKind.u8.min=0/\IntKind.u8.max=255:=by decide
      rw [Lit.wf,this.1,this.2,Bool.and_eq_true,decide_eq_true_eq,decide_eq_true_eq] at h2
      exact h2
     have h4:(l.map fun b=>Value.int .u8 (b.toNat:Nat))[i]?=some (.int .u8 (((UInt8.ofNat (zs.getD i 0).toNat).toNat:Nat):Int)):=by
      simp only [l,List.getElem?_map]
      rw [List.getElem?_take,if_pos hi,List.getD_eq_getElem?_getD,List.getElem?_eq_getElem ag]
      rfl
     rw [h4,UInt8.toNat_ofNat']
     congr 2
     omega
    ·rename_i hi
     rw [List.getElem?_eq_none (by simp only [List.length_map];omega)]
   rw [xP]
   exact Jl l
end Go.Proofs.YtlomaojlpodibaaGreat
namespace Go.Proofs.YtlomaojlpodibaaGreat
open Go.RowKit
set_option maxRecDepth 100000
theorem aR2 (w:World):Jr Pz w:=by
 refine ⟨fun x hx g hg => ?_,fun x hx g hg => ?_⟩
 ·simp only [ak,List.mem_singleton] at hx;subst hx;have:Pz.globalNamed "internal/strconv.uint64pow10" = none:=kz;rw [this] at hg;cases hg
 ·simp only [D7,List.mem_cons,List.not_mem_nil,or_false] at hx;rcases hx with rfl | rfl
  ·have:Pz.globalNamed "strconv.ErrSyntax" = none:=kz;rw [this] at hg;cases hg
  ·have:Pz.globalNamed "strconv.ErrRange" = none:=kz;rw [this] at hg;cases hg
end Go.Proofs.YtlomaojlpodibaaGreat
end

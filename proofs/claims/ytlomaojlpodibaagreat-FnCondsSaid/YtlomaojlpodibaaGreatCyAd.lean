/-
  Copies of stores; of the first table, all is one's own.
  A row of the second table dropped; of the first table, all is one's own.
  Weak references to what is not there go.
  Weak references to what is not there go: all tables.
  Rows that nobody holds go: trees.
  Rows that nobody holds go; pruning.
  Pruning, as a function.
  Pruning, as a function: all sweeps.
  Pruning, as a function: the function.
  Rows mutated, rows set.
  Fresh rows, cells picked.
  Codes of conditions, mutations, sets.
  Names; codes of sets; what can be told of an operation ahead of a store.
  What can be told of an operation ahead of a store.
  Sets of a row that are drawn.
  Sets of a row that are drawn: the function.
  Operations that are drawn: the loop of mutations.
  Operations that are drawn: the function's trees.
  Operations that are drawn.
  Of a sealed block less may be said.
  Lists of operations that are drawn.
  A transaction under way: numbers of inserts, rows by names.
-/
import Derived.Test.YtlomaojlpodibaaGreatCyAc
namespace Go.Proofs.YtlomaojlpodibaaGreat
open Go.RowKit
set_option maxRecDepth 100000
def K7 : TypeId -> Nat -> Option TypeId := fun t k => bif Nat.beq t cO then (bif Nat.beq (k % 2) 0 then some dZ else none) else none
def WQ : Ex -> Kp := fun _ => { keep := [1, 2, 3, 4], pk := some K7 }
def jE (a : List Rw) (D : List (List Rw)) : List V := .osl dy a.length true (ah bU a) :: ah aI D
def pO (x : aM) (C : List V) (N : Nat) (l : List Rw) (i k : Int) : St := ⟨ai 48 [(1, .ptr 0 0), (2, .ptr 1 0), (3, .ptr 2 0), (4, .int .i64 i), (5, .sl 3 0 l.length false), (6, .int .i64 k)],
 [some (aP x, cO), some ([.osl dZ 0 false [], .int .i64 0], cO), some ([.osl dZ N true C, .int .i64 x.next], cO), some ([.aJ (ah av l)], dy)], []⟩
noncomputable def xJ : Env := { P := Tryz.prog, vw := fv, res := zM }
theorem LJ (x : aM) (C : List V) (N : Nat) (l : List Rw) (i k : Int) : bx xJ 0 Kf (lp Tryz.prog ew 2) (pO x C N l i k) = (
 let q6 := ah aI x.ar;
 let q1 := List.getD (ae aI q6) i.toNat [];
 let q := List.getD (ae av (ah av q1)) k.toNat (Rw.mk (0 : Int) []);
 let q2 : List V := [aa q.id, ab a7 q.cells];
 let q3 : List Prop := [0 <= i /\ i < (↑x.ar.length : Int), List.take 1 (List.drop (i.toNat * 1) q6) = [ab av q1]];
 let q4 : List V := [.osl 46 N true C, aa x.next];
 let q5 : List V := [.osl 46 0 false [], aa 0]; .ag q3 (bif decide (k < (↑q1.length : Int)) then .ag q3 (.ag [0 <= k /\ k < (↑q1.length : Int), List.take 2 (List.drop (k.toNat * 2) (ah av q1)) = q2] (.bind PUnit.unit fun _ =>
  .ag [ao (Env.P xJ) 154 [.agg q2] [] (aj.mk (.agg q2) [] [])] (.ag [0 = 0, List.length (ah av l) = l.length * 2, l.length + 1 <= 9223372036854775807, (l.length + 1) * 32 <= 140737488355328] (.done (Ex.normal, St.mk (ai 48
  [(1, .ptr 0 0), (2, .ptr 1 0), (3, .ptr 2 0), (4, aa i), (5, .sl 3 0 (l.length + 1) false), (6, aa (IntKind.i64.wrap (k + 1)))]) [some ((aP x), 29), some (q5, 29), some (q4, 29), some ([.aJ (ah av l ++ q2)], 53)] [])))))
  else .done (Ex.exit 2, St.mk (ai 48 [(1, .ptr 0 0), (2, .ptr 1 0), (3, .ptr 2 0), (4, aa i), (5, .sl 3 0 l.length false), (6, aa k)]) [some ((aP x), 29), some (q5, 29), some (q4, 29), some ([.aJ (ah av l)], 53)] [])) : T _) := (T.force_eq _).symm.trans (by kernel_rfl)
theorem LK {x : aM} (hx : kf x) (C : List V) (N : Nat) (i : Nat) (hi : i < x.ar.length) : ∀ (n k : Nat), k + n = (x.ar.getD i []).length ->
  a8 Tryz.prog 0 (lp Tryz.prog ew 2) (pO x C N ((x.ar.getD i []).take k) i k) (.exit 2) (pO x C N (x.ar.getD i []) i (x.ar.getD i []).length)
 | 0, k, hk => by
  have aL := bB.at x.ar [] i 1 hi rfl
  obtain rfl : k = (x.ar.getD i []).length := hk
  rw [List.take_length]
  refine bl (E := xJ) follows named (LJ x C N (x.ar.getD i []) i ((x.ar.getD i []).length : Nat)) ?_
  simp only [az, T.WP, All, aB, aC, aA, bB.ae, Int.toNat_natCast]
  exact ⟨⟨aK, aL⟩, fun h => by omega, fun _ => ⟨rfl, rfl⟩⟩
 | n + 1, k, hk => by
  have aL := bB.at x.ar [] i 1 hi rfl
  have hm := bP [] hi
  have ht := hx.t _ hm
  have ih := LK hx C N i hi n (k + 1) (by omega)
  generalize nE : x.ar.getD i [] = rows at *
  have cA := bN.at rows ⟨0, []⟩ k 2 (by omega) rfl
  have hr := hx.r _ hm _ (bP ⟨0, []⟩ (show k < rows.length by omega))
  have w1 : IntKind.i64.wrap ((k : Int) + 1) = ((k + 1 : Nat) : Int) := bE (by omega)
  have hl : (rows.take k).length = k := by rw [List.length_take]; omega
  refine bl (E := xJ) follows named (LJ x C N (rows.take k) i (k : Nat)) ?_
  simp only [az, T.WP, All, aB, aC, aA, w1, bB.ae, bN.ae, Int.toNat_natCast, nE, hl, bN.length]
  refine ⟨⟨aK, aL⟩, fun _ => ⟨⟨aK, aL⟩, ⟨aK, cA⟩, ?_⟩, fun h => by omega⟩
  rintro _ -
  refine ⟨vY _ hr, aK, ?_⟩
  rw [j5 ⟨0, []⟩ (show k < rows.length by omega)] at ih
  simp only [pO, dU, av, ab, List.length_append, List.length_singleton, hl] at ih ⊢
  exact ih
def wU (x : aM) (C : List V) (N : Nat) (i : Int) : St := ⟨ai 48 [(1, .ptr 0 0), (2, .ptr 1 0), (3, .ptr 2 0), (4, .int .i64 i)],
 [some (aP x, cO), some ([.osl dZ 0 false [], .int .i64 0], cO), some ([.osl dZ N true C, .int .i64 x.next], cO)], []⟩
noncomputable def Vc (C : List V) (N : Nat) : Nat -> St -> Option bT := fun id s => match id, s.tm.get 4, s.hp with
 | 2, .int _ i, some ([.dsl _ _ cs, .int _ nx], _) :: _ => some ⟨(), fun _ => .one { keep := [1, 2, 3, 4, 5, 6], pk := some ep, ic := [5] }
   (pO ⟨ae aI cs, nx⟩ C N [] i 0) (.exit 2) (pO ⟨ae aI cs, nx⟩ C N ((ae aI cs).getD i.toNat []) i ((ae aI cs).getD i.toNat []).length)⟩
 | _, _, _ => none
noncomputable def A1 (C : List V) (N : Nat) : Env := { P := Tryz.prog, vw := fv, res := zM, ls := Vc C N }
theorem LH (x : aM) (C : List V) (N : Nat) (i : Int) : bx (A1 C N) 0 WQ (lp Tryz.prog ew 0) (wU x C N i) = (
 let q5 := ae aI (ah aI x.ar);
 let q := aM.mk q5 x.next;
 let q1 := ai 48 [(1, .ptr 0 0), (2, .ptr 1 0), (3, .ptr 2 0), (4, aa i), (5, .sl 3 0 0 false), (6, aa 0)];
 let q2 := List.getD q5 i.toNat [];
 let q3 : List V := [.osl 46 0 false [], aa 0];
 let q6 : List V := [.osl 46 N true C, aa q.next];
 let q4 : Hp := [some ((aP q), 29), some (q3, 29), some (q6, 29), some ([.aJ []], 53)];
 let q7 : List V := [.osl 46 N true C, aa x.next]; bif decide (i < (↑x.ar.length : Int)) then .bind PUnit.unit fun _ => .ag [St.mk q1 [some ((aP x), 29), some (q3, 29), some (q7, 29), some ([.aJ []], 53)] [] = St.mk q1 q4 [],
  aV Tryz.prog 0 (blk Tryz.prog ew 2) (St.mk q1 q4 []) (Ex.exit 2) (St.mk (ai 48 [(1, .ptr 0 0), (2, .ptr 1 0), (3, .ptr 2 0), (4, aa i), (5, .sl 3 0 q2.length false), (6, aa (↑q2.length : Int))]) [some ((aP q), 29), some
  (q3, 29), some (q6, 29), some ([.aJ (ah av q2)], 53)] [])] (.ag [0 = 0, C.length = N * 1, N + 1 <= 9223372036854775807, (N + 1) * 24 <= 140737488355328] (.done (Ex.normal, St.mk (ai 48 [(1, .ptr 0 0), (2, .ptr 1 0), (3, .ptr 2
  0), (4, aa (IntKind.i64.wrap (i + 1)))]) [some ((aP q), 29), some (q3, 29), some ([.osl 46 (N + 1) true (C ++ [ab av q2]), aa q.next], 29)] []))) else .done (Ex.exit 0, St.mk (ai 48 [(1, .ptr 0 0), (2, .ptr 1 0), (3, .ptr 2
  0), (4, aa i)]) [some ((aP x), 29), some (q3, 29), some (q7, 29)] []) : T _) := by kernel_rfl
theorem ag1 (a : List Rw) (D : List (List Rw)) : (jE a D).length = (D.length + 1) * 1 := by
 unfold jE
 rw [List.length_cons, bB.length]; omega
theorem LI {x : aM} (hx : kf x) (a : List Rw) : ∀ (n i : Nat), i + 1 + n = x.ar.length ->
  a8 Tryz.prog 0 (lp Tryz.prog ew 0) (wU x (jE a ((x.ar.drop 1).take i)) (i + 1) ((i + 1 : Nat) : Int)) (.exit 0) (wU x (jE a (x.ar.drop 1)) x.ar.length x.ar.length)
 | 0, i, hi => by
  have hi : i + 1 = x.ar.length := hi
  have e : (x.ar.drop 1).take i = x.ar.drop 1 := List.take_of_length_le (by rw [List.length_drop]; omega)
  rw [e, hi]
  refine bl (E := A1 (jE a (x.ar.drop 1)) x.ar.length) follows named (LH x (jE a (x.ar.drop 1)) x.ar.length (x.ar.length : Nat)) ?_
  simp only [az, T.WP, All, aB, aC, aA]
  exact ⟨fun h => af, fun _ => ⟨rfl, rfl⟩⟩
 | n + 1, i, hi => by
  have hn := hx.n
  have ih := LI hx a n (i + 1) af
  have hl := LK hx (jE a ((x.ar.drop 1).take i)) (i + 1) (i + 1) af (x.ar.getD (i + 1) []).length 0 af
  have w1 : IntKind.i64.wrap (((i + 1 : Nat) : Int) + 1) = ((i + 1 + 1 : Nat) : Int) := bE af
  have hle : ((x.ar.drop 1).take i).length = i := by rw [List.length_take, List.length_drop]; omega
  have hg : (x.ar.drop 1).getD i [] = x.ar.getD (i + 1) [] := by
   rw [List.getD_eq_getElem?_getD, List.getD_eq_getElem?_getD, List.getElem?_drop, Nat.add_comm 1 i]
  refine bl (E := A1 (jE a ((x.ar.drop 1).take i)) (i + 1)) follows named (LH x (jE a ((x.ar.drop 1).take i)) (i + 1) ((i + 1 : Nat) : Int)) ?_
  simp only [az, T.WP, All, aB, aC, aA, w1, bB.ae, Int.toNat_natCast, ag1, hle]
  refine ⟨fun _ => ?_, fun h => af⟩
  rintro _ -
  rw [pO, pO, List.take_zero] at hl
  refine ⟨⟨bn, .bg hl⟩, aK, ?_⟩
  rw [j5 [] (show i < (x.ar.drop 1).length by rw [List.length_drop]; omega), hg] at ih
  have e : jE a ((x.ar.drop 1).take i ++ [x.ar.getD (i + 1) []]) = jE a ((x.ar.drop 1).take i) ++ aI (x.ar.getD (i + 1) []) := by
   unfold jE
   rw [dU]; rfl
  rw [e] at ih
  exact ih
noncomputable def Vb : Nat -> St -> Option bT := fun id s => match id, s.hp with
 | 0, some ([.dsl _ _ cs, .int _ nx], _) :: _ => some ⟨(), fun _ => .one { keep := [1, 2, 3, 4], pk := some ep, wq := [2] } (Fa ⟨ae aI cs, nx⟩ [] 0) (.exit 0) (wU ⟨ae aI cs, nx⟩ (jE ((ae aI cs).getD 0 []) ((ae aI cs).drop 1)) (ae aI cs).length (ae aI cs).length)⟩
 | _, _ => none
noncomputable def EQ : Env := { P := Tryz.prog, vw := fv, res := fun _ _ _ => none, ls := Vb }
theorem qT (x : aM) : fnT EQ 1 ew [.agg (aP x)] [] = (
 let q := ae aI (ah aI x.ar);
 let q3 := aM.mk q x.next;
 let q4 : List V := [.osl 46 0 false [], aa 0];
 let q1 : Hp := [some ((aP q3), 29), some (q4, 29), some ([.osl 46 0 true [], aa q3.next], 29)];
 let q2 := ai 48 [(1, .ptr 0 0), (2, .ptr 1 0), (3, .ptr 2 0), (4, aa 0)];
 let q5 := List.getD q 0 [];
 let q6 := q.length; .bind PUnit.unit fun _ => .ag [St.mk q2 [some ((aP x), 29), some (q4, 29), some ([.osl 46 0 true [], aa x.next], 29)] [] = St.mk q2 q1 [], aV (Env.P EQ) 0 (blk Tryz.prog ew 0) (St.mk q2 q1 []) (Ex.exit
  0) (St.mk (ai 48 [(1, .ptr 0 0), (2, .ptr 1 0), (3, .ptr 2 0), (4, aa (↑q6 : Int))]) [some ((aP q3), 29), some (q4, 29), some ([.osl 46 q6 true (.osl 53 q5.length true (ah bU q5) :: ah aI (List.drop 1 q)), aa
  q3.next], 29)] [])] (.done (aj.mk (.agg [.sl 0 0 q6 false, aa q3.next]) [some ([.cu (.osl 53 q5.length true (ah bU q5) :: ah aI (List.drop 1 q))], 46)] [])) : T _) := (T.force_eq _).symm.trans (by kernel_rfl)
theorem Eg {x : aM} (hx : kf x) (h1 : 1 <= x.ar.length) : ao Tryz.prog ew [.agg (aP x)] [] ⟨.agg [.sl 0 0 x.ar.length false, .int .i64 x.next], [some ([.cu (jE (x.ar.getD 0 []) (x.ar.drop 1))], dZ)], []⟩ := by
 have hn := hx.n
 have hl : a8 Tryz.prog 0 (lp Tryz.prog ew 0) (Fa x [] 0) (.exit 0) (wU x (jE (x.ar.getD 0 []) (x.ar.drop 1)) x.ar.length x.ar.length) := by
  have ih := LI hx (x.ar.getD 0 []) (x.ar.length - 1) 0 (by omega)
  have hl := La hx [] 0 (by omega) (x.ar.getD 0 []).length 0 (by omega)
  have w1 : IntKind.i64.wrap (((0 : Nat) : Int) + 1) = ((0 + 1 : Nat) : Int) := rfl
  refine bl (E := AY) follows named (Yc x [] ((0 : Nat) : Int)) ?_
  simp only [az, T.WP, All, aB, aC, aA, w1, bB.ae, Int.toNat_natCast, Qj, List.take_zero, List.length_nil]
  refine ⟨fun _ => ?_, fun h => by omega⟩
  rintro _ -
  rw [pN, pN, List.take_zero] at hl
  refine ⟨⟨bn, .bg hl⟩, aK, ?_⟩
  exact ih
 refine bh (E := EQ) follows named (qT x) (by simp) ?_
 simp only [T.WP, All, aA, bB.ae]
 rintro _ -
 exact ⟨⟨bn, .bg hl⟩, ⟨rfl, rfl, by simp⟩⟩
def l8 (a b c : List Rw) : List V := [.osl dy a.length true (ah bU a), ab av b, ab av c]
noncomputable def AA : Vw := fun t cs i => bif Nat.beq t dZ then (match cs[i]? with | some v => some [v] | none => none) else pW t cs i
noncomputable def Y7 (a b c : List Rw) : cP := fun f vs _ =>
 bif Nat.beq f ew then (match vs with | [.agg [.dsl _ _ _, .int _ nx]] => some ⟨(), fun _ => ⟨.agg [.sl 0 0 3 false, .int .i64 nx], [some ([.cu (l8 a b c)], dZ)], []⟩⟩ | _ => none) else none
noncomputable def FL (a b c : List Rw) : Env := { P := Tryz.prog, vw := AA, res := Y7 a b c, pk := some K7 }
theorem P4 (a b c : List Rw) (nx k : Int) : fnT (FL a b c) 1 sN [.agg (aP ⟨[a, b, c], nx⟩), .int .i64 1, .int .i64 k] [] = (
 let q := IntKind.i64.wrap (k + 1);
 let q1 := List.take (k.toNat * 2) (ah av b);
 let q2 := k.toNat - 0;
 let q3 := List.take (b.length * 2) (ah av b);
 let q4 := b.length - q.toNat;
 let q8 := aM.next (aM.mk [a, b, c] nx);
 let q5 : V := .agg [.sl 0 0 3 false, aa q8];
 let q6 : List Prop := [(0 : Int) <= 1 /\ (1 : Int) < 3];
 let q7 := ([ab av b] : List V);
 let q9 := q.toNat * 2;
 let br := List.drop 0 q1; .bind PUnit.unit fun _ => .ag [ao Tryz.prog 74 [.agg [.dsl 3 false [ab av a, ab av b, ab av c], aa q8]] [] (aj.mk q5 [some ([.cu [.osl 53 a.length true (ah bU a), ab av b, ab
  av c]], 46)] [])] (.ag q6 (.ag [q7 = [ab av b]] (.ag [0 <= k /\ k <= (↑b.length : Int)] (.ag [br.length = q2 * 2, List.all br V.one = true, 0 = 0, 0 = 0, 0 + q2 <= 9223372036854775807, (0 + q2) * 32 <= 140737488355328]
  (.ag q6 (.ag [q7 = [ab av b]] (.ag [0 <= IntKind.i64.wrap (k + 1) /\ IntKind.i64.wrap (k + 1) <= (↑b.length : Int)] (.ag [List.length (List.drop q9 q3) = q4 * 2, List.all (List.drop q9 q3) V.one = true, 0 = 0, br.length = (0
  + q2) * 2, 0 + q2 + q4 <= 9223372036854775807, (0 + q2 + q4) * 32 <= 140737488355328] (.ag q6 (.ag [q7 = [ab av b], 2 <= 3] (.done (aj.mk q5 [some ([.cu [.osl 53 a.length true (ah bU a), .dsl (0 + q2 + q4) false (List.drop
  0 q1 ++ List.drop q9 q3), ab av c]], 46)] [])))))))))))) : T _) := (T.force_eq _).symm.trans (by kernel_rfl)
theorem P8 {a b c : List Rw} {nx : Int} (hx : kf ⟨[a, b, c], nx⟩) (k : Nat) (hk : k < b.length) : ao Tryz.prog sN [.agg (aP ⟨[a, b, c], nx⟩), .int .i64 1, .int .i64 k] [] ⟨.agg [.sl 0 0 3 false, .int .i64 nx], [some ([.cu (l8 a (fq b k) c)], dZ)], []⟩ := by
 have hn : b.length <= 1048576 := hx.t b (by simp)
 have hw : IntKind.i64.wrap ((k : Int) + 1) = ((k + 1 : Nat) : Int) := bE (by omega)
 have h1 : (b.take k).length = k := by rw [List.length_take]; omega
 have h2 : (b.drop (k + 1)).length = b.length - (k + 1) := List.length_drop
 refine bh (E := FL a b c) follows named (P4 a b c nx (k : Nat)) (by simp) ?_
 simp only [T.WP, All, aA, Int.toNat_natCast, Nat.zero_add, Nat.sub_zero, List.drop_zero, hw, bN.take, bN.drop, bN.length, bN.all, List.take_length, h1, h2]
 rintro _ -
 refine ⟨Eg hx (by simp), aK, aK, aK, aK, aK, aK, aK, aK, aK, aK, ?_⟩
 rw [MS (b.take k) (b.drop (k + 1)) (k + (b.length - (k + 1))) (by rw [h1, h2])]
 exact ⟨rfl, rfl, by simp⟩
abbrev cb : Nat := 65
noncomputable def xh : Vw := fun t cs i => bif Nat.beq t dy then some (bU ((ae bU cs).getD i Rw.zero)) else AA t cs i
def eH (S : aS) (a b c : List Rw) (nx : Int) : Hp := [some ([ab aq S], pS), some ([.osl dZ 3 true (l8 a b c), .int .i64 nx], cO), some ([.osl dZ 0 false [], .int .i64 0], cO)]
def Ai (S : aS) (a b c : List Rw) (nx k : Int) (l d : aU) (n : Int) : St := ⟨ai 164 [(2, .ptr 0 0), (3, .ptr 1 0), (4, .ptr 2 0), (8, .int .i64 0), (9, .int .i64 1), (11, ab av b), (12, .int .i64 k), (13, .sl 3 0 l.length false), (14, ab ak d), (15, .int .i64 n)],
 eH S a b c nx ++ [some ([.aJ (ah ak l)], nT)], []⟩
def Ah (S : aS) (a b c : List Rw) (nx k : Int) : St := ⟨ai 164 [(2, .ptr 0 0), (3, .ptr 1 0), (4, .ptr 2 0), (8, .int .i64 0), (9, .int .i64 1), (11, ab av b), (12, .int .i64 k)], eH S a b c nx, []⟩
def W5 : Ex -> Kp := fun ex => match ex with
 | .normal => { keep := [2, 3, 4, 8, 9, 11, 12, 13, 14, 15], pk := some ep }
 | _ => { keep := [2, 3, 4, 8, 9, 11, 12, 13], pk := some ep }
def W4 : Ex -> Kp := fun ex => match ex with
 | .normal => { keep := [2, 3, 4, 8, 9, 11, 12], pk := some ep }
 | _ => { keep := [2, 3, 4, 8, 9], pk := some ep }
noncomputable def EW : Env := { P := Tryz.prog, vw := xh, res := tP }
theorem Ny (S : aS) (a b c : List Rw) (nx k : Int) (l d : aU) (n : Int) : bx EW 0 W5 (lp Tryz.prog cb 12) (Ai S a b c nx k l d n) = (
 let q := List.getD (ae ak (ah ak d)) n.toNat (At.mk (0 : Int) (0 : Int) []);
 let q2 : List V := [.osl 46 3 true [.osl 53 a.length true (ah bU a), ab av b, ab av c], aa nx];
 let q5 : List V := [.osl 46 0 false [], aa 0];
 let q1 : Hp := [some ([ab aq S], 25), some (q2, 29), some (q5, 29), some ([.aJ (ah ak l)], 143)];
 let q3 : List Prop := [0 <= n /\ n < (↑d.length : Int), List.take 3 (List.drop (n.toNat * 3) (ah ak d)) = ak q];
 let q4 := IntKind.i64.wrap (n + 1); bif decide (n < (↑d.length : Int)) then .ag q3 (.bind (ct (ae av (ah av b)) q.n) fun y0 => .ag [ao (Env.P EW) 140 [ab av b, aa q.n] [] (aj.mk (aa y0) [] [])] (bif decide (y0
  >= 0) then .ag q3 (.ag [0 = 0, List.length (ah ak l) = l.length * 3, l.length + 1 <= 9223372036854775807, (l.length + 1) * 32 <= 140737488355328] (.done (Ex.normal, St.mk (ai 164 [(2, .ptr 0 0), (3, .ptr 1 0), (4, .ptr 2 0),
  (8, aa 0), (9, aa 1), (11, ab av b), (12, aa k), (13, .sl 3 0 (l.length + 1) false), (14, ab ak d), (15, aa q4)]) [some ([ab aq S], 25), some (q2, 29), some (q5, 29), some ([.aJ (ah ak l ++ (ak q))], 143)]
  []))) else .done (Ex.normal, St.mk (ai 164 [(2, .ptr 0 0), (3, .ptr 1 0), (4, .ptr 2 0), (8, aa 0), (9, aa 1), (11, ab av b), (12, aa k), (13, .sl 3 0 l.length false), (14, ab ak d), (15, aa q4)]) q1 []))) else .done
  (Ex.exit 12, St.mk (ai 164 [(2, .ptr 0 0), (3, .ptr 1 0), (4, .ptr 2 0), (8, aa 0), (9, aa 1), (11, ab av b), (12, aa k), (13, .sl 3 0 l.length false)]) q1 []) : T _) := by kernel_rfl
noncomputable def Vq (S : aS) (a b c : List Rw) (nx : Int) : Nat -> St -> Option bT := fun id s => match id, s.tm.get 12, s.tm.get 14 with
 | 12, .int _ k, .dsl _ _ ds => some ⟨iH b (ae ak ds), fun y => .one { keep := [2, 3, 4, 8, 9, 11, 12, 13, 14, 15], pk := some ep, ic := [13] } (Ai S a b c nx k [] (ae ak ds) 0) (.exit 12) ⟨ai 164 [(2, .ptr 0 0), (3, .ptr 1 0), (4, .ptr 2 0), (8, .int .i64 0), (9, .int .i64 1), (11, ab av b), (12, .int .i64 k), (13, .sl 3 0 y.length false)], eH S a b c nx ++ [some ([.aJ (ah ak y)], nT)], []⟩⟩
 | _, _, _ => none
noncomputable def A7 (S : aS) (a b c : List Rw) (nx : Int) : Env := { P := Tryz.prog, vw := xh, res := tP, ls := Vq S a b c nx }
theorem Nx (S : aS) (a b c : List Rw) (nx k : Int) : bx (A7 S a b c nx) 0 W4 (lp Tryz.prog cb 10) (Ah S a b c nx k) = (
 let q6 := ah bU a;
 let bD := 0 + k.toNat * 2;
 let q := List.getD (ae bU q6) (bD / 2) (Rw.mk (0 : Int) []);
 let q1 := ah a7 q.cells;
 let q2 : List V := [.osl 46 3 true [.osl 53 a.length true q6, ab av b, ab av c], aa nx];
 let q7 := List.getD (ae a7 q1) 1 [];
 let q3 := ai 164 [(2, .ptr 0 0), (3, .ptr 1 0), (4, .ptr 2 0), (8, aa 0), (9, aa 1), (11, ab av b), (12, aa k), (13, .sl 3 0 0 false), (14, ab ak (ae ak (ah ak q7))), (15, aa 0)];
 let q8 := q.cells.length;
 let q4 : List Prop := [List.take 2 (List.drop bD q6) = [aa q.id, .osl 32 q8 false q1], 0 + k.toNat * 2 + 2 <= q6.length];
 let q5 : List V := [.osl 46 0 false [], aa 0];
 let q9 : Hp := [some ([ab aq S], 25), some (q2, 29), some (q5, 29), some ([.aJ []], 143)];
 let br : List V := [.osl 53 a.length true q6];
 let bL : List Prop := [(0 : Int) <= 0 /\ (0 : Int) < 3];
 let ca : List Prop := [(0 : Int) <= 1 /\ (1 : Int) < (↑q8 : Int)];
 let cU := (↑a.length : Int); .ag bL (.ag [(br : List V) = br, 1 <= 3] (bif decide (k < cU) then .ag bL (.ag [0 = 0] (.ag [0 <= k /\ k < cU] (.ag q4 (.ag ca (.ag [List.take 1 (List.drop 1 q1) = [ab ak q7]] (.bind
  (iH b (ae ak (ah ak q7))) fun y0 => .ag [St.mk (ai 164 [(2, .ptr 0 0), (3, .ptr 1 0), (4, .ptr 2 0), (8, aa 0), (9, aa 1), (11, ab av b), (12, aa k), (13, .sl 3 0 0 false), (14, ab ak q7), (15, aa 0)])
  [some ([ab aq S], 25), some ([.osl 46 3 true [.osl 53 a.length true (List.take bD q6 ++ aa q.id :: .osl 32 q8 false q1 :: List.drop (0 + k.toNat * 2 + 2) q6), ab av b, ab av c], aa nx], 29), some (q5, 29), some ([.aJ
  []], 143)] [] = St.mk q3 q9 [], aV Tryz.prog 0 (blk Tryz.prog cb 12) (St.mk q3 q9 []) (Ex.exit 12) (St.mk (ai 164 [(2, .ptr 0 0), (3, .ptr 1 0), (4, .ptr 2 0), (8, aa 0), (9, aa 1), (11, ab av b), (12, aa k), (13, .sl
  3 0 y0.length false)]) [some ([ab aq S], 25), some (q2, 29), some (q5, 29), some ([.aJ (ah ak y0)], 143)] [])] (.ag bL (.ag [(br : List V) = br, 1 <= 3] (.ag [0 <= k /\ k < cU] (.ag q4 (.ag ca (.ag [List.take 1
  (List.drop 1 q1) = [ab ak q7], 2 <= q1.length] (.done (Ex.normal, St.mk (ai 164 [(2, .ptr 0 0), (3, .ptr 1 0), (4, .ptr 2 0), (8, aa 0), (9, aa 1), (11, ab av b), (12, aa (IntKind.i64.wrap (k + 1)))]) [some ([ab aq S],
  25), some ([.osl 46 3 true [.osl 53 a.length true (List.take bD q6 ++ aa q.id :: .osl 32 q8 false (List.take 1 q1 ++ ab ak y0 :: List.drop 2 q1) :: List.drop (0 + k.toNat * 2 + 2) q6), ab av b, ab av c], aa nx], 29),
  some (q5, 29)] [])))))))))))))) else .done (Ex.exit 10, St.mk (ai 164 [(2, .ptr 0 0), (3, .ptr 1 0), (4, .ptr 2 0), (8, aa 0), (9, aa 1)]) [some ([ab aq S], 25), some (q2, 29), some (q5, 29)] []))) : T _) := (T.force_eq _).symm.trans (by kernel_rfl)
theorem Qk {α : Type} {enc : α -> List V} {s : Nat} (pos : 0 < s) (len : ∀ x, (enc x).length = s) (DF : ∀ x y, enc x = enc y -> x = y) : ∀ L M : List α, ah enc L = ah enc M -> L = M := by
 intro L
 induction L with
 | nil =>
  intro M hM
  cases M with
  | nil => rfl
  | cons y M =>
   have h1 := len y
   rw [uT, eu] at hM
   have := congrArg List.length hM
   rw [List.length_append] at this
   rw [h1, List.length_nil] at this; omega
 | cons x L ih =>
  intro M hM
  cases M with
  | nil =>
   have h1 := len x
   rw [uT, eu] at hM
   have := congrArg List.length hM
   rw [List.length_append] at this
   rw [h1, List.length_nil] at this; omega
  | cons y M =>
   rw [eu, eu] at hM
   obtain ⟨e1, e2⟩ := List.append_inj hM (by rw [len, len])
   rw [DF _ _ e1, ih M e2]
theorem PQ (L : List Rw) : ae bU (ah bU L) = L := by
 have he : ∃ M, ah bU M = ah bU L := ⟨L, rfl⟩
 unfold ae
 rw [dif_pos he]
 refine Qk (enc := bU) (s := 2) af (fun _ => rfl) (fun x y h => ?_) _ _ he.choose_spec
 cases x; cases y
 simp only [bU, List.cons.injEq, V.int.injEq, V.osl.injEq, true_and, and_true] at h
 obtain ⟨h1, _, h2⟩ := h
 simp only [Rw.mk.injEq]
 exact ⟨h1, bV.inj _ _ h2⟩
theorem BS {α : Type} {enc : α -> List V} {s : Nat} (h : ∀ x, (enc x).length = s) : ∀ (L : List α) (i : Nat), (ah enc L).drop (i * s) = ah enc (L.drop i)
 | L, 0 => by simp
 | [], i + 1 => by simp [ah]
 | x :: L, i + 1 => by
  rw [eu, List.drop_succ_cons, <- BS h L i, show (i + 1) * s = (enc x).length + i * s by rw [h, Nat.succ_mul]; omega, <- List.drop_drop, List.drop_left]
theorem Hz {α : Type} {enc : α -> List V} {s : Nat} (h : ∀ x, (enc x).length = s) : ∀ (L : List α) (i : Nat), (ah enc L).take (i * s) = ah enc (L.take i)
 | L, 0 => by simp [ah]
 | [], i + 1 => by simp [ah]
 | x :: L, i + 1 => by
  rw [eu, List.take_succ_cons, eu, <- Hz h L i, show (i + 1) * s = (enc x).length + i * s by rw [h, Nat.succ_mul]; omega, List.take_length_add_append]
theorem Qh (L : List Rw) (i : Nat) (hi : i < L.length) : ((ah bU L).drop (i * 2)).take 2 = bU (L.getD i ⟨0, []⟩) := by
 rw [BS (enc := bU) (s := 2) (fun _ => rfl), gh ⟨0, []⟩ hi, eu]
 rfl
theorem Hx (L : List Rw) (i : Nat) (hi : i < L.length) (r : Rw) : ah bU (L.set i r) = (ah bU L).take (i * 2) ++ (bU r ++ (ah bU L).drop (i * 2 + 2)) := by
 rw [List.set_eq_take_append_cons_drop, if_pos hi, qk, eu, Hz (enc := bU) (s := 2) (fun _ => rfl), show i * 2 + 2 = (i + 1) * 2 by omega, BS (enc := bU) (s := 2) (fun _ => rfl)]
theorem Qi (L : List Rw) (i : Nat) (hi : i < L.length) : ah bU L = (ah bU L).take (i * 2) ++ (bU (L.getD i ⟨0, []⟩) ++ (ah bU L).drop (i * 2 + 2)) := by
 have := Hx L i hi (L.getD i ⟨0, []⟩)
 have e : L.set i (L.getD i ⟨0, []⟩) = L := by
  apply List.ext_getElem?
  intro j
  rw [List.getElem?_set]
  split
  ·rename_i h
   subst h
   rw [List.getD_eq_getElem?_getD, List.getElem?_eq_getElem hi]; rfl
  ·rfl
 rw [e] at this
 exact this
theorem Um (b : List Rw) (d : aU) (n : Nat) (hn : n < d.length) : iH b (d.take (n + 1)) = iH b (d.take n) ++ (bif decide (0 <= ct b (d.getD n ⟨0, 0, []⟩).n) then [d.getD n ⟨0, 0, []⟩] else []) := by
 unfold iH
 rw [j5 ⟨0, 0, []⟩ hn, List.filter_append]
 congr 1
def ad6 (S : aS) (a b c : List Rw) (nx k : Int) (y : aU) : St := ⟨ai 164 [(2, .ptr 0 0), (3, .ptr 1 0), (4, .ptr 2 0), (8, .int .i64 0), (9, .int .i64 1), (11, ab av b), (12, .int .i64 k), (13, .sl 3 0 y.length false)], eH S a b c nx ++ [some ([.aJ (ah ak y)], nT)], []⟩
theorem Nw (S : aS) (a b c : List Rw) (nx k : Int) (d : aU) (hb : b.length <= 1048576) (hd : d.length <= 1048576) : ∀ (m n : Nat), n + m = d.length ->
  a8 Tryz.prog 0 (lp Tryz.prog cb 12) (Ai S a b c nx k (iH b (d.take n)) d n) (.exit 12) (ad6 S a b c nx k (iH b d))
 | 0, n, hn => by
  have hn : n = d.length := hn
  subst hn
  rw [List.take_length]
  refine bl (E := EW) follows named (Ny S a b c nx k (iH b d) d (d.length : Nat)) ?_
  simp only [az, T.WP, All, aB, aC, aA]
  exact ⟨fun h => af, fun _ => ⟨rfl, rfl⟩⟩
 | m + 1, n, hn => by
  have aL := bq.at d ⟨0, 0, []⟩ n 3 af rfl
  have ih := Nw S a b c nx k d hb hd m (n + 1) af
  have w1 : IntKind.i64.wrap ((n : Int) + 1) = ((n + 1 : Nat) : Int) := bE af
  have cC : (iH b (d.take n)).length <= 1048576 := by
   refine Nat.le_trans (List.length_filter_le _ _) ?_
   rw [List.length_take]; omega
  rw [Um b d n af] at ih
  refine bl (E := EW) follows named (Ny S a b c nx k (iH b (d.take n)) d (n : Nat)) ?_
  simp only [az, T.WP, All, aB, aC, aA, w1, bq.ae, bN.ae, bq.length, Int.toNat_natCast]
  refine ⟨fun _ => ⟨⟨aK, aL⟩, ?_⟩, fun h => af⟩
  rintro y rfl
  refine ⟨En _ _ hb, fun h => ?_, fun h => ?_⟩
  ·rw [decide_eq_true (by omega : 0 <= ct b (d.getD n ⟨0, 0, []⟩).n), cond_true] at ih
   refine ⟨⟨aK, aL⟩, aK, ?_⟩
   simp only [Ai, dU, ak, List.length_append, List.length_singleton] at ih ⊢
   exact ih
  ·rw [decide_eq_false (by omega : ¬ 0 <= ct b (d.getD n ⟨0, 0, []⟩).n), cond_false, List.append_nil] at ih
   exact ih
def j2 (S : aS) (a b c : List Rw) (nx i k : Int) : St := ⟨ai 164 [(2, .ptr 0 0), (3, .ptr 1 0), (4, .ptr 2 0), (8, .int .i64 i), (9, .int .i64 k)], eH S a b c nx, []⟩
theorem ab0 {α : Type} (f : α -> α) (d : α) (a : List α) (k : Nat) (hk : k < a.length) : (a.set k (f (a.getD k d))).take (k + 1) ++ ((a.set k (f (a.getD k d))).drop (k + 1)).map f = a.take k ++ (a.drop k).map f := by
 rw [gh d hk, List.map_cons, List.drop_set_of_lt af, j5 d (by rw [List.length_set]; exact hk), List.take_set_of_le (Nat.le_refl _), List.append_assoc]
 congr 1
 rw [List.singleton_append]
 congr 1
 rw [List.getD_eq_getElem?_getD, List.getElem?_set_self hk]
 rfl
theorem Nv (S : aS) (b c : List Rw) (nx : Int) (hb : b.length <= 1048576) : ∀ (m k : Nat) (a : List Rw), k + m = a.length -> a.length <= 1048576 -> (∀ r ∈ a, ir r /\ 2 <= r.cells.length) ->
  a8 Tryz.prog 0 (lp Tryz.prog cb 10) (Ah S a b c nx k) (.exit 10) (j2 S (a.take k ++ (a.drop k).map (eD b 1)) b c nx 0 1)
 | 0, k, a, hk, ha, hr => by
  have hk : k = a.length := hk
  subst hk
  rw [List.take_length, List.drop_length, List.map_nil, List.append_nil]
  refine bl (E := A7 S a b c nx) follows named (Nx S a b c nx (a.length : Nat)) ?_
  simp only [az, T.WP, All, decide_eq_true_eq, decide_eq_false_iff_not, and_true]
  exact ⟨(by (repeat' with_reducible apply And.intro) <;> first | omega | with_reducible rfl | assumption | exact True.intro | trivial | rfl), (by (repeat' with_reducible apply And.intro) <;> first | omega | with_reducible rfl | assumption | exact True.intro | trivial | rfl), fun h => by omega, fun _ => ⟨rfl, rfl⟩⟩
 | m + 1, k, a, hk, ha, hr => by
  have dD : k < a.length := by omega
  have vL := hr _ (bP ⟨0, []⟩ dD)
  have w1 : IntKind.i64.wrap ((k : Int) + 1) = ((k + 1 : Nat) : Int) := bE (by omega)
  have aL := Qh a k dD
  have kS := Qi a k dD
  have cG := Hx a k dD (eD b 1 (a.getD k ⟨0, []⟩))
  have ih := Nv S b c nx hb m (k + 1) (a.set k (eD b 1 (a.getD k ⟨0, []⟩))) (by rw [List.length_set]; omega) (by rw [List.length_set]; exact ha) (fun r h => by
   rcases List.mem_or_eq_of_mem_set h with h | rfl
   ·exact hr r h
   ·refine ⟨⟨?_, fun d hd => ?_⟩, ?_⟩
    ·show (List.set _ _ _).length <= _
     rw [List.length_set]; exact vL.1.n
    ·rcases List.mem_or_eq_of_mem_set (show d ∈ List.set _ _ _ from hd) with hd | rfl
     ·exact vL.1.d d hd
     ·exact Nat.le_trans (List.length_filter_le _ _) (vL.1.d _ (bP [] (by omega)))
    ·show 2 <= (List.set _ _ _).length
     rw [List.length_set]; exact vL.2)
  rw [ab0 (eD b 1) ⟨0, []⟩ a k dD] at ih
  have fZ : eD b 1 (a.getD k ⟨0, []⟩) = ⟨(a.getD k ⟨0, []⟩).id, (a.getD k ⟨0, []⟩).cells.set 1 (iH b ((a.getD k ⟨0, []⟩).cells.getD 1 []))⟩ := rfl
  rw [fZ] at cG ih
  generalize nF : a.getD k ⟨0, []⟩ = r at *
  have mz := bV.at r.cells [] 1 1 (by omega) rfl
  have jt := bV.setAt r.cells 1 (by omega) (iH b (r.cells.getD 1 []))
  have hd := vL.1.d _ (bP [] (show 1 < r.cells.length by omega))
  have hl := Nw S a b c nx k (r.cells.getD 1 []) hb hd (r.cells.getD 1 []).length 0 (by omega)
  generalize RJ : r.cells.getD 1 [] = d at *
  refine bl (E := A7 S a b c nx) follows named (Nx S a b c nx (k : Nat)) ?_
  simp only [az, T.WP, All, decide_eq_true_eq, decide_eq_false_iff_not, and_true, w1, bq.ae, bV.ae, PQ, Int.toNat_natCast, Nat.zero_add, Nat.mul_div_cancel _ (show 0 < 2 by omega), nF, RJ]
  refine ⟨(by (repeat' with_reducible apply And.intro) <;> first | omega | with_reducible rfl | assumption | exact True.intro | trivial | rfl), (by (repeat' with_reducible apply And.intro) <;> first | omega | with_reducible rfl | assumption | exact True.intro | trivial | rfl), fun _ => ⟨(by (repeat' with_reducible apply And.intro) <;> first | omega | with_reducible rfl | assumption | exact True.intro | trivial | rfl), (by (repeat' with_reducible apply And.intro) <;> first | omega | with_reducible rfl | assumption | exact True.intro | trivial | rfl), (by (repeat' with_reducible apply And.intro) <;> first | omega | with_reducible rfl | assumption | exact True.intro | trivial | rfl), ⟨aL, by rw [BR]; omega⟩, (by (repeat' with_reducible apply And.intro) <;> first | omega | with_reducible rfl | assumption | exact True.intro | trivial | rfl), mz, ?_⟩, fun h => by omega⟩
  rintro y rfl
  have S3 : List.take (k * 2) (ah bU a) ++ V.int .i64 r.id :: V.osl jD r.cells.length false (ah a7 r.cells) :: List.drop (k * 2 + 2) (ah bU a) = ah bU a := kS.symm
  refine ⟨⟨by rw [S3], .bg hl⟩, (by (repeat' with_reducible apply And.intro) <;> first | omega | with_reducible rfl | assumption | exact True.intro | trivial | rfl), (by (repeat' with_reducible apply And.intro) <;> first | omega | with_reducible rfl | assumption | exact True.intro | trivial | rfl), (by (repeat' with_reducible apply And.intro) <;> first | omega | with_reducible rfl | assumption | exact True.intro | trivial | rfl), ⟨aL, by rw [BR]; omega⟩, (by (repeat' with_reducible apply And.intro) <;> first | omega | with_reducible rfl | assumption | exact True.intro | trivial | rfl), ?_⟩
  refine ⟨⟨mz, by rw [bV.length]; omega⟩, ?_⟩
  have e1 : bU ⟨r.id, r.cells.set 1 (iH b d)⟩ = [.int .i64 r.id, .osl jD r.cells.length false (ah a7 (r.cells.set 1 (iH b d)))] := by unfold bU; rw [List.length_set]
  rw [e1, jt] at cG
  simp only [Ah, eH, l8, List.length_set] at ih ⊢
  rw [cG] at ih
  exact ih
def Ky : Ex -> Kp := fun ex => match ex with
 | .normal => { keep := [2, 3, 4, 8, 9], pk := some ep }
 | _ => { keep := [2, 3, 4, 8], pk := some ep }
def W6 : Ex -> Kp := fun ex => match ex with
 | .normal => { keep := [2, 3, 4, 8], pk := some ep }
 | _ => { keep := [3, 4], pk := some ep }
def lZ (S : aS) (a b c : List Rw) (nx i : Int) : St := ⟨ai 164 [(2, .ptr 0 0), (3, .ptr 1 0), (4, .ptr 2 0), (8, .int .i64 i)], eH S a b c nx, []⟩
noncomputable def A9 : Env := { P := Tryz.prog, vw := xh, res := fun _ _ _ => none }
noncomputable def Zh : cP := fun f _ _ => bif Nat.beq f nd then some ⟨(), fun _ => ⟨.int .i64 1, [], []⟩⟩ else none
noncomputable def Vs (S : aS) (a b c : List Rw) (nx : Int) : Nat -> St -> Option bT := fun id _ => match id with
 | 10 => some ⟨(), fun _ => .one { keep := [2, 3, 4, 8, 9, 11, 12], pk := some ep } (Ah S a b c nx 0) (.exit 10) (j2 S (a.map (eD b 1)) b c nx 0 1)⟩
 | _ => none
noncomputable def F8 (S : aS) (a b c : List Rw) (nx : Int) : Env := { P := Tryz.prog, vw := xh, res := Zh, ls := Vs S a b c nx }
noncomputable def Vr (S : aS) (a a' b c : List Rw) (nx : Int) : Nat -> St -> Option bT := fun id s => match id, s.tm.get 8 with
 | 8, .int _ i => some ⟨(), fun _ => .one { keep := [2, 3, 4, 8, 9], pk := some ep } (j2 S a b c nx i 0) (.exit 8) (lZ S a' b c nx i)⟩
 | _, _ => none
noncomputable def A8 (S : aS) (a a' b c : List Rw) (nx : Int) : Env := { P := Tryz.prog, vw := xh, res := fun _ _ _ => none, ls := Vr S a a' b c nx }
theorem NA (S : aS) (a b c : List Rw) (nx i k : Int) : bx A9 0 Ky (lp Tryz.prog cb 8) (j2 S a b c nx i k) = (
 let q1 := List.getD (ae aq (ah aq S)) i.toNat (Tb.mk [] [] [] false);
 let q6 := ah ba q1.aw;
 let q := List.getD (ae ba q6) k.toNat (bt.mk [] (0 : Int) (0 : Int) (0 : Int) (0 : Int) (0 : Int) [] false);
 let q2 : Hp := [some ([ab aq S], 25), some ([.osl 46 3 true [.osl 53 a.length true (ah bU a), ab av b, ab av c], aa nx], 29), some ([.osl 46 0 false [], aa 0], 29)];
 let q3 := ai 164 [(2, .ptr 0 0), (3, .ptr 1 0), (4, .ptr 2 0), (8, aa i), (9, aa (IntKind.i64.wrap (k + 1)))];
 let q4 : List Prop := [0 <= i /\ i < (↑S.length : Int), List.take 4 (List.drop (i.toNat * 4) (ah aq S)) = (aq q1)];
 let q5 := (↑q1.aw.length : Int); .ag q4 (bif decide (k < q5) then .ag q4 (.ag [0 <= k /\ k < q5, List.take 8 (List.drop (k.toNat * 8) q6) = [.str q.name, aa q.kind, aa q.min, aa q.max, aa q.low, aa q.high, .str q.ref, .bool
  q.eR]] (bif q.kind != 4 then .done (Ex.normal, St.mk q3 q2 []) else bif q.eR then .done (Ex.normal, St.mk q3 q2 []) else .fail)) else .done (Ex.exit 8, St.mk (ai 164 [(2, .ptr 0 0), (3, .ptr 1 0), (4, .ptr 2 0), (8, aa i)])
  q2 [])) : T _) := (T.force_eq _).symm.trans (by kernel_rfl)
theorem ai7 (S : aS) (a b c : List Rw) (nx : Int) : bx (F8 S a b c nx) 0 Ky (lp Tryz.prog cb 8) (j2 S a b c nx 0 1) = (
 let q2 := List.getD (ae aq (ah aq S)) 0 (Tb.mk [] [] [] false);
 let q9 := ah ba q2.aw;
 let q := List.getD (ae ba q9) 1 (bt.mk [] (0 : Int) (0 : Int) (0 : Int) (0 : Int) (0 : Int) [] false);
 let q8 : List V := [.osl 46 0 false [], aa 0];
 let q1 : Hp := [some ([ab aq S], 25), some ([.osl 46 3 true [.osl 53 a.length true (ah bU a), ab av b, ab av c], aa nx], 29), some (q8, 29)];
 let q3 := ai 164 [(2, .ptr 0 0), (3, .ptr 1 0), (4, .ptr 2 0), (8, aa 0), (9, aa 1), (11, ab av b), (12, aa 0)];
 let q4 : Hp := [some ([ab aq S], 25), some ([.osl 46 3 true [.osl 53 (List.length (List.map (eD b 1) a)) true (ah bU (List.map (eD b 1) a)), ab av b, ab av c], aa nx], 29), some (q8, 29)];
 let q5 := ai 164 [(2, .ptr 0 0), (3, .ptr 1 0), (4, .ptr 2 0), (8, aa 0), (9, aa 2)];
 let q6 : List Prop := [(0 : Int) <= 0 /\ (0 : Int) < (↑S.length : Int), List.take 4 (List.drop 0 (ah aq S)) = (aq q2)];
 let q7 := (↑q2.aw.length : Int); .ag q6 (bif decide ((1 : Int) < q7) then .ag q6 (.ag [(0 : Int) <= 1 /\ (1 : Int) < q7, List.take 8 (List.drop 8 q9) = [.str q.name, aa q.kind, aa q.min, aa q.max, aa q.low, aa q.high, .str
  q.ref, .bool q.eR]] (bif q.kind != 4 then .done (Ex.normal, St.mk q5 q1 []) else bif q.eR then .done (Ex.normal, St.mk q5 q1 []) else .bind PUnit.unit fun _ => .ag [ao Tryz.prog 113 [.agg [ab aq S], .str q.ref] []
  (aj.mk (aa 1) [] [])] (.ag [(0 : Int) <= 1 /\ (1 : Int) < 3] (.ag [([ab av b] : List V) = [ab av b]] (.bind PUnit.unit fun _ => .ag [St.mk q3 q1 [] = St.mk q3 q1 [], aV Tryz.prog 0 (blk Tryz.prog cb 10) (St.mk q3
  q1 []) (Ex.exit 10) (St.mk (ai 164 [(2, .ptr 0 0), (3, .ptr 1 0), (4, .ptr 2 0), (8, aa 0), (9, aa 1)]) q4 [])] (.done (Ex.normal, St.mk q5 q4 []))))))) else .done (Ex.exit 8, St.mk (ai 164 [(2, .ptr 0 0), (3, .ptr 1 0), (4, .ptr
  2 0), (8, aa 0)]) q1 [])) : T _) := (T.force_eq _).symm.trans (by kernel_rfl)
theorem Nz (S : aS) (a a' b c : List Rw) (nx i : Int) : bx (A8 S a a' b c nx) 0 W6 (lp Tryz.prog cb 6) (lZ S a b c nx i) = (
 let q3 : List V := [.osl 46 3 true [.osl 53 a.length true (ah bU a), ab av b, ab av c], aa nx];
 let q4 : List V := [.osl 46 0 false [], aa 0];
 let q : Hp := [some ([ab aq S], 25), some (q3, 29), some (q4, 29)];
 let q1 : Hp := [some ([ab aq S], 25), some ([.osl 46 3 true [.osl 53 (List.length a') true (ah bU a'), ab av b, ab av c], aa nx], 29), some (q4, 29)];
 let q2 := ai 164 [(2, .ptr 0 0), (3, .ptr 1 0), (4, .ptr 2 0), (8, aa i), (9, aa 0)]; bif decide (i < 3) then .bind PUnit.unit fun _ => .ag [St.mk q2 q [] = St.mk q2 q [], aV Tryz.prog 0 (blk Tryz.prog cb 8) (St.mk q2 q
  []) (Ex.exit 8) (St.mk (ai 164 [(2, .ptr 0 0), (3, .ptr 1 0), (4, .ptr 2 0), (8, aa i)]) q1 [])] (.done (Ex.normal, St.mk (ai 164 [(2, .ptr 0 0), (3, .ptr 1 0), (4, .ptr 2 0), (8, aa (IntKind.i64.wrap (i + 1)))]) q1 [])) else
  .done (Ex.exit 6, St.mk (ai 164 [(3, .ptr 0 0), (4, .ptr 1 0)]) [some (q3, 29), some (q4, 29)] []) : T _) := by kernel_rfl
theorem rW {S : aS} (a b c : List Rw) (nx : Int) {i k : Nat} (hi : i < S.length) (hk : k < (S.getD i .zero).aw.length) (hle : (S.getD i .zero).aw.length <= 1000) (hc : (gg S i k).kind ≠ 4 \/ (gg S i k).eR = true) {ex : Ex} {s' : St}
  (h : a8 Tryz.prog 0 (lp Tryz.prog cb 8) (j2 S a b c nx i ((k + 1 : Nat) : Int)) ex s') : a8 Tryz.prog 0 (lp Tryz.prog cb 8) (j2 S a b c nx i k) ex s' := by
 have dV := bJ.at S .zero i 4 hi rfl
 have nq := cR.at (S.getD i .zero).aw .zero k 8 hk rfl
 have w1 : IntKind.i64.wrap ((k : Int) + 1) = ((k + 1 : Nat) : Int) := bE af
 unfold gg at hc
 refine bl (E := A9) follows named (NA S a b c nx i k) ?_
 simp only [Tb.zero, bt.zero] at *
 simp only [az, T.WP, All, aB, aC, aA, Int.toNat_natCast, bJ.ae, cR.ae, w1]
 refine ⟨⟨aK, dV⟩, fun _ => ⟨⟨aK, dV⟩, ⟨aK, nq⟩, fun _ => h, fun h1 => ⟨fun _ => h, fun h2 => ?_⟩⟩, fun h => af⟩
 have iy : ((S.getD i ⟨[], [], [], false⟩).aw.getD k ⟨[], 0, 0, 0, 0, 0, [], false⟩).kind = 4 := by simpa only [bne_eq_false_iff_eq] using h1
 rw [iy, h2] at hc
 rcases hc with hc | hc
 ·exact hc rfl
 ·cases hc
theorem FF {S : aS} (a b c : List Rw) (nx : Int) {i : Nat} (hi : i < S.length) : a8 Tryz.prog 0 (lp Tryz.prog cb 8) (j2 S a b c nx i ((S.getD i .zero).aw.length : Nat)) (.exit 8) (lZ S a b c nx i) := by
 have dV := bJ.at S .zero i 4 hi rfl
 refine bl (E := A9) follows named (NA S a b c nx i ((S.getD i .zero).aw.length : Nat)) ?_
 simp only [Tb.zero] at *
 simp only [az, T.WP, All, aB, aC, aA, Int.toNat_natCast, bJ.ae, cR.ae]
 exact ⟨⟨aK, dV⟩, fun h => af, fun _ => ⟨rfl, rfl⟩⟩
theorem Yy : cV aO [112, 111, 114, 116] = 1 := by decide
theorem ai6 (a b c : List Rw) (nx : Int) (hb : b.length <= 1048576) (ha : a.length <= 1048576) (hr : ∀ r ∈ a, ir r /\ 2 <= r.cells.length) {ex : Ex} {s' : St}
  (h : a8 Tryz.prog 0 (lp Tryz.prog cb 8) (j2 aO (a.map (eD b 1)) b c nx 0 2) ex s') : a8 Tryz.prog 0 (lp Tryz.prog cb 8) (j2 aO a b c nx 0 1) ex s' := by
 have dV := bJ.at aO .zero 0 4 (by decide) rfl
 have nq := cR.at (aO.getD 0 .zero).aw .zero 1 8 (by decide) rfl
 have hl := Nv aO b c nx hb a.length 0 a (by omega) ha hr
 rw [List.take_zero, List.drop_zero, List.nil_append] at hl
 have hf := yv aO [112, 111, 114, 116] (by decide)
 rw [Yy] at hf
 have hc : (aO.getD 0 .zero).aw.getD 1 .zero = qg := rfl
 rw [Nat.zero_mul] at dV
 rw [Nat.one_mul, hc] at nq
 refine bl (E := F8 aO a b c nx) follows named (ai7 aO a b c nx) ?_
 generalize hP : aO = P at *
 have bQ : ((P.getD 0 ⟨[], [], [], false⟩).aw.length : Int) = 2 := by rw [<- hP]; rfl
 have CJ : P.length = 3 := by rw [<- hP]; rfl
 change (P.getD 0 ⟨[], [], [], false⟩).aw.getD 1 ⟨[], 0, 0, 0, 0, 0, [], false⟩ = qg at hc
 change List.take 4 (List.drop 0 (ah aq P)) = aq (P.getD 0 ⟨[], [], [], false⟩) at dV
 change List.take 8 (List.drop 8 (ah ba (P.getD 0 ⟨[], [], [], false⟩).aw)) = ba qg at nq
 simp only [az, T.WP, All, decide_eq_true_eq, decide_eq_false_iff_not, and_true, bJ.ae, cR.ae, hc, bQ]
 refine ⟨⟨(by (repeat' with_reducible apply And.intro) <;> first | omega | with_reducible rfl | assumption | exact True.intro | trivial | rfl), dV⟩, fun _ => ⟨⟨(by (repeat' with_reducible apply And.intro) <;> first | omega | with_reducible rfl | assumption | exact True.intro | trivial | rfl), dV⟩, ⟨(by (repeat' with_reducible apply And.intro) <;> first | omega | with_reducible rfl | assumption | exact True.intro | trivial | rfl), nq⟩, fun h1 => by simp [qg] at h1, fun _ => ⟨fun h2 => by simp [qg] at h2, fun _ => ?_⟩⟩, fun h => by omega⟩
 rintro _ -
 refine ⟨hf, ?_⟩
 refine ⟨(by (repeat' with_reducible apply And.intro) <;> first | omega | with_reducible rfl | assumption | exact True.intro | trivial | rfl), (by (repeat' with_reducible apply And.intro) <;> first | omega | with_reducible rfl | assumption | exact True.intro | trivial | rfl), ?_⟩
 rintro _ -
 exact ⟨⟨trivial, .bg hl⟩, h⟩
def MY (a b c : List Rw) (nx : Int) : St := ⟨ai 164 [(3, .ptr 0 0), (4, .ptr 1 0)], [some ([.osl dZ 3 true (l8 a b c), .int .i64 nx], cO), some ([.osl dZ 0 false [], .int .i64 0], cO)], []⟩
theorem FE {S : aS} {a a' b c : List Rw} {nx : Int} {i : Nat} (hi : i < 3) (hl : a8 Tryz.prog 0 (lp Tryz.prog cb 8) (j2 S a b c nx i 0) (.exit 8) (lZ S a' b c nx i)) {ex : Ex} {s' : St}
  (h : a8 Tryz.prog 0 (lp Tryz.prog cb 6) (lZ S a' b c nx ((i + 1 : Nat) : Int)) ex s') : a8 Tryz.prog 0 (lp Tryz.prog cb 6) (lZ S a b c nx i) ex s' := by
 have w1 : IntKind.i64.wrap ((i : Int) + 1) = ((i + 1 : Nat) : Int) := bE af
 refine bl (E := A8 S a a' b c nx) follows named (Nz S a a' b c nx i) ?_
 simp only [az, T.WP, All, aB, aC, aA, w1]
 refine ⟨fun _ => ?_, fun h => af⟩
 rintro _ -
 exact ⟨⟨bn, .bg hl⟩, h⟩
theorem ai5 (a b c : List Rw) (nx : Int) (hb : b.length <= 1048576) (ha : a.length <= 1048576) (hr : ∀ r ∈ a, ir r /\ 2 <= r.cells.length) :
  a8 Tryz.prog 0 (lp Tryz.prog cb 6) (lZ aO a b c nx 0) (.exit 6) (MY (a.map (eD b 1)) b c nx) := by
 have e0 := FF (S := aO) (a.map (eD b 1)) b c nx (i := 0) (by decide)
 have e1 := FF (S := aO) (a.map (eD b 1)) b c nx (i := 1) (by decide)
 have e2 := FF (S := aO) (a.map (eD b 1)) b c nx (i := 2) (by decide)
 have l0 : a8 Tryz.prog 0 (lp Tryz.prog cb 8) (j2 aO a b c nx 0 0) (.exit 8) (lZ aO (a.map (eD b 1)) b c nx 0) :=
  rW (i := 0) (k := 0) a b c nx (by decide) (by decide) (by decide) (.inl (by decide)) (ai6 a b c nx hb ha hr e0)
 have l1 : a8 Tryz.prog 0 (lp Tryz.prog cb 8) (j2 aO (a.map (eD b 1)) b c nx 1 0) (.exit 8) (lZ aO (a.map (eD b 1)) b c nx 1) :=
  rW (i := 1) (k := 0) _ b c nx (by decide) (by decide) (by decide) (.inl (by decide)) (rW (i := 1) (k := 1) _ b c nx (by decide) (by decide) (by decide) (.inl (by decide)) (rW (i := 1) (k := 2) _ b c nx (by decide) (by decide) (by decide) (.inl (by decide)) e1))
 have l2 : a8 Tryz.prog 0 (lp Tryz.prog cb 8) (j2 aO (a.map (eD b 1)) b c nx 2 0) (.exit 8) (lZ aO (a.map (eD b 1)) b c nx 2) :=
  rW (i := 2) (k := 0) _ b c nx (by decide) (by decide) (by decide) (.inl (by decide)) (rW (i := 2) (k := 1) _ b c nx (by decide) (by decide) (by decide) (.inl (by decide)) (rW (i := 2) (k := 2) _ b c nx (by decide) (by decide) (by decide) (.inr (by decide)) e2))
 refine FE (i := 0) af l0 (FE (i := 1) af l1 (FE (i := 2) af l2 ?_))
 refine bl (E := A8 aO (a.map (eD b 1)) (a.map (eD b 1)) b c nx) follows named (Nz aO (a.map (eD b 1)) (a.map (eD b 1)) b c nx ((3 : Nat) : Int)) ?_
 simp only [az, T.WP, All, aB, aC, aA]
 exact ⟨fun h => af, fun _ => ⟨rfl, rfl⟩⟩
def mF (S : aS) (x : aM) : Hp := [some ([ab aq S], pS), some (aP x, cO), some ([.osl dZ 0 false [], .int .i64 0], cO)]
def mV (i k : Int) (g : Bool) : Tm := ai 164 [(2, .ptr 0 0), (3, .ptr 1 0), (4, .ptr 2 0), (5, .bool g), (6, .int .i64 i), (7, .int .i64 k)]
def j6 (i : Int) (g : Bool) : Tm := ai 164 [(2, .ptr 0 0), (3, .ptr 1 0), (4, .ptr 2 0), (5, .bool g), (6, .int .i64 i)]
def l9 (g : Bool) : Tm := ai 164 [(2, .ptr 0 0), (3, .ptr 1 0), (4, .ptr 2 0), (5, .bool g)]
def xd : Tm := ai 164 [(2, .ptr 0 0), (3, .ptr 1 0), (4, .ptr 2 0)]
def zv : Ex -> Kp := fun ex => match ex with
 | .normal => { keep := [2, 3, 4, 5, 6, 7], pk := some ep }
 | _ => { keep := [2, 3, 4, 5, 6], pk := some ep }
def Kh : Ex -> Kp := fun ex => match ex with
 | .normal => { keep := [2, 3, 4, 5, 6], pk := some ep }
 | _ => { keep := [2, 3, 4, 5], pk := some ep }
def Kg : Ex -> Kp := fun ex => match ex with
 | .normal => { keep := [2, 3, 4, 5], pk := some ep }
 | _ => { keep := [2, 3, 4], pk := some ep }
def L5 (a b c : List Rw) (nx : Int) : aj := ⟨.agg [.sl 0 0 3 false, .int .i64 nx], [some ([.cu (l8 a b c)], dZ)], []⟩
noncomputable def MV (a b c : List Rw) (nx : Int) : Nat -> Nat -> FuncId -> List V -> Hp -> Option (Bool × aj × aj) := fun _ _ f vs _ =>
 bif Nat.beq f sN then (match vs with | [.agg [.dsl _ _ ts, .int _ n], .int _ i, .int _ k] => some (decide (ik ⟨ae aI ts, n⟩ i.toNat k.toNat = ⟨[a, b, c], nx⟩), L5 a b c nx, ⟨.agg (aP (ik ⟨ae aI ts, n⟩ i.toNat k.toNat)), [], []⟩) | _ => none) else
 bif Nat.beq f ew then (match vs with | [.agg [.dsl _ _ ts, .int _ n]] => some (decide ((⟨ae aI ts, n⟩ : aM) = ⟨[a, b, c], nx⟩), L5 a b c nx, ⟨.agg (aP ⟨ae aI ts, n⟩), [], []⟩) | _ => none) else none
noncomputable def mZ (a b c : List Rw) (nx : Int) : Env := { P := Tryz.prog, vw := pW, res := tP, sp := MV a b c nx }
theorem pA (S : aS) (a b c : List Rw) (nx : Int) (x : aM) (i k : Int) (g : Bool) : bx (mZ a b c nx) 0 zv (lp Tryz.prog cb 4) ⟨mV i k g, mF S x, []⟩ = (
 let bD := ah aI x.ar;
 let q := List.getD (ae aI bD) i.toNat [];
 let q1 := aM.mk (ae aI bD) x.next;
 let q2 := List.getD (ae av (ah av q)) k.toNat (Rw.mk (0 : Int) []);
 let br : List V := [.osl 46 0 false [], aa 0];
 let q3 : Hp := [some ([ab aq S], 25), some ((aP x), 29), some (br, 29)];
 let q4 := ai 164 [(2, .ptr 0 0), (3, .ptr 1 0), (4, .ptr 2 0), (5, .bool true), (6, aa i), (7, aa (IntKind.i64.wrap (IntKind.i64.wrap (k - 1) + 1)))];
 let q5 := ai 164 [(2, .ptr 0 0), (3, .ptr 1 0), (4, .ptr 2 0), (5, .bool g), (6, aa i), (7, aa (IntKind.i64.wrap (k + 1)))];
 let q6 : List Prop := [0 <= i /\ i < (↑x.ar.length : Int), List.take 1 (List.drop (i.toNat * 1) bD) = [ab av q]];
 let q7 := ik q1 i.toNat k.toNat;
 let q8 := List.getD (ae aq (ah aq S)) i.toNat (Tb.mk [] [] [] false);
 let q9 : List V := [.osl 53 a.length true (ah bU a), ab av b, ab av c];
 let bL : List V := [.agg (aP x), aa i, aa k]; .ag q6 (bif decide (k < (↑q.length : Int)) then .ag [0 <= i /\ i < (↑S.length : Int), List.take 4 (List.drop (i.toNat * 4) (ah aq S)) = (aq q8)] (bif !q8.root then .ag q6
  (.ag [0 <= k /\ k < (↑q.length : Int), List.take 2 (List.drop (k.toNat * 2) (ah av q)) = [aa q2.id, ab a7 q2.cells]] (.bind (eS (ae aq (ah aq S)) q1 i.toNat q2.id) fun y0 => .ag [ao Tryz.prog 138 [.agg
  [ab aq S], .agg (aP x), aa i, aa q2.id] [] (aj.mk (aa (↑y0 : Int)) [] [])] (bif (↑y0 : Int) == 0 then bif decide (ik q1 i.toNat k.toNat = aM.mk [a, b, c] nx) then .ag [ao Tryz.prog 139 bL [] (aj.mk (.agg [.sl 0
  0 3 false, aa nx]) [some ([.cu q9], 46)] [])] (.done (Ex.normal, St.mk q4 [some ([ab aq S], 25), some ([.osl 46 3 true q9, aa nx], 29), some (br, 29)] [])) else .ag [ao Tryz.prog 139 bL [] (aj.mk (.agg [ab aI
  q7.ar, aa q7.next]) [] [])] (.done (Ex.normal, St.mk q4 [some ([ab aq S], 25), some ([ab aI q7.ar, aa q7.next], 29), some (br, 29)] [])) else .done (Ex.normal, St.mk q5 q3 [])))) else .done (Ex.normal, St.mk q5 q3 []))
  else .done (Ex.exit 4, St.mk (ai 164 [(2, .ptr 0 0), (3, .ptr 1 0), (4, .ptr 2 0), (5, .bool g), (6, aa i)]) q3 [])) : T _) := (T.force_eq _).symm.trans (by kernel_rfl)
noncomputable def Ze (S : aS) (a b c : List Rw) (nx : Int) : cP := fun f vs hp =>
 bif Nat.beq f ix then (match vs with | [_, .agg [.sl _ _ _ _, _], .int _ t, .int _ w] => some ⟨eS S ⟨[a, b, c], nx⟩ t.toNat w, fun y => ⟨.int .i64 (y : Nat), hp, []⟩⟩ | _ => none) else none
noncomputable def mc (S : aS) (a b c : List Rw) (nx : Int) : Env := { P := Tryz.prog, vw := AA, res := Ze S a b c nx }
theorem Lf (S : aS) (a b c : List Rw) (nx : Int) (k : Int) (g : Bool) : bx (mc S a b c nx) 0 zv (lp Tryz.prog cb 4) ⟨mV 0 k g, eH S a b c nx, []⟩ = (
 let q4 := ah bU a;
 let q : Hp := [some ([ab aq S], 25), some ([.osl 46 3 true [.osl 53 a.length true q4, ab av b, ab av c], aa nx], 29), some ([.osl 46 0 false [], aa 0], 29)];
 let q1 := List.getD (ae av q4) ((0 + k.toNat * 2) / 2) (Rw.mk (0 : Int) []);
 let q2 := ai 164 [(2, .ptr 0 0), (3, .ptr 1 0), (4, .ptr 2 0), (5, .bool g), (6, aa 0), (7, aa (IntKind.i64.wrap (k + 1)))];
 let q3 : Hp := [some ([.cu [], .sl 1 0 a.length false, .cu [ab av b, ab av c]], 46), some ([.cu q4], 53)];
 let q5 := List.getD (ae aq (ah aq S)) 0 (Tb.mk [] [] [] false); .ag [(0 : Int) <= 0 /\ (0 : Int) < 3] (.ag [([.osl 53 a.length true q4] : List V) = [.osl 53 a.length true q4], 1 <= 3] (bif decide (k < (↑a.length : Int)) then
  .ag [(0 : Int) <= 0 /\ (0 : Int) < (↑S.length : Int), List.take 4 (List.drop 0 (ah aq S)) = (aq q5)] (bif !q5.root then .ag [(0 : Int) <= 0 /\ (0 : Int) < 3] (.ag [0 = 0] (.ag [0 <= k /\ k < (↑a.length : Int)] (.ag
  [List.take 2 (List.drop (0 + k.toNat * 2) q4) = (av q1)] (.bind (eS S (aM.mk [a, b, c] nx) 0 q1.id) fun y0 => .ag [ao Tryz.prog 138 [.agg [ab aq S], .agg [.sl 0 0 3 false, aa nx], aa 0, aa q1.id] q3 (aj.mk (aa
  (↑y0 : Int)) q3 [])] (bif (↑y0 : Int) == 0 then .fail else .done (Ex.normal, St.mk q2 q [])))))) else .done (Ex.normal, St.mk q2 q [])) else .done (Ex.exit 4, St.mk (ai 164 [(2, .ptr 0 0), (3, .ptr 1 0), (4, .ptr 2 0), (5, .bool g),
  (6, aa 0)]) q []))) : T _) := (T.force_eq _).symm.trans (by kernel_rfl)
theorem Ei (S : aS) (a b c : List Rw) (nx : Int) (k : Int) (g : Bool) : bx (mc S a b c nx) 0 zv (lp Tryz.prog cb 4) ⟨mV 1 k g, eH S a b c nx, []⟩ = (
 let q3 : List V := [.osl 53 a.length true (ah bU a), ab av b, ab av c];
 let q : Hp := [some ([ab aq S], 25), some ([.osl 46 3 true q3, aa nx], 29), some ([.osl 46 0 false [], aa 0], 29)];
 let q1 := List.getD (ae av (ah av b)) k.toNat (Rw.mk (0 : Int) []);
 let q2 := ai 164 [(2, .ptr 0 0), (3, .ptr 1 0), (4, .ptr 2 0), (5, .bool g), (6, aa 1), (7, aa (IntKind.i64.wrap (k + 1)))];
 let q4 := List.getD (ae aq (ah aq S)) 1 (Tb.mk [] [] [] false);
 let q5 : List Prop := [([ab av b] : List V) = [ab av b]]; .ag [(0 : Int) <= 1 /\ (1 : Int) < 3] (.ag q5 (bif decide (k < (↑b.length : Int)) then .ag [(0 : Int) <= 1 /\ (1 : Int) < (↑S.length : Int), List.take 4 (List.drop 4
  (ah aq S)) = (aq q4)] (bif !q4.root then .ag [(0 : Int) <= 1 /\ (1 : Int) < 3] (.ag q5 (.ag [0 <= k /\ k < (↑b.length : Int), List.take 2 (List.drop (k.toNat * 2) (ah av b)) = (av q1)] (.bind (eS S (aM.mk [a, b,
  c] nx) 1 q1.id) fun y0 => .ag [ao Tryz.prog 138 [.agg [ab aq S], .agg [.sl 0 0 3 false, aa nx], aa 1, aa q1.id] [some ([.cu q3], 46)] (aj.mk (aa (↑y0 : Int)) [some ([.cu q3], 46)] [])] (bif (↑y0 : Int) == 0 then .fail
  else .done (Ex.normal, St.mk q2 q []))))) else .done (Ex.normal, St.mk q2 q [])) else .done (Ex.exit 4, St.mk (ai 164 [(2, .ptr 0 0), (3, .ptr 1 0), (4, .ptr 2 0), (5, .bool g), (6, aa 1)]) q []))) : T _) := (T.force_eq _).symm.trans (by kernel_rfl)
theorem Lg (S : aS) (a b c : List Rw) (nx : Int) (k : Int) (g : Bool) : bx (mc S a b c nx) 0 zv (lp Tryz.prog cb 4) ⟨mV 2 k g, eH S a b c nx, []⟩ = (
 let q3 : List V := [.osl 53 a.length true (ah bU a), ab av b, ab av c];
 let q : Hp := [some ([ab aq S], 25), some ([.osl 46 3 true q3, aa nx], 29), some ([.osl 46 0 false [], aa 0], 29)];
 let q1 := List.getD (ae av (ah av c)) k.toNat (Rw.mk (0 : Int) []);
 let q2 := ai 164 [(2, .ptr 0 0), (3, .ptr 1 0), (4, .ptr 2 0), (5, .bool g), (6, aa 2), (7, aa (IntKind.i64.wrap (k + 1)))];
 let q4 := List.getD (ae aq (ah aq S)) 2 (Tb.mk [] [] [] false);
 let q5 : List Prop := [([ab av c] : List V) = [ab av c]]; .ag [(0 : Int) <= 2 /\ (2 : Int) < 3] (.ag q5 (bif decide (k < (↑c.length : Int)) then .ag [(0 : Int) <= 2 /\ (2 : Int) < (↑S.length : Int), List.take 4 (List.drop 8
  (ah aq S)) = (aq q4)] (bif !q4.root then .ag [(0 : Int) <= 2 /\ (2 : Int) < 3] (.ag q5 (.ag [0 <= k /\ k < (↑c.length : Int), List.take 2 (List.drop (k.toNat * 2) (ah av c)) = (av q1)] (.bind (eS S (aM.mk [a, b,
  c] nx) 2 q1.id) fun y0 => .ag [ao Tryz.prog 138 [.agg [ab aq S], .agg [.sl 0 0 3 false, aa nx], aa 2, aa q1.id] [some ([.cu q3], 46)] (aj.mk (aa (↑y0 : Int)) [some ([.cu q3], 46)] [])] (bif (↑y0 : Int) == 0 then .fail
  else .done (Ex.normal, St.mk q2 q []))))) else .done (Ex.normal, St.mk q2 q [])) else .done (Ex.exit 4, St.mk (ai 164 [(2, .ptr 0 0), (3, .ptr 1 0), (4, .ptr 2 0), (5, .bool g), (6, aa 2)]) q []))) : T _) := (T.force_eq _).symm.trans (by kernel_rfl)
noncomputable def U5 (S : aS) (a b c : List Rw) (nx : Int) : Nat -> St -> Option bT := fun id s => match id, s.tm.get 5, s.tm.get 6, s.hp with
 | 4, .bool g, .int _ i, [_, some ([.dsl _ _ ts, .int _ n], _), _] => some ⟨swK S i.toNat (((ae aI ts).getD i.toNat []).length) 0 ⟨ae aI ts, n⟩ g, fun y => .two { keep := [2, 3, 4, 5, 6, 7], pk := some ep } ⟨mV i 0 g, mF S ⟨ae aI ts, n⟩, []⟩ (decide (y.1 = ⟨[a, b, c], nx⟩)) (.exit 4) ⟨j6 i y.2, eH S a b c nx, []⟩ (.exit 4) ⟨j6 i y.2, mF S y.1, []⟩⟩
 | 4, .bool g, .int _ i, _ => some ⟨(), fun _ => .one { keep := [2, 3, 4, 5, 6, 7], pk := some ep } ⟨mV i 0 g, eH S a b c nx, []⟩ (.exit 4) ⟨j6 i g, eH S a b c nx, []⟩⟩
 | 2, _, _, [_, some ([.dsl _ _ ts, .int _ n], _), _] => some ⟨rN S (ae aI ts).length 0 ⟨ae aI ts, n⟩ false, fun y => .two { keep := [2, 3, 4, 5, 6], pk := some ep } ⟨j6 0 false, mF S ⟨ae aI ts, n⟩, []⟩ (decide (y.1 = ⟨[a, b, c], nx⟩)) (.exit 2) ⟨l9 y.2, eH S a b c nx, []⟩ (.exit 2) ⟨l9 y.2, mF S y.1, []⟩⟩
 | 2, _, _, _ => some ⟨(), fun _ => .one { keep := [2, 3, 4, 5, 6], pk := some ep } ⟨j6 0 false, eH S a b c nx, []⟩ (.exit 2) ⟨l9 false, eH S a b c nx, []⟩⟩
 | 0, _, _, [_, some ([.dsl _ _ ts, .int _ n], _), _] => some ⟨(), fun _ => .one { keep := [2, 3, 4, 5], pk := some ep } ⟨l9 true, mF S ⟨ae aI ts, n⟩, []⟩ (.exit 0) ⟨xd, eH S a b c nx, []⟩⟩
 | 0, _, _, _ => some ⟨(), fun _ => .one { keep := [2, 3, 4, 5], pk := some ep } ⟨l9 true, eH S a b c nx, []⟩ (.exit 0) ⟨xd, eH S a b c nx, []⟩⟩
 | 6, _, _, _ => some ⟨(), fun _ => .one { keep := [2, 3, 4, 8], pk := some ep } (lZ S a b c nx 0) (.exit 6) (MY (a.map (eD b 1)) b c nx)⟩
 | _, _, _, _ => none
noncomputable def ka (S : aS) (a b c : List Rw) (nx : Int) : Env := { P := Tryz.prog, vw := AA, res := tP, sp := MV a b c nx, ls := U5 S a b c nx }
theorem Le (S : aS) (a b c : List Rw) (nx : Int) (x : aM) (i : Int) (g : Bool) : bx (ka S a b c nx) 0 Kh (lp Tryz.prog cb 2) ⟨j6 i g, mF S x, []⟩ = (
 let q := ai 164 [(2, .ptr 0 0), (3, .ptr 1 0), (4, .ptr 2 0), (5, .bool g), (6, aa i), (7, aa 0)];
 let q4 := ae aI (ah aI x.ar);
 let q2 : List V := [.osl 46 0 false [], aa 0];
 let q1 : Hp := [some ([ab aq S], 25), some ((aP (aM.mk q4 x.next)), 29), some (q2, 29)];
 let q3 : Hp := [some ([ab aq S], 25), some ([.osl 46 3 true [.osl 53 a.length true (ah bU a), ab av b, ab av c], aa nx], 29), some (q2, 29)];
 let q5 : Hp := [some ([ab aq S], 25), some ((aP x), 29), some (q2, 29)];
 let q6 := IntKind.i64.wrap (i + 1); bif decide (i < (↑x.ar.length : Int)) then .bind (swK S i.toNat (List.length (List.getD q4 i.toNat [])) 0 (aM.mk q4 x.next) g) fun y0 =>
 let q7 := ai 164 [(2, .ptr 0 0), (3, .ptr 1 0), (4, .ptr 2 0), (5, .bool y0.2), (6, aa q6)];
 let q8 := ai 164 [(2, .ptr 0 0), (3, .ptr 1 0), (4, .ptr 2 0), (5, .bool y0.2), (6, aa i)];
 let q9 : Hp := [some ([ab aq S], 25), some ((aP y0.1), 29), some (q2, 29)]; .ag [St.mk q q5 [] = St.mk q q1 []] (bif decide (y0.1 = aM.mk [a, b, c] nx) then .ag [aV Tryz.prog 0 (blk Tryz.prog cb 4) (St.mk q q1 [])
  (Ex.exit 4) (St.mk q8 q3 [])] (.done (Ex.normal, St.mk q7 q3 [])) else .ag [aV Tryz.prog 0 (blk Tryz.prog cb 4) (St.mk q q1 []) (Ex.exit 4) (St.mk q8 q9 [])] (.done (Ex.normal, St.mk q7 q9 []))) else .done (Ex.exit 2, St.mk
  (ai 164 [(2, .ptr 0 0), (3, .ptr 1 0), (4, .ptr 2 0), (5, .bool g)]) q5 []) : T _) := by kernel_rfl
theorem Ld (S : aS) (a b c : List Rw) (nx : Int) (i : Int) (g : Bool) : bx (ka S a b c nx) 0 Kh (lp Tryz.prog cb 2) ⟨j6 i g, eH S a b c nx, []⟩ = (
 let q : Hp := [some ([ab aq S], 25), some ([.osl 46 3 true [.osl 53 a.length true (ah bU a), ab av b, ab av c], aa nx], 29), some ([.osl 46 0 false [], aa 0], 29)];
 let q1 := ai 164 [(2, .ptr 0 0), (3, .ptr 1 0), (4, .ptr 2 0), (5, .bool g), (6, aa i), (7, aa 0)]; bif decide (i < 3) then .bind PUnit.unit fun _ => .ag [St.mk q1 q [] = St.mk q1 q [], aV Tryz.prog 0 (blk Tryz.prog cb 4)
  (St.mk q1 q []) (Ex.exit 4) (St.mk (ai 164 [(2, .ptr 0 0), (3, .ptr 1 0), (4, .ptr 2 0), (5, .bool g), (6, aa i)]) q [])] (.done (Ex.normal, St.mk (ai 164 [(2, .ptr 0 0), (3, .ptr 1 0), (4, .ptr 2 0), (5, .bool g), (6, aa
  (IntKind.i64.wrap (i + 1)))]) q [])) else .done (Ex.exit 2, St.mk (ai 164 [(2, .ptr 0 0), (3, .ptr 1 0), (4, .ptr 2 0), (5, .bool g)]) q []) : T _) := by kernel_rfl
theorem Ye (S : aS) (a b c : List Rw) (nx : Int) (x : aM) (g : Bool) : bx (ka S a b c nx) 0 Kg (lp Tryz.prog cb 0) ⟨l9 g, mF S x, []⟩ = (
 let q4 := ae aI (ah aI x.ar);
 let q2 : List V := [.osl 46 0 false [], aa 0];
 let q : Hp := [some ([ab aq S], 25), some ((aP (aM.mk q4 x.next)), 29), some (q2, 29)];
 let q1 := ai 164 [(2, .ptr 0 0), (3, .ptr 1 0), (4, .ptr 2 0), (5, .bool false), (6, aa 0)];
 let q3 : Hp := [some ([ab aq S], 25), some ([.osl 46 3 true [.osl 53 a.length true (ah bU a), ab av b, ab av c], aa nx], 29), some (q2, 29)];
 let q5 : Hp := [some ([ab aq S], 25), some ((aP x), 29), some (q2, 29)]; bif g then .bind (rN S q4.length 0 (aM.mk q4 x.next) false) fun y0 =>
 let q6 := ai 164 [(2, .ptr 0 0), (3, .ptr 1 0), (4, .ptr 2 0), (5, .bool y0.2)];
 let q7 : Hp := [some ([ab aq S], 25), some ((aP y0.1), 29), some (q2, 29)]; .ag [St.mk q1 q5 [] = St.mk q1 q []] (bif decide (y0.1 = aM.mk [a, b, c] nx) then .ag [aV Tryz.prog 0 (blk Tryz.prog cb 2) (St.mk q1 q [])
  (Ex.exit 2) (St.mk q6 q3 [])] (.done (Ex.normal, St.mk q6 q3 [])) else .ag [aV Tryz.prog 0 (blk Tryz.prog cb 2) (St.mk q1 q []) (Ex.exit 2) (St.mk q6 q7 [])] (.done (Ex.normal, St.mk q6 q7 []))) else .done (Ex.exit 0, St.mk
  (ai 164 [(2, .ptr 0 0), (3, .ptr 1 0), (4, .ptr 2 0)]) q5 []) : T _) := by kernel_rfl
theorem Lc (S : aS) (a b c : List Rw) (nx : Int) (g : Bool) : bx (ka S a b c nx) 0 Kg (lp Tryz.prog cb 0) ⟨l9 g, eH S a b c nx, []⟩ = (
 let q : Hp := [some ([ab aq S], 25), some ([.osl 46 3 true [.osl 53 a.length true (ah bU a), ab av b, ab av c], aa nx], 29), some ([.osl 46 0 false [], aa 0], 29)];
 let q1 := ai 164 [(2, .ptr 0 0), (3, .ptr 1 0), (4, .ptr 2 0), (5, .bool false), (6, aa 0)];
 let q2 := ai 164 [(2, .ptr 0 0), (3, .ptr 1 0), (4, .ptr 2 0), (5, .bool false)]; bif g then .bind PUnit.unit fun _ => .ag [St.mk q1 q [] = St.mk q1 q [], aV Tryz.prog 0 (blk Tryz.prog cb 2) (St.mk q1 q []) (Ex.exit 2)
  (St.mk q2 q [])] (.done (Ex.normal, St.mk q2 q [])) else .done (Ex.exit 0, St.mk (ai 164 [(2, .ptr 0 0), (3, .ptr 1 0), (4, .ptr 2 0)]) q []) : T _) := by kernel_rfl
theorem YC (S : aS) (a b c : List Rw) (nx : Int) (x : aM) : fnT (ka S a b c nx) 0 cb [.agg [ab aq S], .agg (aP x)] [] = (
 let bD : List V := [.osl 53 a.length true (ah bU a), ab av b, ab av c];
 let q8 : List V := [.osl 46 0 false [], aa 0];
 let q : Hp := [some ([ab aq S], 25), some ([.osl 46 3 true bD, aa nx], 29), some (q8, 29)];
 let bL := ae aI (ah aI x.ar);
 let q5 := aM.mk bL x.next;
 let q1 := aM.mk (ae aI (ah aI q5.ar)) q5.next;
 let q2 := ai 164 [(2, .ptr 0 0), (3, .ptr 1 0), (4, .ptr 2 0), (8, aa 0)];
 let q3 := ai 164 [(2, .ptr 0 0), (3, .ptr 1 0), (4, .ptr 2 0), (5, .bool true)];
 let br := List.map (eD b 1) a;
 let q4 := St.mk (ai 164 [(3, .ptr 0 0), (4, .ptr 1 0)]) [some ([.osl 46 3 true [.osl 53 br.length true (ah bU br), ab av b, ab av c], aa nx], 29), some (q8, 29)] [];
 let q6 := aj.mk (.agg [.dsl 3 false [.dsl br.length false (V.fzL (ah bU br)), ab av b, ab av c], aa nx]) [] [];
 let q7 : Hp := [some ([ab aq S], 25), some ([ab aI q1.ar, aa q1.next], 29), some (q8, 29)];
 let q9 := St.mk (ai 164 [(2, .ptr 0 0), (3, .ptr 1 0), (4, .ptr 2 0)]) q []; bif decide (aM.mk bL x.next = aM.mk [a, b, c] nx) then .ag [ao Tryz.prog 74 [.agg (aP x)] [] (aj.mk (.agg [.sl 0 0 3 false, aa nx]) [some ([.cu
  bD], 46)] [])] (.bind PUnit.unit fun _ => .ag [St.mk q3 q [] = St.mk q3 q [], aV Tryz.prog 0 (blk Tryz.prog cb 0) (St.mk q3 q []) (Ex.exit 0) q9] (.bind PUnit.unit fun _ => .ag [St.mk q2 q [] = St.mk q2 q [], aV
  Tryz.prog 0 (blk Tryz.prog cb 6) (St.mk q2 q []) (Ex.exit 6) q4] (.done q6))) else .ag [ao Tryz.prog 74 [.agg (aP x)] [] (aj.mk (.agg (aP q5)) [] [])] (.bind PUnit.unit fun _ => .ag [St.mk q3 [some ([ab aq S],
  25), some ((aP q5), 29), some (q8, 29)] [] = St.mk q3 q7 [], aV Tryz.prog 0 (blk Tryz.prog cb 0) (St.mk q3 q7 []) (Ex.exit 0) q9] (.bind PUnit.unit fun _ => .ag [St.mk q2 q [] = St.mk q2 q [], aV Tryz.prog 0 (blk
  Tryz.prog cb 6) (St.mk q2 q []) (Ex.exit 6) q4] (.done q6))) : T _) := by kernel_rfl
theorem Cz : ∀ a : List Rw, V.fzL (ah bU a) = ah av a
 | [] => by simp [ah, V.fzL]
 | r :: a => by
  rw [eu, eu, <- Cz a]
  simp [bU, av, ab, V.fzL, V.fz]
theorem QV (a b c : List Rw) : V.fzL (l8 a b c) = ah aI [a, b, c] := by
 have : ah aI [a, b, c] = [ab av a, ab av b, ab av c] := rfl
 rw [this]
 simp [l8, ab, V.fzL, V.fz, Cz]
def swB (a c : List Rw) (nx : Int) : Nat -> Nat -> List Rw -> Bool -> List Rw × Bool
 | 0, _, b, g => (b, g)
 | n + 1, k, b, g => bif decide (k < b.length) then
   (bif eS aO ⟨[a, b, c], nx⟩ 1 (b.getD k .zero).id == 0 then swB a c nx n k (fq b k) true else swB a c nx n (k + 1) b g) else (b, g)
def drB (a c : List Rw) (nx : Int) : Nat -> List Rw -> List Rw
 | 0, b => b
 | n + 1, b => bif (swB a c nx b.length 0 b false).2 then drB a c nx n (swB a c nx b.length 0 b false).1 else (swB a c nx b.length 0 b false).1
def eJ (x : aM) : aM := match x.ar with
 | [a, b, c] => ⟨[a.map (eD (drB a c x.next (b.length + 1) b) 1), drB a c x.next (b.length + 1) b, c], x.next⟩
 | _ => x
theorem Mb {b : List Rw} {k : Nat} (hk : k < b.length) : (fq b k).length + 1 = b.length := by
 unfold fq
 rw [List.length_append, List.length_take, List.length_drop]; omega
theorem Mc {b : List Rw} {k : Nat} {r : Rw} (h : r ∈ fq b k) : r ∈ b := by
 unfold fq at h
 rcases List.mem_append.1 h with h | h
 ·exact List.mem_of_mem_take h
 ·exact List.mem_of_mem_drop h
theorem uj (a c : List Rw) (nx : Int) : ∀ (n k : Nat) (b : List Rw) (g : Bool), (swB a c nx n k b g).1.length <= b.length /\ (∀ r ∈ (swB a c nx n k b g).1, r ∈ b) /\ ((swB a c nx n k b g).2 = true -> g = true \/ (swB a c nx n k b g).1.length < b.length) /\ ((swB a c nx n k b g).2 = false -> (swB a c nx n k b g).1 = b)
 | 0, k, b, g => ⟨Nat.le_refl _, fun _ h => h, fun h => .inl h, fun _ => rfl⟩
 | n + 1, k, b, g => by
  rw [swB]
  by_cases hk : k < b.length
  ·rw [decide_eq_true hk, cond_true]
   cases eS aO ⟨[a, b, c], nx⟩ 1 (b.getD k .zero).id == 0
   ·exact uj a c nx n (k + 1) b g
   ·have ih := uj a c nx n k (fq b k) true
    have hl := Mb hk
    rw [cond_true]
    refine ⟨af, fun r hr => Mc (ih.2.1 r hr), fun _ => .inr af, fun h => ?_⟩
    have := ih.2.2.2 h
    exfalso
    have h2 : ∀ (n k : Nat) (b : List Rw), (swB a c nx n k b true).2 = true := by
     intro n
     induction n with
     | zero => intro k b; rfl
     | succ n ih =>
      intro k b
      rw [swB]
      cases decide (k < b.length)
      ·rfl
      ·rw [cond_true]
       cases eS aO ⟨[a, b, c], nx⟩ 1 (b.getD k .zero).id == 0
       ·exact ih _ _
       ·exact ih _ _
    rw [h2] at h; cases h
  ·rw [decide_eq_false hk, cond_false]
   exact ⟨Nat.le_refl _, fun _ h => h, fun h => .inl h, fun _ => rfl⟩
theorem BP (a c : List Rw) (nx : Int) : ∀ (n : Nat) (b : List Rw), (drB a c nx n b).length <= b.length /\ ∀ r ∈ drB a c nx n b, r ∈ b
 | 0, b => ⟨Nat.le_refl _, fun _ h => h⟩
 | n + 1, b => by
  rw [drB]
  have h1 := uj a c nx b.length 0 b false
  cases (swB a c nx b.length 0 b false).2
  ·exact ⟨h1.1, h1.2.1⟩
  ·have h2 := BP a c nx n (swB a c nx b.length 0 b false).1
   exact ⟨Nat.le_trans h2.1 h1.1, fun r hr => h1.2.1 r (h2.2 r hr)⟩
structure jH (a b c : List Rw) : Prop where
 a : a.length <= 1048576 /\ ∀ r ∈ a, ir r /\ r.cells.length = 2
 b : b.length <= 1048576 /\ ∀ r ∈ b, ir r /\ r.cells.length = 3
 c : c.length <= 1048576 /\ ∀ r ∈ c, ir r /\ r.cells.length = 3
theorem jH.sh {a b c : List Rw} (h : jH a b c) (nx : Int) : er aO ⟨[a, b, c], nx⟩ := by
 refine ⟨⟨by simp, fun rows hr => ?_, fun rows hr r nF => ?_⟩, rfl, fun i hi r hr => ?_, by decide⟩
 ·simp only [List.mem_cons, List.not_mem_nil, or_false] at hr
  rcases hr with rfl | rfl | rfl
  ·exact h.a.1
  ·exact h.b.1
  ·exact h.c.1
 ·simp only [List.mem_cons, List.not_mem_nil, or_false] at hr
  rcases hr with rfl | rfl | rfl
  ·exact (h.a.2 r nF).1
  ·exact (h.b.2 r nF).1
  ·exact (h.c.2 r nF).1
 ·have iF : i = 0 \/ i = 1 \/ i = 2 := by simp only [List.length_cons, List.length_nil] at hi; omega
  rcases iF with rfl | rfl | rfl
  ·exact (h.a.2 r hr).2
  ·exact (h.b.2 r hr).2
  ·exact (h.c.2 r hr).2
theorem jH.sub {a b c b' : List Rw} (h : jH a b c) (hl : b'.length <= b.length) (hm : ∀ r ∈ b', r ∈ b) : jH a b' c :=
 ⟨h.a, ⟨Nat.le_trans hl h.b.1, fun r hr => h.b.2 r (hm r hr)⟩, h.c⟩
theorem ae7 {a b c : List Rw} (h : jH a b c) (nx t w : Int) (f : Bool) (ht : 0 <= t /\ t < 3) : ao Tryz.prog ix [.agg [ab aq aO], .agg [.sl 0 0 3 f, .int .i64 nx], .int .i64 t, .int .i64 w] [some ([.cu (l8 a b c)], dZ)] ⟨.int .i64 (eS aO ⟨[a, b, c], nx⟩ t.toNat w : Nat), [some ([.cu (l8 a b c)], dZ)], []⟩ := by
 refine (ao.DL 5 (cD := [.agg [ab aq aO], .agg (aP ⟨[a, b, c], nx⟩), .int .i64 t, .int .i64 w]) ?_ (M6 (h.sh nx) t w ht) rfl)
 have e : aP ⟨[a, b, c], nx⟩ = [.dsl 3 false (V.fzL (l8 a b c)), .int .i64 nx] := by rw [QV]; rfl
 rw [e]
 rfl
def gp (a bF c : List Rw) (nx : Int) (b : List Rw) : Hp := bif decide (b = bF) then eH aO a bF c nx else mF aO ⟨[a, b, c], nx⟩
theorem jr (a bF c : List Rw) (nx : Int) : gp a bF c nx bF = eH aO a bF c nx := by
 unfold gp
 rw [decide_eq_true rfl]; rfl
theorem iY {a bF c : List Rw} {nx : Int} {b : List Rw} (h : ¬ b = bF) : gp a bF c nx b = mF aO ⟨[a, b, c], nx⟩ := by
 unfold gp
 rw [decide_eq_false h]; rfl
theorem pP {a b bF c : List Rw} {nx : Int} : ((⟨[a, b, c], nx⟩ : aM) = ⟨[a, bF, c], nx⟩) ↔ b = bF := by simp
theorem ad9 (a b c : List Rw) (nx : Int) (k : Nat) : ik ⟨[a, b, c], nx⟩ 1 k = ⟨[a, fq b k, c], nx⟩ := rfl
theorem Ui {a bF c : List Rw} {nx : Int} : ∀ (n k : Nat) (b : List Rw) (g : Bool), b.length <= k + n -> jH a b c -> bF.length <= (swB a c nx n k b g).1.length ->
  a8 Tryz.prog 0 (lp Tryz.prog cb 4) ⟨mV 1 k g, gp a bF c nx b, []⟩ (.exit 4) ⟨j6 1 (swB a c nx n k b g).2, gp a bF c nx (swB a c nx n k b g).1, []⟩ := by
 intro n
 induction n with
 | zero =>
  intro k b g hk h3 hF
  rw [swB]
  by_cases hb : b = bF
  ·subst hb
   rw [jr]
   refine bl (E := mc aO a b c nx) follows named (Ei aO a b c nx (k : Nat) g) ?_
   simp only [az, T.WP, All, aB, aC, aA, aD, aE, aF]
   exact ⟨aK, aK, fun h => by omega, fun _ => ⟨rfl, rfl⟩⟩
  ·rw [iY hb]
   refine bl (E := mZ a bF c nx) follows named (pA aO a bF c nx ⟨[a, b, c], nx⟩ 1 (k : Nat) g) ?_
   simp only [az, T.WP, All, aB, aC, aA, aD, aE, aF, bB.ae]
   have aL := bB.at' [a, b, c] [] 1 1 (by simp) rfl
   exact ⟨⟨by simp, aL⟩, fun h => by have h' : (k : Int) < b.length := h; omega, fun _ => ⟨rfl, rfl⟩⟩
 | succ n ih =>
  intro k b g hk h3 hF
  have w1 : ∀ q : Nat, q < 9223372036854775807 -> IntKind.i64.wrap ((q : Int) + 1) = ((q + 1 : Nat) : Int) := fun q h => bE h
  have mA := h3.b.1
  have dV := bJ.at aO ⟨[], [], [], false⟩ 1 4 (by decide) rfl
  have nD : (aO.getD 1 ⟨[], [], [], false⟩).root = false := rfl
  have CJ : aO.length = 3 := rfl
  rw [swB] at hF ⊢
  by_cases bO : k < b.length
  ·rw [decide_eq_true bO, cond_true] at hF ⊢
   have cA := bN.at b ⟨0, []⟩ k 2 bO rfl
   have cG := M6 (h3.sh nx) 1 (b.getD k ⟨0, []⟩).id (by simp [aO])
   rw [show (1 : Int).toNat = 1 from rfl] at cG
   by_cases hs : eS aO ⟨[a, b, c], nx⟩ 1 (b.getD k ⟨0, []⟩).id = 0
   ·have Dl : (eS aO ⟨[a, b, c], nx⟩ 1 (b.getD k .zero).id == 0) = true := by
     have : eS aO ⟨[a, b, c], nx⟩ 1 (b.getD k .zero).id = 0 := hs
     rw [this]; rfl
    rw [Dl, cond_true] at hF ⊢
    have hl := Mb bO
    have bI := (uj a c nx n k (fq b k) true).1
    have eI := ih k (fq b k) true (by omega) (h3.sub (by omega) (fun r hr => Mc hr)) hF
    have bp : ¬ b = bF := by rintro rfl; omega
    rw [iY bp]
    have aL : List.take 1 (List.drop (1 * 1) (ah aI [a, b, c])) = [V.dsl b.length false (ah av b)] := rfl
    have yJ := Hm (h3.sh nx).s 1 k (by simp) bO
    have RR := fun e : fq b k = bF => e ▸ P8 (h3.sh nx).s k bO
    have t1 : (1 : Int).toNat = 1 := rfl
    have t2 : [a, b, c].getD 1 [] = b := rfl
    have t3 : [a, b, c].length = 3 := rfl
    have w0 : IntKind.i64.wrap (IntKind.i64.wrap ((k : Int) - 1) + 1) = (k : Nat) := by
     rw [cQ (n := (k : Int) - 1) (by omega), cQ (by omega)]; omega
    refine bl (E := mZ a bF c nx) follows named (pA aO a bF c nx ⟨[a, b, c], nx⟩ 1 (k : Nat) g) ?_
    simp only [az, T.WP, All, aB, aC, aA, aD, aE, aF, bB.ae, bJ.ae, bN.ae, t1, t2, t3, Int.toNat_natCast, w0]
    refine ⟨⟨aK, aL⟩, fun _ => ⟨⟨aK, dV⟩, fun _ => ⟨⟨aK, aL⟩, ⟨aK, cA⟩, ?_⟩, fun h => by rw [nD] at h; cases h⟩, fun h => by omega⟩
    rintro y rfl
    refine ⟨cG, fun _ => ⟨fun he => ?_, fun he => ?_⟩, fun h => absurd hs (by omega)⟩
    ·have he' : fq b k = bF := pP.1 he
     refine ⟨RR he', ?_⟩
     rw [show gp a bF c nx (fq b k) = eH aO a bF c nx by rw [he', jr]] at eI
     exact eI
    ·have he' : ¬ fq b k = bF := fun h => he (pP.2 h)
     refine ⟨yJ, ?_⟩
     rw [iY he'] at eI
     exact eI
   ·have Dl : (eS aO ⟨[a, b, c], nx⟩ 1 (b.getD k .zero).id == 0) = false := by
     have : ¬ eS aO ⟨[a, b, c], nx⟩ 1 (b.getD k .zero).id = 0 := hs
     simpa using this
    rw [Dl, cond_false] at hF ⊢
    have eI := ih (k + 1) b g (by omega) h3 hF
    have aL : List.take 1 (List.drop (1 * 1) (ah aI [a, b, c])) = [V.dsl b.length false (ah av b)] := rfl
    have t1 : (1 : Int).toNat = 1 := rfl
    have t2 : [a, b, c].getD 1 [] = b := rfl
    have t3 : [a, b, c].length = 3 := rfl
    by_cases hb : b = bF
    ·subst hb
     rw [jr] at eI ⊢
     have cG := ae7 h3 nx 1 (b.getD k ⟨0, []⟩).id false (by omega)
     rw [show (1 : Int).toNat = 1 from rfl] at cG
     refine bl (E := mc aO a b c nx) follows named (Ei aO a b c nx (k : Nat) g) ?_
     simp only [az, T.WP, All, aB, aC, aA, aD, aE, aF, bJ.ae, bN.ae, Int.toNat_natCast, w1 k (by omega)]
     refine ⟨aK, aK, fun _ => ⟨⟨aK, dV⟩, fun _ => ⟨aK, aK, ⟨aK, cA⟩, ?_⟩, fun h => by rw [nD] at h; cases h⟩, fun h => by omega⟩
     rintro y rfl
     refine ⟨cG, fun h => absurd (show eS aO ⟨[a, b, c], nx⟩ 1 (b.getD k ⟨0, []⟩).id = 0 by omega) hs, fun _ => ?_⟩
     exact eI
    ·rw [iY hb]
     rw [iY hb] at eI
     refine bl (E := mZ a bF c nx) follows named (pA aO a bF c nx ⟨[a, b, c], nx⟩ 1 (k : Nat) g) ?_
     simp only [az, T.WP, All, aB, aC, aA, aD, aE, aF, bB.ae, bJ.ae, bN.ae, t1, t2, t3, Int.toNat_natCast, w1 k (by omega)]
     refine ⟨⟨aK, aL⟩, fun _ => ⟨⟨aK, dV⟩, fun _ => ⟨⟨aK, aL⟩, ⟨aK, cA⟩, ?_⟩, fun h => by rw [nD] at h; cases h⟩, fun h => by omega⟩
     rintro y rfl
     refine ⟨cG, fun h => absurd (show eS aO ⟨[a, b, c], nx⟩ 1 (b.getD k ⟨0, []⟩).id = 0 by omega) hs, fun _ => ?_⟩
     exact eI
  ·rw [decide_eq_false bO, cond_false]
   by_cases hb : b = bF
   ·subst hb
    rw [jr]
    refine bl (E := mc aO a b c nx) follows named (Ei aO a b c nx (k : Nat) g) ?_
    simp only [az, T.WP, All, aB, aC, aA, aD, aE, aF]
    exact ⟨aK, aK, fun h => by omega, fun _ => ⟨rfl, rfl⟩⟩
   ·rw [iY hb]
    refine bl (E := mZ a bF c nx) follows named (pA aO a bF c nx ⟨[a, b, c], nx⟩ 1 (k : Nat) g) ?_
    simp only [az, T.WP, All, aB, aC, aA, aD, aE, aF, bB.ae]
    have aL := bB.at' [a, b, c] [] 1 1 (by simp) rfl
    exact ⟨⟨by simp, aL⟩, fun h => by have h' : (k : Int) < b.length := h; omega, fun _ => ⟨rfl, rfl⟩⟩
theorem xa {S : aS} {i : Nat} (hr : (S.getD i .zero).root = true) (x : aM) (g : Bool) : ∀ n k, swK S i n k x g = (x, g)
 | 0, k => rfl
 | n + 1, k => by
  rw [swK, hr]
  cases decide (k < (x.ar.getD i []).length)
  ·rfl
  ·exact xa hr x g n (k + 1)
theorem An (a c : List Rw) (nx : Int) : ∀ (n k : Nat) (b : List Rw) (g : Bool), swK aO 1 n k ⟨[a, b, c], nx⟩ g = (⟨[a, (swB a c nx n k b g).1, c], nx⟩, (swB a c nx n k b g).2)
 | 0, k, b, g => rfl
 | n + 1, k, b, g => by
  rw [swK, swB]
  have e1 : (aM.ar ⟨[a, b, c], nx⟩).getD 1 [] = b := rfl
  have e2 : (!(aO.getD 1 .zero).root && eS aO ⟨[a, b, c], nx⟩ 1 (iM ⟨[a, b, c], nx⟩ 1 k).id == 0) = (eS aO ⟨[a, b, c], nx⟩ 1 (b.getD k .zero).id == 0) := rfl
  rw [e1, e2, ad9]
  cases decide (k < b.length)
  ·rfl
  ·cases eS aO ⟨[a, b, c], nx⟩ 1 (b.getD k .zero).id == 0
   ·exact An a c nx n (k + 1) b g
   ·exact An a c nx n k (fq b k) true
theorem ae9 (a b c : List Rw) (nx : Int) (g : Bool) : rN aO 3 0 ⟨[a, b, c], nx⟩ g = (⟨[a, (swB a c nx b.length 0 b g).1, c], nx⟩, (swB a c nx b.length 0 b g).2) := by
 rw [rN, xa (i := 0) rfl]
 dsimp only
 rw [rN, show (aM.ar ⟨[a, b, c], nx⟩).getD (0 + 1) [] = b from rfl, show (0 + 1 : Nat) = 1 from rfl, An]
 dsimp only
 rw [rN, xa (i := 2) rfl]
 rfl
section
variable {a bF c : List Rw} {nx : Int}
theorem Uj (b : List Rw) (g : Bool) (ha : a.length <= 1048576) : ∀ (m k : Nat), k + m = a.length ->
  a8 Tryz.prog 0 (lp Tryz.prog cb 4) ⟨mV 0 k g, gp a bF c nx b, []⟩ (.exit 4) ⟨j6 0 g, gp a bF c nx b, []⟩ := by
 have dV := bJ.at aO ⟨[], [], [], false⟩ 0 4 (by decide) rfl
 have nD : (aO.getD 0 ⟨[], [], [], false⟩).root = true := rfl
 have CJ : aO.length = 3 := rfl
 have aL : List.take 1 (List.drop (0 * 1) (ah aI [a, b, c])) = [V.dsl a.length false (ah av a)] := rfl
 have t1 : (0 : Int).toNat = 0 := rfl
 have t2 : [a, b, c].getD 0 [] = a := rfl
 have t3 : [a, b, c].length = 3 := rfl
 intro m
 induction m with
 | zero =>
  intro k hk
  by_cases hb : b = bF
  ·subst hb
   rw [jr]
   refine bl (E := mc aO a b c nx) follows named (Lf aO a b c nx (k : Nat) g) ?_
   simp only [az, T.WP, All, aB, aC, aA, aD, aE, aF]
   exact ⟨aK, aK, fun h => af, fun _ => ⟨rfl, rfl⟩⟩
  ·rw [iY hb]
   refine bl (E := mZ a bF c nx) follows named (pA aO a bF c nx ⟨[a, b, c], nx⟩ 0 (k : Nat) g) ?_
   simp only [az, T.WP, All, aB, aC, aA, aD, aE, aF, bB.ae, t1, t2, t3]
   exact ⟨⟨aK, aL⟩, fun h => af, fun _ => ⟨rfl, rfl⟩⟩
 | succ m ih =>
  intro k hk
  have eI := ih (k + 1) af
  have w1 : IntKind.i64.wrap ((k : Int) + 1) = ((k + 1 : Nat) : Int) := bE af
  by_cases hb : b = bF
  ·subst hb
   rw [jr] at eI ⊢
   rw [Nat.zero_mul] at dV
   refine bl (E := mc aO a b c nx) follows named (Lf aO a b c nx (k : Nat) g) ?_
   simp only [az, T.WP, All, aB, aC, aA, aD, aE, aF, bJ.ae, w1]
   exact ⟨aK, aK, fun _ => ⟨⟨aK, dV⟩, (fun h => by rw [nD] at h; cases h), fun _ => eI⟩, fun h => af⟩
  ·rw [iY hb] at eI ⊢
   refine bl (E := mZ a bF c nx) follows named (pA aO a bF c nx ⟨[a, b, c], nx⟩ 0 (k : Nat) g) ?_
   simp only [az, T.WP, All, aB, aC, aA, aD, aE, aF, bB.ae, bJ.ae, t1, t2, t3, w1]
   exact ⟨⟨aK, aL⟩, fun _ => ⟨⟨aK, dV⟩, (fun h => by rw [nD] at h; cases h), fun _ => eI⟩, fun h => af⟩
theorem Uk (b : List Rw) (g : Bool) (hc : c.length <= 1048576) : ∀ (m k : Nat), k + m = c.length ->
  a8 Tryz.prog 0 (lp Tryz.prog cb 4) ⟨mV 2 k g, gp a bF c nx b, []⟩ (.exit 4) ⟨j6 2 g, gp a bF c nx b, []⟩ := by
 have dV := bJ.at aO ⟨[], [], [], false⟩ 2 4 (by decide) rfl
 have nD : (aO.getD 2 ⟨[], [], [], false⟩).root = true := rfl
 have CJ : aO.length = 3 := rfl
 have aL : List.take 1 (List.drop (2 * 1) (ah aI [a, b, c])) = [V.dsl c.length false (ah av c)] := rfl
 have t1 : (2 : Int).toNat = 2 := rfl
 have t2 : [a, b, c].getD 2 [] = c := rfl
 have t3 : [a, b, c].length = 3 := rfl
 intro m
 induction m with
 | zero =>
  intro k hk
  by_cases hb : b = bF
  ·subst hb
   rw [jr]
   refine bl (E := mc aO a b c nx) follows named (Lg aO a b c nx (k : Nat) g) ?_
   simp only [az, T.WP, All, aB, aC, aA, aD, aE, aF]
   exact ⟨aK, aK, fun h => af, fun _ => ⟨rfl, rfl⟩⟩
  ·rw [iY hb]
   refine bl (E := mZ a bF c nx) follows named (pA aO a bF c nx ⟨[a, b, c], nx⟩ 2 (k : Nat) g) ?_
   simp only [az, T.WP, All, aB, aC, aA, aD, aE, aF, bB.ae, t1, t2, t3]
   exact ⟨⟨aK, aL⟩, fun h => af, fun _ => ⟨rfl, rfl⟩⟩
 | succ m ih =>
  intro k hk
  have eI := ih (k + 1) af
  have w1 : IntKind.i64.wrap ((k : Int) + 1) = ((k + 1 : Nat) : Int) := bE af
  by_cases hb : b = bF
  ·subst hb
   rw [jr] at eI ⊢
   refine bl (E := mc aO a b c nx) follows named (Lg aO a b c nx (k : Nat) g) ?_
   simp only [az, T.WP, All, aB, aC, aA, aD, aE, aF, bJ.ae, w1]
   exact ⟨aK, aK, fun _ => ⟨⟨aK, dV⟩, (fun h => by rw [nD] at h; cases h), fun _ => eI⟩, fun h => af⟩
  ·rw [iY hb] at eI ⊢
   refine bl (E := mZ a bF c nx) follows named (pA aO a bF c nx ⟨[a, b, c], nx⟩ 2 (k : Nat) g) ?_
   simp only [az, T.WP, All, aB, aC, aA, aD, aE, aF, bB.ae, bJ.ae, t1, t2, t3, w1]
   exact ⟨⟨aK, aL⟩, fun _ => ⟨⟨aK, dV⟩, (fun h => by rw [nD] at h; cases h), fun _ => eI⟩, fun h => af⟩
theorem EE {i : Nat} (hi : i < 3) {b b' : List Rw} {g g' : Bool} (Dp : swK aO i ([a, b, c].getD i []).length 0 ⟨[a, b, c], nx⟩ g = (⟨[a, b', c], nx⟩, g')) (hD : b = bF -> b' = bF /\ g' = g)
  (hl : a8 Tryz.prog 0 (lp Tryz.prog cb 4) ⟨mV i 0 g, gp a bF c nx b, []⟩ (.exit 4) ⟨j6 i g', gp a bF c nx b', []⟩) {ex : Ex} {s' : St}
  (h : a8 Tryz.prog 0 (lp Tryz.prog cb 2) ⟨j6 ((i + 1 : Nat) : Int) g', gp a bF c nx b', []⟩ ex s') : a8 Tryz.prog 0 (lp Tryz.prog cb 2) ⟨j6 i g, gp a bF c nx b, []⟩ ex s' := by
 have w1 : IntKind.i64.wrap ((i : Int) + 1) = ((i + 1 : Nat) : Int) := bE af
 have t3 : [a, b, c].length = 3 := rfl
 by_cases hb : b = bF
 ·subst hb
  obtain ⟨rfl, rfl⟩ := hD rfl
  rw [jr] at *
  refine bl (E := ka aO a b' c nx) follows named (Ld aO a b' c nx (i : Nat) g') ?_
  simp only [az, T.WP, All, aB, aC, aA, w1]
  refine ⟨fun _ => ?_, fun h => af⟩
  rintro _ -
  exact ⟨⟨bn, .bg hl⟩, h⟩
 ·rw [iY hb] at *
  refine bl (E := ka aO a bF c nx) follows named (Le aO a bF c nx ⟨[a, b, c], nx⟩ (i : Nat) g) ?_
  simp only [az, T.WP, All, aB, aC, aA, w1, bB.ae, t3, Int.toNat_natCast]
  refine ⟨fun _ => ?_, fun h => af⟩
  rintro y e
  have e : y = swK aO i ([a, b, c].getD i []).length 0 ⟨[a, b, c], nx⟩ g := e
  rw [Dp] at e
  subst e
  dsimp only
  refine ⟨bn, fun he => ?_, fun he => ?_⟩
  ·have he' : b' = bF := pP.1 he
   subst he'
   rw [jr] at hl h
   exact ⟨.bg hl, h⟩
  ·have he' : ¬ b' = bF := fun h => he (pP.2 h)
   rw [iY he'] at hl h
   exact ⟨.bg hl, h⟩
theorem Uh {b : List Rw} (h3 : jH a b c) (hF : bF.length <= (swB a c nx b.length 0 b false).1.length) :
  a8 Tryz.prog 0 (lp Tryz.prog cb 2) ⟨j6 0 false, gp a bF c nx b, []⟩ (.exit 2) ⟨l9 (swB a c nx b.length 0 b false).2, gp a bF c nx (swB a c nx b.length 0 b false).1, []⟩ := by
 have l0 := Uj (bF := bF) (c := c) (nx := nx) b false h3.a.1 a.length 0 af
 have l1 := Ui (a := a) (bF := bF) (c := c) (nx := nx) b.length 0 b false af h3 hF
 have l2 := Uk (a := a) (bF := bF) (c := c) (nx := nx) (swB a c nx b.length 0 b false).1 (swB a c nx b.length 0 b false).2 h3.c.1 c.length 0 af
 have hlen := uj a c nx b.length 0 b false
 refine EE (i := 0) af (xa rfl _ _ _ _) (fun h => ⟨h, rfl⟩) l0 (EE (i := 1) af (An a c nx b.length 0 b false) (fun h => ?_) l1 (EE (i := 2) af (xa rfl _ _ _ _) (fun h => ⟨h, rfl⟩) l2 ?_))
 ·cases hg : (swB a c nx b.length 0 b false).2
  ·exact ⟨(hlen.2.2.2 hg).trans h, rfl⟩
  ·rcases hlen.2.2.1 hg with h1 | h1
   ·cases h1
   ·rw [<- h] at hF; omega
 ·generalize (swB a c nx b.length 0 b false).1 = b'
  generalize (swB a c nx b.length 0 b false).2 = g'
  by_cases hb : b' = bF
  ·subst hb
   rw [jr]
   refine bl (E := ka aO a b' c nx) follows named (Ld aO a b' c nx ((3 : Nat) : Int) g') ?_
   simp only [az, T.WP, All, aB, aC, aA]
   exact ⟨fun h => af, fun _ => ⟨rfl, rfl⟩⟩
  ·rw [iY hb]
   have t3 : [a, b', c].length = 3 := rfl
   refine bl (E := ka aO a bF c nx) follows named (Le aO a bF c nx ⟨[a, b', c], nx⟩ ((3 : Nat) : Int) g') ?_
   simp only [az, T.WP, All, aB, aC, aA, t3]
   exact ⟨fun h => af, fun _ => ⟨rfl, rfl⟩⟩
end
section
variable {a bF c : List Rw} {nx : Int}
theorem Ug : a8 Tryz.prog 0 (lp Tryz.prog cb 0) ⟨l9 false, gp a bF c nx bF, []⟩ (.exit 0) ⟨xd, eH aO a bF c nx, []⟩ := by
 rw [jr]
 refine bl (E := ka aO a bF c nx) follows named (Lc aO a bF c nx false) ?_
 simp only [az, T.WP, All, aA]
 exact ⟨(fun h => by cases h), fun _ => ⟨rfl, rfl⟩⟩
theorem JE : ∀ (n : Nat) (b : List Rw), b.length < n -> jH a b c -> drB a c nx n b = bF ->
  a8 Tryz.prog 0 (lp Tryz.prog cb 0) ⟨l9 true, gp a bF c nx b, []⟩ (.exit 0) ⟨xd, eH aO a bF c nx, []⟩
 | 0, b, hn, h3, hF => af
 | n + 1, b, hn, h3, hF => by
  have hlen := uj a c nx b.length 0 b false
  rw [drB] at hF
  have hle : bF.length <= (swB a c nx b.length 0 b false).1.length := by
   cases hg : (swB a c nx b.length 0 b false).2
   ·rw [hg, cond_false] at hF; rw [hF]; exact Nat.le_refl _
   ·rw [hg, cond_true] at hF; rw [<- hF]; exact (BP a c nx n _).1
  have l2 := Uh (bF := bF) (nx := nx) h3 hle
  have nC : a8 Tryz.prog 0 (lp Tryz.prog cb 0) ⟨l9 (swB a c nx b.length 0 b false).2, gp a bF c nx (swB a c nx b.length 0 b false).1, []⟩ (.exit 0) ⟨xd, eH aO a bF c nx, []⟩ := by
   cases hg : (swB a c nx b.length 0 b false).2
   ·rw [hg, cond_false] at hF
    rw [hF]
    exact Ug
   ·rw [hg, cond_true] at hF
    have h1 : (swB a c nx b.length 0 b false).1.length < b.length := by
     rcases hlen.2.2.1 hg with h | h
     ·cases h
     ·exact h
    exact JE n _ af (h3.sub hlen.1 hlen.2.1) hF
  have Dp := ae9 a b c nx false
  have t3 : [a, b, c].length = 3 := rfl
  by_cases hb : b = bF
  ·subst hb
   have hg : (swB a c nx b.length 0 b false).2 = false := by
    cases hg : (swB a c nx b.length 0 b false).2
    ·rfl
    ·rcases hlen.2.2.1 hg with h | h
     ·cases h
     ·omega
   rw [hg, hlen.2.2.2 hg] at l2 nC
   rw [jr] at l2 nC ⊢
   refine bl (E := ka aO a b c nx) follows named (Lc aO a b c nx true) ?_
   simp only [az, T.WP, All, aA]
   refine ⟨fun _ => ?_, fun h => by cases h⟩
   rintro _ -
   exact ⟨⟨bn, .bg l2⟩, nC⟩
  ·rw [iY hb] at l2 ⊢
   generalize (swB a c nx b.length 0 b false).1 = b' at *
   generalize (swB a c nx b.length 0 b false).2 = g' at *
   refine bl (E := ka aO a bF c nx) follows named (Ye aO a bF c nx ⟨[a, b, c], nx⟩ true) ?_
   simp only [az, T.WP, All, aB, aC, aA, bB.ae, t3]
   refine ⟨fun _ => ?_, fun h => by cases h⟩
   rintro y e
   rw [Dp] at e
   subst e
   dsimp only
   refine ⟨bn, fun he => ?_, fun he => ?_⟩
   ·have he' : b' = bF := pP.1 he
    subst he'
    rw [jr] at l2 nC
    exact ⟨.bg l2, nC⟩
   ·have he' : ¬ b' = bF := fun h => he (pP.2 h)
    rw [iY he'] at l2 nC
    exact ⟨.bg l2, nC⟩
end
theorem YP {a b c : List Rw} {nx : Int} (h3 : jH a b c) : ao Tryz.prog cb [.agg [ab aq aO], .agg (aP ⟨[a, b, c], nx⟩)] [] ⟨.agg (aP (eJ ⟨[a, b, c], nx⟩)), [], []⟩ := by
 have e : eJ ⟨[a, b, c], nx⟩ = ⟨[a.map (eD (drB a c nx (b.length + 1) b) 1), drB a c nx (b.length + 1) b, c], nx⟩ := rfl
 rw [e]
 have hd := BP a c nx (b.length + 1) b
 have l0 := JE (bF := drB a c nx (b.length + 1) b) (b.length + 1) b af h3 rfl
 generalize hbF : drB a c nx (b.length + 1) b = bF at *
 have bX := h3.sub hd.1 hd.2
 have l6 := ai5 a bF c nx bX.b.1 h3.a.1 (fun r hr => ⟨(h3.a.2 r hr).1, by rw [(h3.a.2 r hr).2]; exact Nat.le_refl _⟩)
 have t3 : [a, b, c].length = 3 := rfl
 have fo := Lb (h3.sh nx).s
 have ak5 := fun h : b = bF => h ▸ Eg (h3.sh nx).s (by simp)
 refine bh (E := ka aO a bF c nx) follows named (YC aO a bF c nx ⟨[a, b, c], nx⟩) (by simp) ?_
 simp only [az, T.WP, All, aB, aC, aA, bB.ae, Cz]
 refine ⟨fun hb => ?_, fun hb => ?_⟩
 ·have hb := pP.1 hb
  subst hb
  rw [jr] at l0
  refine ⟨Eg (h3.sh nx).s (by simp), ?_⟩
  rintro _ -
  refine ⟨⟨bn, .bg l0⟩, ?_⟩
  rintro _ -
  exact ⟨⟨bn, .bg l6⟩, aQ⟩
 ·have hb : ¬ b = bF := fun h => hb (pP.2 h)
  rw [iY hb] at l0
  refine ⟨fo, ?_⟩
  rintro _ -
  refine ⟨⟨bn, .bg l0⟩, ?_⟩
  rintro _ -
  exact ⟨⟨bn, .bg l6⟩, aQ⟩
abbrev mr : Nat := 256
def mutRW (t : Tb) : List Mt -> Rw -> Rw × Int
 | [], r => (r, 0)
 | m :: ms, r => bif (en (t.aw.getD (bf t m.aG).toNat .zero) (r.cells.getD (bf t m.aG).toNat []) m).2 != 0 then (.zero, (en (t.aw.getD (bf t m.aG).toNat .zero) (r.cells.getD (bf t m.aG).toNat []) m).2)
  else mutRW t ms ⟨r.id, r.cells.set (bf t m.aG).toNat (en (t.aw.getD (bf t m.aG).toNat .zero) (r.cells.getD (bf t m.aG).toNat []) m).1⟩
noncomputable def tQ : cP := fun f vs hp =>
 bif Nat.beq f mo then (match vs with | [.agg [.str nm, .int _ a, .int _ b, .int _ e, .int _ g, .int _ h, .str r, .bool q], .dsl _ _ ds, .agg [.str co, .int _ fn, .dsl _ _ va]] => some ⟨en ⟨nm, a, b, e, g, h, r, q⟩ (ae ak ds) ⟨co, fn, ae ak va⟩, fun y => ⟨.tup [ab ak y.1, .int .i64 y.2], [], []⟩⟩ | _ => none) else
 bif Nat.beq f kN then (match vs with | [.agg [.int _ d, .dsl n _ cs]] => some ⟨(), fun _ => ⟨.agg [.int .i64 d, .sl 0 0 n false], [some ([.aJ cs], jD)], []⟩⟩ | _ => none) else wc f vs hp
noncomputable def ma : Vw := fun t cs i => bif Nat.beq t kC then some (aT ((ae aT cs).getD i Sx.zero)) else bif Nat.beq t Ap then some (b8 ((ae b8 cs).getD i a6.zero)) else xf t cs i
noncomputable def eT : Env := { P := Tryz.prog, vw := ma, res := tQ }
def rZ : List V := [.int .i64 0, .dsl 0 true []]
def rz (t : Tb) (id : Int) (cs : List aU) (l : List Mt) (i : Int) : St := ⟨ai 55 [(2, ab b8 l), (3, .ptr 0 0), (4, .ptr 1 0), (6, .ptr 2 0), (8, .int .i64 i)], [some (aq t, fO), some ([.int .i64 id, .sl 3 0 cs.length false], dy), some (rZ, dy), some ([.aJ (ah a7 cs)], jD)], []⟩
def Kk : Ex -> Kp := fun ex => match ex with
 | .normal => { keep := [2, 3, 4, 6, 8], perm := some ([0, 1, 2, 3], [3]) }
 | .ret => { keep := [6, 7] }
 | _ => { keep := [4, 6] }
theorem LL (t : Tb) (id : Int) (cs : List aU) (l : List Mt) (i : Int) : bx eT 0 Kk (lp Tryz.prog mq 0) (rz t id cs l i) = (
 let q := bt.mk [] (0 : Int) (0 : Int) (0 : Int) (0 : Int) (0 : Int) [] false;
 let q1 := List.getD (ae b8 (ah b8 l)) i.toNat (a6.mk [] (0 : Int) []);
 let q6 := ah ba t.aw;
 let q2 := ae ba q6;
 let q3 := ah a7 cs;
 let q4 : List Prop := [0 <= i /\ i < (↑l.length : Int), List.take 3 (List.drop (i.toNat * 3) (ah b8 l)) = (aH q1)];
 let q5 : List V := [aa 0, .dsl 0 true []];
 let q7 := ae a7 q3; bif decide (i < (↑l.length : Int)) then .ag q4 (.bind (bf (bw t.name q6 (ah aN t.uniq) t.root) q1.aG) fun y0 =>
 let q8 := List.getD q2 y0.toNat q;
 let br := 0 + y0.toNat * 1;
 let q9 := List.getD q7 (br / 1) []; .ag [ao (Env.P eT) 178 [.agg (aq t), .str q1.aG] [] (aj.mk (aa y0) [] [])] (.ag [0 <= y0 /\ y0 < (↑t.aw.length : Int), List.take 8 (List.drop (y0.toNat * 8) q6) = ba q8] (.ag [0 <=
  y0 /\ y0 < (↑cs.length : Int)] (.ag [List.take 1 (List.drop br q3) = [ab ak q9]] (.ag q4 (.bind (en (bt.mk q8.name q8.kind q8.min q8.max q8.low q8.high q8.ref q8.eR) (ae ak (ah ak q9)) (a6.mk q1.aG q1.func
  (ae ak (ah ak q1.val)))) fun y1 => .ag [ao (Env.P eT) 277 [.agg (ba q8), ab ak q9, .agg (aH q1)] [] (aj.mk (.tup [ab ak y1.1, aa y1.2]) [] [])] (bif y1.2 != 0 then .done (Ex.ret, St.mk (ai 55 [(6,
  .ptr 0 0), (7, aa y1.2)]) [some (q5, 53)] []) else .ag [0 <= y0 /\ y0 < (↑cs.length : Int)] (.ag [List.take 1 (List.drop br q3) = [ab ak q9], 0 + y0.toNat * 1 + 1 <= q3.length] (.done (Ex.normal, St.mk (ai 55 [(2, ab b8
  l), (3, .ptr 0 0), (4, .ptr 1 0), (6, .ptr 2 0), (8, aa (IntKind.i64.wrap (i + 1)))]) [some ((aq t), 44), some ([aa id, .sl 3 0 cs.length false], 53), some (q5, 53), some ([.aJ (List.take br q3 ++ ab ak y1.1 :: List.drop (0
  + y0.toNat * 1 + 1) q3)], 32)] [])))))))))) else .done (Ex.exit 0, St.mk (ai 55 [(4, .ptr 0 0), (6, .ptr 1 0)]) [some ([aa id, .sl 2 0 cs.length false], 53), some (q5, 53), some ([.aJ q3], 32)] []) : T _) := by kernel_rfl
def rD (t : Tb) (id : Int) (cs : List aU) (l : List Sx) (i : Int) : St := ⟨ai 53 [(2, ab aT l), (3, .ptr 0 0), (4, .ptr 1 0), (6, .ptr 2 0), (8, .int .i64 i)], [some (aq t, fO), some ([.int .i64 id, .sl 3 0 cs.length false], dy), some (rZ, dy), some ([.aJ (ah a7 cs)], jD)], []⟩
theorem Mm (t : Tb) (id : Int) (cs : List aU) (l : List Sx) (i : Int) : bx eT 0 Kk (lp Tryz.prog mr 0) (rD t id cs l i) = (
 let q := List.getD (ae aT (ah aT l)) i.toNat (Sx.mk [] [] []);
 let q1 := bt.mk [] (0 : Int) (0 : Int) (0 : Int) (0 : Int) (0 : Int) [] false;
 let q7 := ah ba t.aw;
 let q2 := ae ba q7;
 let q3 : List Prop := [0 <= i /\ i < (↑l.length : Int), List.take 3 (List.drop (i.toNat * 3) (ah aT l)) = [.str q.aG, ab ak q.val, ab aW q.names]];
 let q4 := ah a7 cs;
 let q5 := ah ak q.val;
 let q6 : List V := [aa 0, .dsl 0 true []];
 let q8 := 0 + q.val.length; bif decide (i < (↑l.length : Int)) then .ag q3 (.bind (bf (bw t.name q7 (ah aN t.uniq) t.root) q.aG) fun y0 =>
 let q9 := List.getD q2 y0.toNat q1;
 let br := 0 + y0.toNat * 1; .ag [ao (Env.P eT) 178 [.agg (aq t), .str q.aG] [] (aj.mk (aa y0) [] [])] (.ag [0 <= y0 /\ y0 < (↑t.aw.length : Int), List.take 8 (List.drop (y0.toNat * 8) q7) = ba q9] (.ag q3 (.bind
  (cX (bt.mk q9.name q9.kind q9.min q9.max q9.low q9.high q9.ref q9.eR) (ae ak q5)) fun y1 => .ag [ao (Env.P eT) 191 [.agg (ba q9), ab ak q.val] [] (aj.mk (aa y1) [] [])] (bif y1 != 0 then .done (Ex.ret, St.mk
  (ai 53 [(6, .ptr 0 0), (7, aa y1)]) [some (q6, 53)] []) else .ag q3 (.ag [q5.length = q.val.length * 3, List.all q5 V.one = true, 0 = 0, 0 = 0, 0 + q.val.length <= 9223372036854775807, q8 * 32 <= 140737488355328] (.ag [0 <= y0 /\
  y0 < (↑cs.length : Int)] (.ag [List.take 1 (List.drop br q4) = [ab ak (List.getD (ae a7 q4) (br / 1) [])], 0 + y0.toNat * 1 + 1 <= q4.length] (.done (Ex.normal, St.mk (ai 53 [(2, ab aT l), (3, .ptr 0 0), (4, .ptr 1
  0), (6, .ptr 2 0), (8, aa (IntKind.i64.wrap (i + 1)))]) [some ((aq t), 44), some ([aa id, .sl 3 0 cs.length false], 53), some (q6, 53), some ([.aJ (List.take br q4 ++ .dsl q8 false q5 :: List.drop (0 + y0.toNat * 1 + 1) q4)],
  32)] [])))))))))) else .done (Ex.exit 0, St.mk (ai 53 [(4, .ptr 0 0), (6, .ptr 1 0)]) [some ([aa id, .sl 2 0 cs.length false], 53), some (q6, 53), some ([.aJ q4], 32)] []) : T _) := by kernel_rfl
theorem Qu {c : bt} {d : aU} (h : cX c d = 0) : (d.length : Int) <= c.max := by
 unfold cX at h
 cases h1 : (decide (0 < d.length) && !((d.getD 0 .zero).kind == c.kind))
 ·rw [h1, cond_false] at h
  cases h2 : !bz d.length c.min c.max
  ·rw [Bool.not_eq_false'] at h2
   unfold bz at h2
   rw [Bool.and_eq_true, decide_eq_true_eq, decide_eq_true_eq] at h2
   exact h2.2
  ·rw [h2] at h; cases h
 ·rw [h1] at h; cases h
theorem V6 {c : bt} {d : aU} {m : Mt} (h : (en c d m).2 = 0) : ((en c d m).1.length : Int) <= max c.max 0 := by
 unfold en at h ⊢
 cases hv : nL d m with
 | none => rw [hv] at h; cases h
 | some v =>
  rw [hv] at h
  dsimp only at h ⊢
  cases hf : cX c v != 0
  ·have := Qu (c := c) (d := v) (by simpa using hf)
   rw [cond_false]
   dsimp only
   omega
  ·rw [hf] at h
   simp only [cond_true] at h
   rw [h] at hf; cases hf
structure oh (t : Tb) : Prop where
 n : t.aw.length <= 1048576
 m : ∀ c ∈ t.aw, c.max <= 1000
def rX (nt : Nat) (id : Int) (cs : List aU) : St := ⟨ai nt [(4, .ptr 0 0), (6, .ptr 1 0)], [some ([.int .i64 id, .sl 2 0 cs.length false], dy), some (rZ, dy), some ([.aJ (ah a7 cs)], jD)], []⟩
def rR (nt : Nat) (code : Int) : St := ⟨ai nt [(6, .ptr 0 0), (7, .int .i64 code)], [some (rZ, dy)], []⟩
theorem LM {t : Tb} (ht : oh t) (id : Int) (l : List Mt) (hl : ∀ m ∈ l, p6 m /\ 0 <= bf t m.aG) (cC : l.length <= 1048576) : ∀ (k i : Nat) (cs : List aU), i + k = l.length -> cs.length = t.aw.length -> (∀ d ∈ cs, d.length <= 1000) ->
  ((mutRW t (l.drop i) ⟨id, cs⟩).2 = 0 -> a8 Tryz.prog 0 (lp Tryz.prog mq 0) (rz t id cs l i) (.exit 0) (rX 55 id (mutRW t (l.drop i) ⟨id, cs⟩).1.cells) /\ (mutRW t (l.drop i) ⟨id, cs⟩).1.id = id /\ (mutRW t (l.drop i) ⟨id, cs⟩).1.cells.length = cs.length) /\
  (¬ (mutRW t (l.drop i) ⟨id, cs⟩).2 = 0 -> a8 Tryz.prog 0 (lp Tryz.prog mq 0) (rz t id cs l i) .ret (rR 55 (mutRW t (l.drop i) ⟨id, cs⟩).2) /\ (mutRW t (l.drop i) ⟨id, cs⟩).1 = .zero)
 | 0, i, cs, hi, hc, hd => by
  have hi : i = l.length := hi
  subst hi
  rw [List.drop_length]
  refine ⟨fun _ => ⟨?_, rfl, rfl⟩, fun h => absurd rfl h⟩
  refine bl (E := eT) follows named (LL t id cs l (l.length : Nat)) ?_
  simp only [az, T.WP, All, aB, aC, aA]
  exact ⟨fun h => by omega, fun _ => ⟨rfl, rfl⟩⟩
 | k + 1, i, cs, hi, hc, hd => by
  have bH : i < l.length := by omega
  have hm := hl _ (bP ⟨[], 0, []⟩ bH)
  have aL := cg.at l ⟨[], 0, []⟩ i 3 bH rfl
  have hk := mi hm.2
  have gl := ou t (l.getD i ⟨[], 0, []⟩).aG ht.n
  have dv := cR.at' t.aw ⟨[], 0, 0, 0, 0, 0, [], false⟩ (bf t (l.getD i ⟨[], 0, []⟩).aG) 8 ⟨hm.2, by omega⟩ rfl
  have tg := bV.at' cs [] (bf t (l.getD i ⟨[], 0, []⟩).aG) 1 ⟨hm.2, by omega⟩ rfl
  have gZ := ht.m _ (bP ⟨[], 0, 0, 0, 0, 0, [], false⟩ hk)
  have kO := hd _ (bP [] (show (bf t (l.getD i ⟨[], 0, []⟩).aG).toNat < cs.length by omega))
  have w1 : IntKind.i64.wrap ((i : Int) + 1) = ((i + 1 : Nat) : Int) := bE (by omega)
  have nz := V4 (c := t.aw.getD (bf t (l.getD i ⟨[], 0, []⟩).aG).toNat ⟨[], 0, 0, 0, 0, 0, [], false⟩) kO hm.1
  have hlen := V6 (c := t.aw.getD (bf t (l.getD i ⟨[], 0, []⟩).aG).toNat ⟨[], 0, 0, 0, 0, 0, [], false⟩) (d := cs.getD (bf t (l.getD i ⟨[], 0, []⟩).aG).toNat []) (m := l.getD i ⟨[], 0, []⟩)
  have hM : mutRW t (l.drop i) ⟨id, cs⟩ = bif (en (t.aw.getD (bf t (l.getD i ⟨[], 0, []⟩).aG).toNat ⟨[], 0, 0, 0, 0, 0, [], false⟩) (cs.getD (bf t (l.getD i ⟨[], 0, []⟩).aG).toNat []) (l.getD i ⟨[], 0, []⟩)).2 != 0 then (.zero, (en (t.aw.getD (bf t (l.getD i ⟨[], 0, []⟩).aG).toNat ⟨[], 0, 0, 0, 0, 0, [], false⟩) (cs.getD (bf t (l.getD i ⟨[], 0, []⟩).aG).toNat []) (l.getD i ⟨[], 0, []⟩)).2)
   else mutRW t (l.drop (i + 1)) ⟨id, cs.set (bf t (l.getD i ⟨[], 0, []⟩).aG).toNat (en (t.aw.getD (bf t (l.getD i ⟨[], 0, []⟩).aG).toNat ⟨[], 0, 0, 0, 0, 0, [], false⟩) (cs.getD (bf t (l.getD i ⟨[], 0, []⟩).aG).toNat []) (l.getD i ⟨[], 0, []⟩)).1⟩ := by
   rw [gh ⟨[], 0, []⟩ bH, mutRW]; rfl
  rw [hM]
  have jt := fun v => bV.setAt cs (bf t (l.getD i ⟨[], 0, []⟩).aG).toNat (by omega) v
  rw [Nat.mul_one] at tg
  generalize hq : l.getD i ⟨[], 0, []⟩ = q at *
  have key : ∀ {ex : Ex} {s' : St}, (∀ w : aU × Int, w = en (t.aw.getD (bf t q.aG).toNat ⟨[], 0, 0, 0, 0, 0, [], false⟩) (cs.getD (bf t q.aG).toNat []) q -> ((w.2 != 0) = true -> Ex.ret = ex /\ rR 55 w.2 = s') /\ ((w.2 != 0) = false -> a8 Tryz.prog 0 (lp Tryz.prog mq 0) (rz t id (cs.set (bf t q.aG).toNat w.1) l ((i + 1 : Nat) : Int)) ex s')) -> a8 Tryz.prog 0 (lp Tryz.prog mq 0) (rz t id cs l i) ex s' := by
   intro ex s' h1
   refine bl (E := eT) follows named (LL t id cs l (i : Nat)) ?_
   simp only [az, T.WP, All, aB, aC, aA, w1, cg.ae, bq.ae, cR.ae, bV.ae, cm, Int.toNat_natCast, Nat.zero_add, Nat.mul_one, Nat.div_one, hq, bV.length]
   refine ⟨fun _ => ⟨⟨aK, aL⟩, ?_⟩, fun h => by omega⟩
   rintro y rfl
   refine ⟨gl, ⟨aK, dv⟩, aK, tg, ⟨aK, aL⟩, ?_⟩
   rintro w e
   have e : w = en (t.aw.getD (bf t q.aG).toNat ⟨[], 0, 0, 0, 0, 0, [], false⟩) (cs.getD (bf t q.aG).toNat []) q := e
   have h2 := h1 w e
   rw [<- e] at nz
   refine ⟨nz, h2.1, fun hw => ⟨aK, ⟨tg, by omega⟩, ?_⟩⟩
   have h3 := h2.2 hw
   simp only [rz, jt, List.length_set, Nat.mul_one] at h3
   exact h3
  generalize hw : en (t.aw.getD (bf t q.aG).toNat ⟨[], 0, 0, 0, 0, 0, [], false⟩) (cs.getD (bf t q.aG).toNat []) q = w at *
  cases hz : w.2 != 0
  ·have Tw : w.2 = 0 := by simpa using hz
   have hlen := hlen Tw
   have ih := LM ht id l hl cC k (i + 1) (cs.set (bf t q.aG).toNat w.1) (by omega) (by rw [List.length_set]; exact hc) (fun d lE => by
    rcases List.mem_or_eq_of_mem_set lE with h | rfl
    ·exact hd d h
    ·omega)
   rw [cond_false]
   refine ⟨fun h => ⟨key fun w' e => ?_, (ih.1 h).2.1, ?_⟩, fun h => ⟨key fun w' e => ?_, (ih.2 h).2⟩⟩
   ·subst e; exact ⟨(fun h2 => by rw [hz] at h2; cases h2), fun _ => (ih.1 h).1⟩
   ·have := (ih.1 h).2.2; rw [List.length_set] at this; exact this
   ·subst e; exact ⟨(fun h2 => by rw [hz] at h2; cases h2), fun _ => (ih.2 h).1⟩
  ·rw [cond_true]
   refine ⟨fun h => ?_, fun h => ⟨key fun w' e => ?_, rfl⟩⟩
   ·have h' : w.2 = 0 := h
    rw [h'] at hz; cases hz
   ·subst e; exact ⟨fun _ => ⟨rfl, rfl⟩, fun h2 => by rw [hz] at h2; cases h2⟩
noncomputable def Vd : Nat -> St -> Option bT := fun id s => match id, s.tm.get 2, s.hp with
 | 0, .dsl _ _ ms, some ([.str tn, .dsl _ _ cc, .dsl _ _ uu, .bool q], _) :: some ([.int _ d, _], _) :: _ :: some ([.aJ cs], _) :: _ =>
  some ⟨mutRW (bw tn cc uu q) (ae b8 ms) ⟨d, ae a7 cs⟩, fun y => .two { keep := [2, 3, 4, 6, 8] } (rz (bw tn cc uu q) d (ae a7 cs) (ae b8 ms) 0) (decide (y.2 = 0)) (.exit 0) (rX 55 d y.1.cells) .ret (rR 55 y.2)⟩
 | _, _, _ => none
noncomputable def uy : Env := { P := Tryz.prog, vw := ma, res := tQ, ls := Vd }
theorem YU (t : Tb) (r : Rw) (l : List Mt) : fnT uy 0 mq [.agg (aq t), .agg (av r), ab b8 l] [] = (
 let q3 := bw t.name (ah ba t.aw) (ah aN t.uniq) t.root;
 let q2 := ah a7 r.cells;
 let q5 := ae a7 q2;
 let q4 : List V := [aa 0, .dsl 0 true []];
 let q : Hp := [some ((aq q3), 44), some ([aa r.id, .sl 3 0 q5.length false], 53), some (q4, 53), some ([.aJ (ah a7 q5)], 32)];
 let q6 := ae b8 (ah b8 l);
 let q1 := ai 55 [(2, ab b8 q6), (3, .ptr 0 0), (4, .ptr 1 0), (6, .ptr 2 0), (8, aa 0)];
 let q7 := r.cells.length; .bind PUnit.unit fun _ => .ag [ao (Env.P uy) 154 [.agg (av r)] [] (aj.mk (.agg [aa r.id, .sl 0 0 q7 false]) [some ([.aJ q2], 32)] [])] (.bind (mutRW q3 q6 (Rw.mk r.id q5)) fun y1 =>
 let q8 := y1.1.cells; .ag [St.mk (ai 55 [(2, ab b8 l), (3, .ptr 0 0), (4, .ptr 1 0), (6, .ptr 2 0), (8, aa 0)]) [some ((aq t), 44), some ([aa r.id, .sl 3 0 q7 false], 53), some (q4, 53), some ([.aJ q2], 32)] [] = St.mk q1 q
  []] (bif decide (y1.2 = (0 : Int)) then .ag [aV (Env.P uy) 0 (blk Tryz.prog mq 0) (St.mk q1 q []) (Ex.exit 0) (St.mk (ai 55 [(4, .ptr 0 0), (6, .ptr 1 0)]) [some ([aa r.id, .sl 2 0 q8.length false], 53), some (q4, 53),
  some ([.aJ (ah a7 q8)], 32)] [])] (.done (aj.mk (.tup [.agg [aa r.id, ab a7 q8], aa 0]) [] [])) else .ag [aV (Env.P uy) 0 (blk Tryz.prog mq 0) (St.mk q1 q []) Ex.ret (St.mk (ai 55 [(6, .ptr 0 0), (7, aa
  y1.2)]) [some (q4, 53)] [])] (.done (aj.mk (.tup [.agg [aa 0, .dsl 0 false []], aa y1.2]) [] [])))) : T _) := (T.force_eq _).symm.trans (by kernel_rfl)
theorem Mj {r : Rw} {id : Int} (h : r.id = id) : (⟨id, r.cells⟩ : Rw) = r := by subst h; rfl
structure od (t : Tb) (r : Rw) : Prop where
 n : r.cells.length = t.aw.length
 d : ∀ d ∈ r.cells, d.length <= 1000
theorem od.s {t : Tb} {r : Rw} (h : od t r) (ht : oh t) : ir r := ⟨by rw [h.n]; exact ht.n, fun d hd => Nat.le_trans (h.d d hd) af⟩
theorem Zz {t : Tb} {r : Rw} {l : List Mt} (ht : oh t) (hr : od t r) (hl : ∀ m ∈ l, p6 m /\ 0 <= bf t m.aG) (cC : l.length <= 1048576) :
  ao Tryz.prog mq [.agg (aq t), .agg (av r), ab b8 l] [] ⟨.tup [.agg (av (mutRW t l r).1), .int .i64 (mutRW t l r).2], [], []⟩ := by
 have h := LM ht r.id l hl cC l.length 0 r.cells af hr.n hr.d
 rw [List.drop_zero] at h
 have ho := Eh r (hr.s ht)
 refine bh (E := uy) follows named (YU t r l) (by simp) ?_
 simp only [az, T.WP, All, aB, aC, aA, cg.ae, bV.ae, cm]
 rintro _ -
 refine ⟨ho, ?_⟩
 rintro y e
 have e : y = mutRW t l ⟨r.id, r.cells⟩ := e
 rw [show mutRW t l r = mutRW t l ⟨r.id, r.cells⟩ from rfl]
 rw [<- e] at h ⊢
 refine ⟨bn, fun hz => ?_, fun hz => ?_⟩
 ·obtain ⟨h1, h2, h3⟩ := h.1 hz
  refine ⟨.bg h1, ?_⟩
  rw [<- Mj h2, hz]
  exact aQ
 ·obtain ⟨h1, h2⟩ := h.2 hz
  refine ⟨.bg h1, ?_⟩
  rw [h2]; exact aQ
theorem Mn {t : Tb} (ht : oh t) (id : Int) (l : List Sx) (hl : ∀ m ∈ l, m.val.length <= 1000 /\ 0 <= bf t m.aG) (cC : l.length <= 1048576) : ∀ (k i : Nat) (cs : List aU), i + k = l.length -> cs.length = t.aw.length -> (∀ d ∈ cs, d.length <= 1000) ->
  ((setRL t (l.drop i) ⟨id, cs⟩).2 = 0 -> a8 Tryz.prog 0 (lp Tryz.prog mr 0) (rD t id cs l i) (.exit 0) (rX 53 id (setRL t (l.drop i) ⟨id, cs⟩).1.cells) /\ (setRL t (l.drop i) ⟨id, cs⟩).1.id = id) /\
  (¬ (setRL t (l.drop i) ⟨id, cs⟩).2 = 0 -> a8 Tryz.prog 0 (lp Tryz.prog mr 0) (rD t id cs l i) .ret (rR 53 (setRL t (l.drop i) ⟨id, cs⟩).2) /\ (setRL t (l.drop i) ⟨id, cs⟩).1 = .zero)
 | 0, i, cs, hi, hc, hd => by
  have hi : i = l.length := hi
  subst hi
  rw [List.drop_length]
  refine ⟨fun _ => ⟨?_, rfl⟩, fun h => absurd rfl h⟩
  refine bl (E := eT) follows named (Mm t id cs l (l.length : Nat)) ?_
  simp only [az, T.WP, All, aB, aC, aA]
  exact ⟨fun h => af, fun _ => ⟨rfl, rfl⟩⟩
 | k + 1, i, cs, hi, hc, hd => by
  have bH : i < l.length := af
  have hm := hl _ (bP ⟨[], [], []⟩ bH)
  have aL := dX.at l ⟨[], [], []⟩ i 3 bH rfl
  have hk := mi hm.2
  have gl := ou t (l.getD i ⟨[], [], []⟩).aG ht.n
  have dv := cR.at' t.aw ⟨[], 0, 0, 0, 0, 0, [], false⟩ (bf t (l.getD i ⟨[], [], []⟩).aG) 8 ⟨hm.2, af⟩ rfl
  have tg := bV.at' cs [] (bf t (l.getD i ⟨[], [], []⟩).aG) 1 ⟨hm.2, af⟩ rfl
  have w1 : IntKind.i64.wrap ((i : Int) + 1) = ((i + 1 : Nat) : Int) := bE af
  have IB := Cr (t.aw.getD (bf t (l.getD i ⟨[], [], []⟩).aG).toNat ⟨[], 0, 0, 0, 0, 0, [], false⟩) (l.getD i ⟨[], [], []⟩).val af
  have hM : setRL t (l.drop i) ⟨id, cs⟩ = bif cX (t.aw.getD (bf t (l.getD i ⟨[], [], []⟩).aG).toNat ⟨[], 0, 0, 0, 0, 0, [], false⟩) (l.getD i ⟨[], [], []⟩).val != 0 then (.zero, cX (t.aw.getD (bf t (l.getD i ⟨[], [], []⟩).aG).toNat ⟨[], 0, 0, 0, 0, 0, [], false⟩) (l.getD i ⟨[], [], []⟩).val)
   else setRL t (l.drop (i + 1)) ⟨id, cs.set (bf t (l.getD i ⟨[], [], []⟩).aG).toNat (l.getD i ⟨[], [], []⟩).val⟩ := by
   rw [gh ⟨[], [], []⟩ bH, setRL]; rfl
  rw [hM]
  have jt := fun v => bV.setAt cs (bf t (l.getD i ⟨[], [], []⟩).aG).toNat af v
  rw [Nat.mul_one] at tg
  generalize hq : l.getD i ⟨[], [], []⟩ = q at *
  have key : ∀ {ex : Ex} {s' : St}, (∀ w : Int, w = cX (t.aw.getD (bf t q.aG).toNat ⟨[], 0, 0, 0, 0, 0, [], false⟩) q.val -> ((w != 0) = true -> Ex.ret = ex /\ rR 53 w = s') /\ ((w != 0) = false -> a8 Tryz.prog 0 (lp Tryz.prog mr 0) (rD t id (cs.set (bf t q.aG).toNat q.val) l ((i + 1 : Nat) : Int)) ex s')) -> a8 Tryz.prog 0 (lp Tryz.prog mr 0) (rD t id cs l i) ex s' := by
   intro ex s' h1
   refine bl (E := eT) follows named (Mm t id cs l (i : Nat)) ?_
   simp only [az, T.WP, All, aB, aC, aA, w1, dX.ae, bq.ae, cR.ae, bV.ae, cm, Int.toNat_natCast, Nat.zero_add, Nat.mul_one, Nat.div_one, hq, bV.length, bq.length, bq.all]
   refine ⟨fun _ => ⟨⟨aK, aL⟩, ?_⟩, fun h => af⟩
   rintro y rfl
   refine ⟨gl, ⟨aK, dv⟩, ⟨aK, aL⟩, ?_⟩
   rintro w e
   have e : w = cX (t.aw.getD (bf t q.aG).toNat ⟨[], 0, 0, 0, 0, 0, [], false⟩) q.val := e
   have h2 := h1 w e
   rw [<- e] at IB
   refine ⟨IB, h2.1, fun hw => ?_⟩
   have h3 := h2.2 hw
   simp only [rD, jt, List.length_set, Nat.mul_one] at h3
   refine ⟨⟨aK, aL⟩, aK, aK, ⟨tg, af⟩, ?_⟩
   exact h3
  generalize hw : cX (t.aw.getD (bf t q.aG).toNat ⟨[], 0, 0, 0, 0, 0, [], false⟩) q.val = w at *
  cases hz : w != 0
  ·have ih := Mn ht id l hl cC k (i + 1) (cs.set (bf t q.aG).toNat q.val) af (by rw [List.length_set]; exact hc) (fun d lE => by
    rcases List.mem_or_eq_of_mem_set lE with h | rfl
    ·exact hd d h
    ·exact hm.1)
   rw [cond_false]
   refine ⟨fun h => ⟨key fun w' e => ?_, (ih.1 h).2⟩, fun h => ⟨key fun w' e => ?_, (ih.2 h).2⟩⟩
   ·subst e; exact ⟨(fun h2 => by rw [hz] at h2; cases h2), fun _ => (ih.1 h).1⟩
   ·subst e; exact ⟨(fun h2 => by rw [hz] at h2; cases h2), fun _ => (ih.2 h).1⟩
  ·rw [cond_true]
   refine ⟨fun h => ?_, fun h => ⟨key fun w' e => ?_, rfl⟩⟩
   ·have h' : w = 0 := h
    rw [h'] at hz; cases hz
   ·subst e; exact ⟨fun _ => ⟨rfl, rfl⟩, fun h2 => by rw [hz] at h2; cases h2⟩
noncomputable def Vg : Nat -> St -> Option bT := fun id s => match id, s.tm.get 2, s.hp with
 | 0, .dsl _ _ ms, some ([.str tn, .dsl _ _ cc, .dsl _ _ uu, .bool q], _) :: some ([.int _ d, _], _) :: _ :: some ([.aJ cs], _) :: _ =>
  some ⟨setRL (bw tn cc uu q) (ae aT ms) ⟨d, ae a7 cs⟩, fun y => .two { keep := [2, 3, 4, 6, 8] } (rD (bw tn cc uu q) d (ae a7 cs) (ae aT ms) 0) (decide (y.2 = 0)) (.exit 0) (rX 53 d y.1.cells) .ret (rR 53 y.2)⟩
 | _, _, _ => none
noncomputable def uz : Env := { P := Tryz.prog, vw := ma, res := tQ, ls := Vg }
theorem ZJ (t : Tb) (r : Rw) (l : List Sx) : fnT uz 0 mr [.agg (aq t), .agg (av r), ab aT l] [] = (
 let q3 := bw t.name (ah ba t.aw) (ah aN t.uniq) t.root;
 let q2 := ah a7 r.cells;
 let q5 := ae a7 q2;
 let q4 : List V := [aa 0, .dsl 0 true []];
 let q : Hp := [some ((aq q3), 44), some ([aa r.id, .sl 3 0 q5.length false], 53), some (q4, 53), some ([.aJ (ah a7 q5)], 32)];
 let q6 := ae aT (ah aT l);
 let q1 := ai 53 [(2, ab aT q6), (3, .ptr 0 0), (4, .ptr 1 0), (6, .ptr 2 0), (8, aa 0)];
 let q7 := r.cells.length; .bind PUnit.unit fun _ => .ag [ao (Env.P uz) 154 [.agg (av r)] [] (aj.mk (.agg [aa r.id, .sl 0 0 q7 false]) [some ([.aJ q2], 32)] [])] (.bind (setRL q3 q6 (Rw.mk r.id q5)) fun y1 =>
 let q8 := y1.1.cells; .ag [St.mk (ai 53 [(2, ab aT l), (3, .ptr 0 0), (4, .ptr 1 0), (6, .ptr 2 0), (8, aa 0)]) [some ((aq t), 44), some ([aa r.id, .sl 3 0 q7 false], 53), some (q4, 53), some ([.aJ q2], 32)] [] = St.mk q1 q
  []] (bif decide (y1.2 = (0 : Int)) then .ag [aV (Env.P uz) 0 (blk Tryz.prog mr 0) (St.mk q1 q []) (Ex.exit 0) (St.mk (ai 53 [(4, .ptr 0 0), (6, .ptr 1 0)]) [some ([aa r.id, .sl 2 0 q8.length false], 53), some (q4, 53),
  some ([.aJ (ah a7 q8)], 32)] [])] (.done (aj.mk (.tup [.agg [aa r.id, ab a7 q8], aa 0]) [] [])) else .ag [aV (Env.P uz) 0 (blk Tryz.prog mr 0) (St.mk q1 q []) Ex.ret (St.mk (ai 53 [(6, .ptr 0 0), (7, aa
  y1.2)]) [some (q4, 53)] [])] (.done (aj.mk (.tup [.agg [aa 0, .dsl 0 false []], aa y1.2]) [] [])))) : T _) := (T.force_eq _).symm.trans (by kernel_rfl)
theorem Mz {t : Tb} {r : Rw} {l : List Sx} (ht : oh t) (hr : od t r) (hl : ∀ m ∈ l, m.val.length <= 1000 /\ 0 <= bf t m.aG) (cC : l.length <= 1048576) :
  ao Tryz.prog mr [.agg (aq t), .agg (av r), ab aT l] [] ⟨.tup [.agg (av (setRL t l r).1), .int .i64 (setRL t l r).2], [], []⟩ := by
 have h := Mn ht r.id l hl cC l.length 0 r.cells af hr.n hr.d
 rw [List.drop_zero] at h
 have ho := Eh r (hr.s ht)
 refine bh (E := uz) follows named (ZJ t r l) (by simp) ?_
 simp only [az, T.WP, All, aB, aC, aA, dX.ae, bV.ae, cm]
 rintro _ -
 refine ⟨ho, ?_⟩
 rintro y e
 have e : y = setRL t l ⟨r.id, r.cells⟩ := e
 rw [show setRL t l r = setRL t l ⟨r.id, r.cells⟩ from rfl]
 rw [<- e] at h ⊢
 refine ⟨bn, fun hz => ?_, fun hz => ?_⟩
 ·obtain ⟨h1, h2⟩ := h.1 hz
  refine ⟨.bg h1, ?_⟩
  rw [<- Mj h2, hz]
  exact aQ
 ·obtain ⟨h1, h2⟩ := h.2 hz
  refine ⟨.bg h1, ?_⟩
  rw [h2]; exact aQ
abbrev sP : Nat := 257
abbrev sV : Nat := 237
def z6 (t : Tb) (id : Int) (l : List aU) (i : Int) : St := ⟨ai 29 [(2, .ptr 0 0), (4, .ptr 1 0), (5, .ptr 2 0), (6, .int .i64 i)], [some (aq t, fO), some (rZ, dy), some ([.int .i64 id, .sl 3 0 l.length false], dy), some ([.aJ (ah a7 l)], jD)], []⟩
def Ww : Ex -> Kp := fun ex => match ex with
 | .normal => { keep := [2, 4, 5, 6], perm := some ([0, 1, 2, 5], [3]) }
 | _ => { keep := [4, 5] }
theorem H7 (t : Tb) (id : Int) (l : List aU) (i : Int) : bx eT 0 Ww (lp Tryz.prog sP 0) (z6 t id l i) = (
 let q := List.getD (ae ba (ah ba t.aw)) i.toNat (bt.mk [] (0 : Int) (0 : Int) (0 : Int) (0 : Int) (0 : Int) [] false);
 let q1 := (↑t.aw.length : Int); bif decide (i < q1) then .ag [0 <= i /\ i < q1, List.take 8 (List.drop (i.toNat * 8) (ah ba t.aw)) = ba q] (.bind (gR (bt.mk q.name q.kind q.min q.max q.low q.high q.ref q.eR)) fun y0
  => .ag [ao (Env.P eT) 203 [.agg (ba q)] [] (aj.mk (ab ak y0) [] [])] (.ag [0 = 0, List.length (ah a7 l) = l.length * 1, l.length + 1 <= 9223372036854775807, (l.length + 1) * 24 <= 140737488355328] (.done (Ex.normal,
  St.mk (ai 29 [(2, .ptr 0 0), (4, .ptr 1 0), (5, .ptr 2 0), (6, aa (IntKind.i64.wrap (i + 1)))]) [some ((aq t), 44), some ([aa 0, .dsl 0 true []], 53), some ([aa id, .sl 3 0 (l.length + 1) false], 53), some ([.aJ (ah a7 l
  ++ [ab ak y0])], 32)] [])))) else .done (Ex.exit 0, St.mk (ai 29 [(4, .ptr 0 0), (5, .ptr 1 0)]) [some ([aa 0, .dsl 0 true []], 53), some ([aa id, .sl 2 0 l.length false], 53), some ([.aJ (ah a7 l)], 32)] []) : T _) := by kernel_rfl
def yC (nt : Nat) (a b : Nat) (id : Int) (l : List aU) : St := ⟨ai nt [(a, .ptr 0 0), (b, .ptr 1 0)], [some (rZ, dy), some ([.int .i64 id, .sl 2 0 l.length false], dy), some ([.aJ (ah a7 l)], jD)], []⟩
theorem PU (c : bt) : (gR c).length <= 1 := by
 unfold gR
 cases c.min == 0
 ·cases c.kind == 1 <;> simp
 ·simp
theorem H8 (t : Tb) (id : Int) (ht : t.aw.length <= 1048576) : ∀ (k i : Nat), i + k = t.aw.length ->
  a8 Tryz.prog 0 (lp Tryz.prog sP 0) (z6 t id ((t.aw.take i).map gR) i) (.exit 0) (yC 29 4 5 id (t.aw.map gR))
 | 0, i, hi => by
  have hi : i = t.aw.length := hi
  subst hi
  rw [List.take_length]
  refine bl (E := eT) follows named (H7 t id (t.aw.map gR) (t.aw.length : Nat)) ?_
  simp only [az, T.WP, All, aB, aC, aA]
  exact ⟨fun h => af, fun _ => ⟨rfl, rfl⟩⟩
 | k + 1, i, hi => by
  have bH : i < t.aw.length := af
  have aL := cR.at t.aw ⟨[], 0, 0, 0, 0, 0, [], false⟩ i 8 bH rfl
  have ih := H8 t id ht k (i + 1) af
  have w1 : IntKind.i64.wrap ((i : Int) + 1) = ((i + 1 : Nat) : Int) := bE af
  have hd := PV (t.aw.getD i ⟨[], 0, 0, 0, 0, 0, [], false⟩)
  have hle : (t.aw.take i).length = i := by rw [List.length_take]; omega
  rw [j5 ⟨[], 0, 0, 0, 0, 0, [], false⟩ bH, List.map_append, List.map_singleton] at ih
  refine bl (E := eT) follows named (H7 t id ((t.aw.take i).map gR) (i : Nat)) ?_
  simp only [az, T.WP, All, aB, aC, aA, w1, cR.ae, bV.length, List.length_map, hle, Int.toNat_natCast]
  refine ⟨fun _ => ⟨⟨aK, aL⟩, ?_⟩, fun h => af⟩
  rintro y rfl
  refine ⟨hd, aK, ?_⟩
  simp only [z6, dU, a7, m6, ab, List.length_append, List.length_singleton, List.length_map, hle] at ih ⊢
  exact ih
noncomputable def UH : Nat -> St -> Option bT := fun id s => match id, s.hp with
 | 0, some ([.str tn, .dsl _ _ cc, .dsl _ _ uu, .bool q], _) :: _ :: _ :: some ([.int _ d, _], _) :: _ => some ⟨(), fun _ => .one { keep := [2, 4, 5, 6], lX := [(3, 1)] } (z6 (bw tn cc uu q) d [] 0) (.exit 0) (yC 29 4 5 d ((bw tn cc uu q).aw.map gR))⟩
 | _, _ => none
noncomputable def AP : Env := { P := Tryz.prog, vw := ma, res := tQ, ls := UH }
theorem QK (t : Tb) (id : Int) : fnT AP 0 sP [.agg (aq t), .int .i64 id] [] = (
 let q := bw t.name (ah ba t.aw) (ah aN t.uniq) t.root;
 let q1 := ai 29 [(2, .ptr 0 0), (4, .ptr 1 0), (5, .ptr 2 0), (6, aa 0)];
 let q4 : List V := [aa 0, .dsl 0 true []];
 let q2 : Hp := [some ((aq q), 44), some (q4, 53), some ([aa id, .sl 3 0 0 false], 53), some ([.aJ []], 32)];
 let q3 := List.map gR q.aw; .bind PUnit.unit fun _ => .ag [St.mk q1 [some ((aq t), 44), some (q4, 53), some ([aa id, .sl 3 0 0 false], 53), some ([.aJ []], 32)] [] = St.mk q1 q2 [], aV (Env.P AP) 0 (blk Tryz.prog sP
  0) (St.mk q1 q2 []) (Ex.exit 0) (St.mk (ai 29 [(4, .ptr 0 0), (5, .ptr 1 0)]) [some (q4, 53), some ([aa id, .sl 2 0 q3.length false], 53), some ([.aJ (ah a7 q3)], 32)] [])] (.done (aj.mk (.agg [aa id, ab a7 q3]) []
  [])) : T _) := (T.force_eq _).symm.trans (by kernel_rfl)
theorem QM (t : Tb) (id : Int) (ht : t.aw.length <= 1048576) : ao Tryz.prog sP [.agg (aq t), .int .i64 id] [] ⟨.agg (av (gi t id)), [], []⟩ := by
 have h := H8 t id ht t.aw.length 0 af
 refine bh (E := AP) follows named (QK t id) (by simp) ?_
 simp only [T.WP, All, aA, cm]
 rintro _ -
 exact ⟨⟨bn, .bg h⟩, aQ⟩
def vZ (t : Tb) (r : Rw) (nm : List (List UInt8)) : Rw := ⟨r.id, nm.map (dS t r)⟩
def Aa (t : Tb) (r : Rw) (nm : List (List UInt8)) (l : List aU) (i : Int) : St := ⟨ai 34 [(2, ab aW nm), (3, .ptr 0 0), (4, .ptr 1 0), (6, .ptr 2 0), (7, .ptr 3 0), (8, .int .i64 i)], [some (aq t, fO), some (av r, dy), some (rZ, dy), some ([.int .i64 r.id, .sl 4 0 l.length false], dy), some ([.aJ (ah a7 l)], jD)], []⟩
def WL : Ex -> Kp := fun ex => match ex with
 | .normal => { keep := [2, 3, 4, 6, 7, 8], perm := some ([0, 1, 2, 3, 8], [4]) }
 | _ => { keep := [6, 7] }
theorem Lm (t : Tb) (r : Rw) (nm : List (List UInt8)) (l : List aU) (i : Int) : bx eT 0 WL (lp Tryz.prog sV 0) (Aa t r nm l i) = (
 let q := List.getD (ae aW (ah aW nm)) i.toNat []; bif decide (i < (↑nm.length : Int)) then .ag [0 <= i /\ i < (↑nm.length : Int), List.take 1 (List.drop (i.toNat * 1) (ah aW nm)) = [.str q]] (.bind (dS (bw t.name
  (ah ba t.aw) (ah aN t.uniq) t.root) (Rw.mk r.id (ae a7 (ah a7 r.cells))) q) fun y0 =>
 let q1 := ah ak y0; .ag [ao (Env.P eT) 242 [.agg (aq t), .agg (av r), .str q] [] (aj.mk (ab ak y0) [] [])] (.ag [q1.length = y0.length * 3, List.all q1 V.one = true, 0 = 0, 0 = 0, 0 + y0.length <=
  9223372036854775807, (0 + y0.length) * 32 <= 140737488355328] (.ag [0 = 0, List.length (ah a7 l) = l.length * 1, l.length + 1 <= 9223372036854775807, (l.length + 1) * 24 <= 140737488355328] (.done (Ex.normal, St.mk (ai 34 [(2,
  ab aW nm), (3, .ptr 0 0), (4, .ptr 1 0), (6, .ptr 2 0), (7, .ptr 3 0), (8, aa (IntKind.i64.wrap (i + 1)))]) [some ((aq t), 44), some ((av r), 53), some ([aa 0, .dsl 0 true []], 53), some ([aa r.id, .sl 4 0 (l.length + 1)
  false], 53), some ([.aJ (ah a7 l ++ [.dsl (0 + y0.length) false q1])], 32)] []))))) else .done (Ex.exit 0, St.mk (ai 34 [(6, .ptr 0 0), (7, .ptr 1 0)]) [some ([aa 0, .dsl 0 true []], 53), some ([aa r.id, .sl 2 0 l.length
  false], 53), some ([.aJ (ah a7 l)], 32)] []) : T _) := by kernel_rfl
noncomputable def U6 : Nat -> St -> Option bT := fun id s => match id, s.tm.get 2, s.hp with
 | 0, .dsl _ _ ns, some ([.str tn, .dsl _ _ cc, .dsl _ _ uu, .bool q], _) :: some ([.int _ d, .dsl _ _ cs], _) :: _ => some ⟨(), fun _ => .one { keep := [2, 3, 4, 6, 7, 8], lX := [(4, 1)] } (Aa (bw tn cc uu q) ⟨d, ae a7 cs⟩ (ae aW ns) [] 0) (.exit 0) (yC 34 6 7 d ((ae aW ns).map (dS (bw tn cc uu q) ⟨d, ae a7 cs⟩)))⟩
 | _, _, _ => none
noncomputable def AZ : Env := { P := Tryz.prog, vw := ma, res := tQ, ls := U6 }
theorem Yh (t : Tb) (r : Rw) (nm : List (List UInt8)) : fnT AZ 0 sV [.agg (aq t), .agg (av r), ab aW nm] [] = (
 let q4 := bw t.name (ah ba t.aw) (ah aN t.uniq) t.root;
 let q3 := Rw.mk r.id (ae a7 (ah a7 r.cells));
 let q6 := ae aW (ah aW nm);
 let q := List.map (dS q4 q3) q6;
 let q5 : List V := [aa 0, .dsl 0 true []];
 let q1 : Hp := [some ((aq q4), 44), some ((av q3), 53), some (q5, 53), some ([aa q3.id, .sl 4 0 0 false], 53), some ([.aJ []], 32)];
 let q2 := ai 34 [(2, ab aW q6), (3, .ptr 0 0), (4, .ptr 1 0), (6, .ptr 2 0), (7, .ptr 3 0), (8, aa 0)]; .bind PUnit.unit fun _ => .ag [St.mk (ai 34 [(2, ab aW nm), (3, .ptr 0 0), (4, .ptr 1 0), (6, .ptr 2 0), (7, .ptr 3
  0), (8, aa 0)]) [some ((aq t), 44), some ((av r), 53), some (q5, 53), some ([aa r.id, .sl 4 0 0 false], 53), some ([.aJ []], 32)] [] = St.mk q2 q1 [], aV (Env.P AZ) 0 (blk Tryz.prog sV 0) (St.mk q2 q1 []) (Ex.exit 0)
  (St.mk (ai 34 [(6, .ptr 0 0), (7, .ptr 1 0)]) [some (q5, 53), some ([aa r.id, .sl 2 0 q.length false], 53), some ([.aJ (ah a7 q)], 32)] [])] (.done (aj.mk (.agg [aa r.id, ab a7 q]) [] [])) : T _) := (T.force_eq _).symm.trans (by kernel_rfl)
theorem Ln {t : Tb} {r : Rw} (hr : ji t r) (nm : List (List UInt8)) (hn : nm.length <= 1048576) : ∀ (k i : Nat), i + k = nm.length ->
  a8 Tryz.prog 0 (lp Tryz.prog sV 0) (Aa t r nm ((nm.take i).map (dS t r)) i) (.exit 0) (yC 34 6 7 r.id (nm.map (dS t r)))
 | 0, i, hi => by
  have hi : i = nm.length := hi
  subst hi
  rw [List.take_length]
  refine bl (E := eT) follows named (Lm t r nm (nm.map (dS t r)) (nm.length : Nat)) ?_
  simp only [az, T.WP, All, aB, aC, aA]
  exact ⟨fun h => af, fun _ => ⟨rfl, rfl⟩⟩
 | k + 1, i, hi => by
  have bH : i < nm.length := af
  have aL := dM.at nm [] i 1 bH rfl
  have ih := Ln hr nm hn k (i + 1) af
  have w1 : IntKind.i64.wrap ((i : Int) + 1) = ((i + 1 : Nat) : Int) := bE af
  have hc := GI t r (nm.getD i []) hr.k (hr.at _)
  have fL := hr.BE (nm.getD i [])
  have hle : (nm.take i).length = i := by rw [List.length_take]; omega
  rw [j5 [] bH, List.map_append, List.map_singleton] at ih
  refine bl (E := eT) follows named (Lm t r nm ((nm.take i).map (dS t r)) (i : Nat)) ?_
  simp only [az, T.WP, All, aB, aC, aA, w1, dM.ae, bV.ae, bV.length, bq.length, bq.all, List.length_map, hle, Int.toNat_natCast, cm, Nat.zero_add]
  refine ⟨fun _ => ⟨⟨aK, aL⟩, ?_⟩, fun h => af⟩
  rintro y e
  have e : y = dS t r (nm.getD i []) := e
  rw [<- e] at hc fL ih
  refine ⟨hc, aK, aK, ?_⟩
  simp only [Aa, dU, a7, m6, ab, List.length_append, List.length_singleton, List.length_map, hle] at ih ⊢
  exact ih
theorem Yj {t : Tb} {r : Rw} (hr : ji t r) (nm : List (List UInt8)) (hn : nm.length <= 1048576) : ao Tryz.prog sV [.agg (aq t), .agg (av r), ab aW nm] [] ⟨.agg (av (vZ t r nm)), [], []⟩ := by
 have h := Ln hr nm hn nm.length 0 af
 refine bh (E := AZ) follows named (Yh t r nm) (by simp) ?_
 simp only [T.WP, All, aA, dM.ae, bV.ae, cm]
 rintro _ -
 exact ⟨⟨bn, .bg h⟩, aQ⟩
abbrev B0 : Nat := 116
abbrev na : Nat := 52
abbrev Ck : Nat := 276
abbrev oK : Nat := 254
abbrev jM : Nat := 253
section
variable {E : Env} {m : Nat} {nf : Ex -> Kp} {c : Code}
theorem uZ {α : Type} {st : Nat -> St} {sr : Int -> St} {sx : St} (f : α -> Int) (L : List α) (d : α) {t : Nat -> T (Ex × St)} {ex ex' : Ex}
  (hm : E.P.follows .mixedOrders = true) (hn : dA E.P) (hx : ex ≠ .normal) (ju : ex' ≠ .normal) (e : ∀ i, bx E m nf c (st i) = t i)
  (h : ∀ i, i < L.length -> (t i).WP (· = bif f (L.getD i d) != 0 then (ex', sr (f (L.getD i d))) else (.normal, st (i + 1))))
  (he : (t L.length).WP (· = (ex, sx))) : ∀ (k i : Nat), i + k = L.length ->
   (firstC f (L.drop i) = 0 -> a8 E.P m c (st i) ex sx) /\ (¬ firstC f (L.drop i) = 0 -> a8 E.P m c (st i) ex' (sr (firstC f (L.drop i))))
 | 0, i, hi => by
  obtain rfl : i = L.length := by omega
  rw [List.drop_length]
  exact ⟨fun _ => .done (iN hm hn (e _) he) hx, fun h => absurd rfl h⟩
 | k + 1, i, hi => by
  have h1 := h i (by omega)
  have ih := uZ f L d hm hn hx ju e h he k (i + 1) (by omega)
  rw [gh d (show i < L.length by omega), firstC]
  cases hg : f (L.getD i d) != 0 with
  | true =>
   rw [hg] at h1
   have hb := iN hm hn (e i) h1
   simp only [cond_true]
   exact ⟨fun h => (by rw [h] at hg; cases hg), fun _ => .done hb ju⟩
  | false =>
   rw [hg] at h1
   have hb := iN hm hn (e i) h1
   simp only [cond_false]
   exact ⟨fun h => .step hb (ih.1 h), fun h => .step hb (ih.2 h)⟩
end
theorem OF (t : Tb) (c : a6) : fnT eT 0 B0 [.agg (aq t), .agg (aH c)] [] = (
 let q := bt.mk [] (0 : Int) (0 : Int) (0 : Int) (0 : Int) (0 : Int) [] false;
 let q8 := ah ba t.aw;
 let q1 := ae ba q8;
 let q2 := List.getD (ae ak (ah ak c.val)) 0 (At.mk (0 : Int) (0 : Int) []);
 let q3 := aj.mk (aa 9) [] [];
 let q4 := (↑c.val.length : Int);
 let q5 : List V := [aa c.func, aa 3, aa 6];
 let q6 := aj.mk (aa 0) [] [];
 let q7 := bz c.func (3 : Int) (6 : Int);
 let q9 : List Prop := [(0 : Int) <= 0 /\ (0 : Int) < q4, List.take 3 (List.drop 0 (ah ak c.val)) = ak q2];
 let br := (↑t.aw.length : Int); .bind (bf (bw t.name q8 (ah aN t.uniq) t.root) c.aG) fun y0 =>
 let bL := List.getD q1 y0.toNat q;
 let bD : List Prop := [0 <= y0 /\ y0 < br, List.take 8 (List.drop (y0.toNat * 8) q8) = ba bL]; .ag [ao (Env.P eT) 178 [.agg (aq t), .str c.aG] [] (aj.mk (aa y0) [] [])] (bif decide (y0 >= 0) then .ag bD (bif decide (q4
  > 0) then .ag q9 (bif q2.kind != bL.kind then .done q3 else .bind q7 fun y1 => .ag [ao (Env.P eT) 51 q5 [] (aj.mk (.bool y1) [] [])] (bif y1 then bif bL.kind != 1 then .done q3 else .ag bD (bif bL.max != 1 then .done q3
  else bif q4 != 1 then .done q3 else .done q6) else .done q6)) else .bind q7 fun y2 => .ag [ao (Env.P eT) 51 q5 [] (aj.mk (.bool y2) [] [])] (bif y2 then bif bL.kind != 1 then .done q3 else .ag bD (bif bL.max != 1 then .done
  q3 else bif q4 != 1 then .done q3 else .done q6) else .done q6)) else bif !c.aG == [(95 : UInt8), 117, 117, 105, 100] then .done (aj.mk (aa 11) [] []) else bif decide (q4 > 0) then .ag q9 (bif q2.kind != 4 then .done q3 else .bind
  q7 fun y3 => .ag [ao (Env.P eT) 51 q5 [] (aj.mk (.bool y3) [] [])] (bif y3 then .done q3 else .done q6)) else .bind q7 fun y4 => .ag [ao (Env.P eT) 51 q5 [] (aj.mk (.bool y4) [] [])] (bif y4 then .done q3 else .done q6)) : T _) := (T.force_eq _).symm.trans (by kernel_rfl)
theorem OG (t : Tb) (c : a6) (ht : t.aw.length <= 1048576) : ao Tryz.prog B0 [.agg (aq t), .agg (aH c)] [] ⟨.int .i64 (eM t c), [], []⟩ := by
 have gl := ou t c.aG ht
 have aL : (c.val.length : Int) > 0 -> List.take 3 (List.drop 0 (ah ak c.val)) = ak (c.val.getD 0 ⟨0, 0, []⟩) := fun h => by
  have := bq.at c.val ⟨0, 0, []⟩ 0 3 af rfl
  rwa [Nat.zero_mul] at this
 have bp : ((c.val.length : Int) != 1) = (c.val.length != 1) := by
  have := zr c.val.length 1
  unfold bne
  rw [<- this]; rfl
 refine bh (E := eT) follows named (OF t c) (by simp) ?_
 simp only [az, T.WP, All, aB, aC, aA, cm, bq.ae, cR.ae]
 rintro y rfl
 refine ⟨gl, fun h0 => ?_, fun h0 => ?_⟩
 ·clear gl
  have hk := mi h0
  have dv := cR.at' t.aw ⟨[], 0, 0, 0, 0, 0, [], false⟩ (bf t c.aG) 8 ⟨h0, af⟩ rfl
  have e1 : eM t c = bif decide (0 < c.val.length) && (c.val.getD 0 ⟨0, 0, []⟩).kind != (t.aw.getD (bf t c.aG).toNat ⟨[], 0, 0, 0, 0, 0, [], false⟩).kind then 9
   else bif bz c.func 3 6 && ((t.aw.getD (bf t c.aG).toNat ⟨[], 0, 0, 0, 0, 0, [], false⟩).kind != 1 || (t.aw.getD (bf t c.aG).toNat ⟨[], 0, 0, 0, 0, 0, [], false⟩).max != 1 || c.val.length != 1) then 9 else 0 := by
   unfold eM
   dsimp only
   rw [decide_eq_false (by omega : ¬ bf t c.aG < 0), decide_eq_true (by omega : 0 <= bf t c.aG)]
   rfl
  rw [e1]
  generalize t.aw.getD (bf t c.aG).toNat ⟨[], 0, 0, 0, 0, 0, [], false⟩ = q at *
  refine ⟨⟨aK, dv⟩, fun hl => ⟨⟨aK, aL hl⟩, fun hk => ?_, fun hk => ?_⟩, fun hl => ?_⟩
  ·rw [decide_eq_true (by omega : 0 < c.val.length), hk]; exact aQ
  all_goals
   have hB : (decide (0 < c.val.length) && (c.val.getD 0 ⟨0, 0, []⟩).kind != q.kind) = false := by
    first
    | (rw [decide_eq_false (by omega : ¬ 0 < c.val.length)]; rfl)
    | (rw [hk]; simp)
   rw [hB, cond_false]
   rintro y rfl
   refine ⟨nJ _ _ _, fun hy => ⟨fun h1 => ?_, fun h1 => ⟨⟨aK, dv⟩, fun h2 => ?_, fun h2 => ⟨fun h3 => ?_, fun h3 => ?_⟩⟩⟩, fun hy => ?_⟩
   ·rw [hy, h1]; exact aQ
   ·rw [hy, h1, h2]; exact aQ
   ·rw [bp] at h3; rw [hy, h1, h2, h3]; exact aQ
   ·rw [bp] at h3; rw [hy, h1, h2, h3]; exact aQ
   ·rw [hy]; exact aQ
 ·clear gl
  have e1 : eM t c = bif c.aG != iq then 11 else bif decide (0 < c.val.length) && (c.val.getD 0 ⟨0, 0, []⟩).kind != 4 then 9
   else bif bz c.func 3 6 then 9 else 0 := by
   unfold eM
   dsimp only
   rw [decide_eq_true (by omega : bf t c.aG < 0), decide_eq_false (by omega : ¬ 0 <= bf t c.aG)]
   simp
   rfl
  rw [e1]
  refine ⟨fun hu => ?_, fun hu => ⟨fun hl => ⟨⟨aK, aL hl⟩, fun hk => ?_, fun hk => ?_⟩, fun hl => ?_⟩⟩
  ·rw [show (c.aG != iq) = true from hu]; exact aQ
  ·rw [show (c.aG != iq) = false from hu, decide_eq_true (by omega : 0 < c.val.length), hk]; exact aQ
  all_goals
   have hB : (decide (0 < c.val.length) && (c.val.getD 0 ⟨0, 0, []⟩).kind != 4) = false := by
    first
    | (rw [decide_eq_false (by omega : ¬ 0 < c.val.length)]; rfl)
    | (rw [hk]; simp)
   rw [show (c.aG != iq) = false from hu, hB]
   simp only [cond_false]
   rintro y rfl
   refine ⟨nJ _ _ _, fun hy => ?_, fun hy => ?_⟩
   ·rw [hy]; exact aQ
   ·rw [hy]; exact aQ
noncomputable def zL : cP := fun f vs hp =>
 bif Nat.beq f B0 then (match vs with | [.agg [.str tn, .dsl _ _ cc, .dsl _ _ uu, .bool r], .agg [.str co, .int _ fn, .dsl _ _ va]] => some ⟨eM (bw tn cc uu r) ⟨co, fn, ae ak va⟩, fun y => ⟨.int .i64 y, [], []⟩⟩ | _ => none) else
 bif Nat.beq f Ck then (match vs with | [.agg [.str tn, .dsl _ _ cc, .dsl _ _ uu, .bool r], .agg [.str co, .int _ fn, .dsl _ _ va]] => some ⟨gu (bw tn cc uu r) ⟨co, fn, ae ak va⟩, fun y => ⟨.int .i64 y, [], []⟩⟩ | _ => none) else
 bif Nat.beq f na then (match vs with | [.agg [.str tn, .dsl _ _ cc, .dsl _ _ uu, .bool r], .dsl _ _ qs] => some ⟨firstC (eM (bw tn cc uu r)) (ae aH qs), fun y => ⟨.int .i64 y, [], []⟩⟩ | _ => none) else
 bif Nat.beq f oK then (match vs with | [.agg [.str tn, .dsl _ _ cc, .dsl _ _ uu, .bool r], .dsl _ _ qs] => some ⟨firstC (gu (bw tn cc uu r)) (ae aH qs), fun y => ⟨.int .i64 y, [], []⟩⟩ | _ => none) else
 bif Nat.beq f jM then (match vs with | [.agg [.str tn, .dsl _ _ cc, .dsl _ _ uu, .bool r], .dsl _ _ qs] => some ⟨firstC (j3 (bw tn cc uu r) (ae aT qs)) (List.range (ae aT qs).length), fun y => ⟨.int .i64 y, [], []⟩⟩ | _ => none) else tQ f vs hp
noncomputable def lg : Env := { P := Tryz.prog, vw := ma, res := zL }
def nR (t : Tb) (l : List a6) (i : Int) : St := ⟨ai 22 [(1, ab aH l), (2, .ptr 0 0), (5, .int .i64 i)], [some (aq t, fO)], []⟩
def tI : Ex -> Kp := fun ex => match ex with
 | .normal => { keep := [1, 2, 5] }
 | .ret => { keep := [4] }
 | _ => { keep := [] }
theorem PF (t : Tb) (l : List a6) (i : Int) : bx lg 0 tI (lp Tryz.prog na 0) (nR t l i) = (
 let q := List.getD (ae aH (ah aH l)) i.toNat (a6.mk [] (0 : Int) []); bif decide (i < (↑l.length : Int)) then .ag [0 <= i /\ i < (↑l.length : Int), List.take 3 (List.drop (i.toNat * 3) (ah aH l)) = (aH q)] (.bind
  (eM (bw t.name (ah ba t.aw) (ah aN t.uniq) t.root) (a6.mk q.aG q.func (ae ak (ah ak q.val)))) fun y0 => .ag [ao (Env.P lg) 116 [.agg (aq t), .agg (aH q)] [] (aj.mk (aa y0) [] [])] (bif y0 !=
  0 then .done (Ex.ret, St.mk (ai 22 [(4, aa y0)]) [] []) else .done (Ex.normal, St.mk (ai 22 [(1, ab aH l), (2, .ptr 0 0), (5, aa (IntKind.i64.wrap (i + 1)))]) [some ((aq t), 44)] []))) else .done (Ex.exit 0, St.mk (ai
  22 []) [] []) : T _) := by kernel_rfl
theorem VX (t : Tb) (l : List a6) (i : Int) : bx lg 0 tI (lp Tryz.prog oK 0) (nR t l i) = (
 let q := List.getD (ae b8 (ah aH l)) i.toNat (a6.mk [] (0 : Int) []); bif decide (i < (↑l.length : Int)) then .ag [0 <= i /\ i < (↑l.length : Int), List.take 3 (List.drop (i.toNat * 3) (ah aH l)) = (aH q)] (.bind
  (gu (bw t.name (ah ba t.aw) (ah aN t.uniq) t.root) (a6.mk q.aG q.func (ae ak (ah ak q.val)))) fun y0 => .ag [ao (Env.P lg) 276 [.agg (aq t), .agg (aH q)] [] (aj.mk (aa y0) [] [])] (bif y0 != 0
  then .done (Ex.ret, St.mk (ai 22 [(4, aa y0)]) [] []) else .done (Ex.normal, St.mk (ai 22 [(1, ab aH l), (2, .ptr 0 0), (5, aa (IntKind.i64.wrap (i + 1)))]) [some ((aq t), 44)] []))) else .done (Ex.exit 0, St.mk (ai 22
  []) [] []) : T _) := by kernel_rfl
theorem VO (t : Tb) (c : Mt) : fnT lg 0 Ck [.agg (aq t), .agg (b8 c)] [] = (
 let q := bt.mk [] (0 : Int) (0 : Int) (0 : Int) (0 : Int) (0 : Int) [] false;
 let q1 := ah ba t.aw;
 let q2 := aj.mk (aa 9) [] [];
 let q3 := (↑c.val.length : Int);
 let q4 := List.getD (ae ak (ah ak c.val)) 0 (At.mk (0 : Int) (0 : Int) []);
 let q5 := aj.mk (aa 0) [] [];
 let q6 := ae ba q1; .bind (bf (bw t.name q1 (ah aN t.uniq) t.root) c.aG) fun y0 =>
 let q7 := List.getD q6 y0.toNat q; .ag [ao (Env.P lg) 178 [.agg (aq t), .str c.aG] [] (aj.mk (aa y0) [] [])] (bif decide (y0 < 0) then .done (aj.mk (aa 11) [] []) else .ag [0 <= y0 /\ y0 < (↑t.aw.length : Int), List.take 8
  (List.drop (y0.toNat * 8) q1) = ba q7] (bif decide (q3 > 0) then .ag [(0 : Int) <= 0 /\ (0 : Int) < q3, List.take 3 (List.drop 0 (ah ak c.val)) = ak q4] (bif q4.kind != q7.kind then .done q2 else bif decide (c.func <= 5)
  then bif q7.kind != 1 then .done q2 else bif q3 != 1 then .done q2 else .done q5 else .done q5) else bif decide (c.func <= 5) then bif q7.kind != 1 then .done q2 else bif q3 != 1 then .done q2 else .done q5 else .done q5)) : T _) := (T.force_eq _).symm.trans (by kernel_rfl)
theorem VP (t : Tb) (c : Mt) (ht : t.aw.length <= 1048576) : ao Tryz.prog Ck [.agg (aq t), .agg (b8 c)] [] ⟨.int .i64 (gu t c), [], []⟩ := by
 have gl := ou t c.aG ht
 have aL : (c.val.length : Int) > 0 -> List.take 3 (List.drop 0 (ah ak c.val)) = ak (c.val.getD 0 ⟨0, 0, []⟩) := fun h => by
  have := bq.at c.val ⟨0, 0, []⟩ 0 3 (by omega) rfl
  rwa [Nat.zero_mul] at this
 have bp : ((c.val.length : Int) != 1) = (c.val.length != 1) := by
  have := zr c.val.length 1
  unfold bne
  rw [<- this]; rfl
 refine bh (E := lg) follows named (VO t c) (by simp) ?_
 simp only [az, T.WP, All, aB, aC, aA, cm, bq.ae, cR.ae]
 rintro y rfl
 refine ⟨gl, fun h0 => ?_, fun h0 => ?_⟩
 ·have e1 : gu t c = 11 := by
   unfold gu
   dsimp only
   rw [decide_eq_true (by omega : bf t c.aG < 0)]; rfl
  rw [e1]; exact ⟨rfl, rfl, by simp⟩
 ·clear gl
  have hk := mi (show 0 <= bf t c.aG by omega)
  have dv := cR.at' t.aw ⟨[], 0, 0, 0, 0, 0, [], false⟩ (bf t c.aG) 8 ⟨by omega, by omega⟩ rfl
  have e1 : gu t c = bif decide (0 < c.val.length) && (c.val.getD 0 ⟨0, 0, []⟩).kind != (t.aw.getD (bf t c.aG).toNat ⟨[], 0, 0, 0, 0, 0, [], false⟩).kind then 9
   else bif decide (c.func <= 5) && ((t.aw.getD (bf t c.aG).toNat ⟨[], 0, 0, 0, 0, 0, [], false⟩).kind != 1 || c.val.length != 1) then 9 else 0 := by
   unfold gu
   dsimp only
   rw [decide_eq_false (by omega : ¬ bf t c.aG < 0)]
   rfl
  rw [e1]
  generalize t.aw.getD (bf t c.aG).toNat ⟨[], 0, 0, 0, 0, 0, [], false⟩ = q at *
  refine ⟨⟨aK, dv⟩, fun hl => ⟨⟨aK, aL hl⟩, fun hk => ?_, fun hk => ?_⟩, fun hl => ?_⟩
  ·rw [decide_eq_true (by omega : 0 < c.val.length), hk]; exact ⟨rfl, rfl, by simp⟩
  all_goals
   have hB : (decide (0 < c.val.length) && (c.val.getD 0 ⟨0, 0, []⟩).kind != q.kind) = false := by
    first
    | (rw [decide_eq_false (by omega : ¬ 0 < c.val.length)]; rfl)
    | (rw [hk]; simp)
   rw [hB, cond_false]
   refine ⟨fun hy => ⟨fun h1 => ?_, fun h1 => ⟨fun h3 => ?_, fun h3 => ?_⟩⟩, fun hy => ?_⟩
   ·rw [decide_eq_true hy, h1]; exact ⟨rfl, rfl, by simp⟩
   ·rw [bp] at h3; rw [decide_eq_true hy, h1, h3]; exact ⟨rfl, rfl, by simp⟩
   ·rw [bp] at h3; rw [decide_eq_true hy, h1, h3]; exact ⟨rfl, rfl, by simp⟩
   ·rw [decide_eq_false hy]; exact ⟨rfl, rfl, by simp⟩
theorem PH (t : Tb) (l : List a6) (ht : t.aw.length <= 1048576) (hl : l.length <= 1048576) :
  (firstC (eM t) l = 0 -> a8 Tryz.prog 0 (lp Tryz.prog na 0) (nR t l 0) (.exit 0) ⟨ai 22 [], [], []⟩) /\
  (¬ firstC (eM t) l = 0 -> a8 Tryz.prog 0 (lp Tryz.prog na 0) (nR t l 0) .ret ⟨ai 22 [(4, .int .i64 (firstC (eM t) l))], [], []⟩) := by
 refine uZ (E := lg) (nf := tI) (st := fun i => nR t l (i : Nat)) (sr := fun j => ⟨ai 22 [(4, .int .i64 j)], [], []⟩) (eM t) l ⟨[], 0, []⟩ follows named (by simp) (by simp) (fun i => PF t l (i : Nat)) (fun i hi => ?_) ?_ l.length 0 (by simp)
 ·have aL := cg.at l ⟨[], 0, []⟩ i 3 hi rfl
  have hc := OG t (l.getD i ⟨[], 0, []⟩) ht
  simp only [az, T.WP, All, aB, aC, aA, Int.toNat_natCast, cg.ae, bq.ae, cm, bE (show i < 9223372036854775807 by omega)]
  refine ⟨fun _ => ⟨⟨aK, aL⟩, ?_⟩, fun h => by omega⟩
  rintro y e
  have e : y = eM t (l.getD i ⟨[], 0, []⟩) := e
  rw [<- e] at hc ⊢
  refine ⟨hc, fun h => ?_, fun h => ?_⟩
  ·rw [h]; rfl
  ·rw [h]; rfl
 ·simp only [az, T.WP, All, aB, aC, aA]
  exact ⟨fun h => by omega, fun _ => trivial⟩
theorem VZ (t : Tb) (l : List Mt) (ht : t.aw.length <= 1048576) (hl : l.length <= 1048576) :
  (firstC (gu t) l = 0 -> a8 Tryz.prog 0 (lp Tryz.prog oK 0) (nR t l 0) (.exit 0) ⟨ai 22 [], [], []⟩) /\
  (¬ firstC (gu t) l = 0 -> a8 Tryz.prog 0 (lp Tryz.prog oK 0) (nR t l 0) .ret ⟨ai 22 [(4, .int .i64 (firstC (gu t) l))], [], []⟩) := by
 refine uZ (E := lg) (nf := tI) (st := fun i => nR t l (i : Nat)) (sr := fun j => ⟨ai 22 [(4, .int .i64 j)], [], []⟩) (gu t) l ⟨[], 0, []⟩ follows named (by simp) (by simp) (fun i => VX t l (i : Nat)) (fun i hi => ?_) ?_ l.length 0 (by simp)
 ·have aL := cg.at l ⟨[], 0, []⟩ i 3 hi rfl
  have hc := VP t (l.getD i ⟨[], 0, []⟩) ht
  simp only [az, T.WP, All, aB, aC, aA, Int.toNat_natCast, cg.ae, bq.ae, cm, bE (show i < 9223372036854775807 by omega)]
  refine ⟨fun _ => ⟨⟨aK, aL⟩, ?_⟩, fun h => by omega⟩
  rintro y e
  have e : y = gu t (l.getD i ⟨[], 0, []⟩) := e
  rw [<- e] at hc ⊢
  refine ⟨hc, fun h => ?_, fun h => ?_⟩
  ·rw [h]; rfl
  ·rw [h]; rfl
 ·simp only [az, T.WP, All, aB, aC, aA]
  exact ⟨fun h => by omega, fun _ => trivial⟩
noncomputable def UC (f : Tb -> a6 -> Int) : Nat -> St -> Option bT := fun id s => match id, s.tm.get 1, s.hp with
 | 0, .dsl _ _ qs, some ([.str tn, .dsl _ _ cc, .dsl _ _ uu, .bool q], _) :: _ => some ⟨firstC (f (bw tn cc uu q)) (ae aH qs), fun y => .two { keep := [1, 2, 5] } (nR (bw tn cc uu q) (ae aH qs) 0) (decide (y = 0)) (.exit 0) ⟨ai 22 [], [], []⟩ .ret ⟨ai 22 [(4, .int .i64 y)], [], []⟩⟩
 | _, _, _ => none
noncomputable def xp (f : Tb -> a6 -> Int) : Env := { P := Tryz.prog, vw := ma, res := zL, ls := UC f }
theorem PG (t : Tb) (l : List a6) : fnT (xp eM) 0 na [.agg (aq t), ab aH l] [] = (
 let q := bw t.name (ah ba t.aw) (ah aN t.uniq) t.root;
 let q3 := ae aH (ah aH l);
 let q1 := ai 22 [(1, ab aH q3), (2, .ptr 0 0), (5, aa 0)];
 let q2 : Hp := [some ((aq q), 44)]; .bind (firstC (eM q) q3) fun y0 => .ag [St.mk (ai 22 [(1, ab aH l), (2, .ptr 0 0), (5, aa 0)]) [some ((aq t), 44)] [] = St.mk q1 q2 []] (bif decide (y0 = (0 : Int)) then .ag
  [aV Tryz.prog 0 (blk Tryz.prog na 0) (St.mk q1 q2 []) (Ex.exit 0) (St.mk (ai 22 []) [] [])] (.done (aj.mk (aa 0) [] [])) else .ag [aV Tryz.prog 0 (blk Tryz.prog na 0) (St.mk q1 q2 []) Ex.ret (St.mk (ai 22 [(4, aa
  y0)]) [] [])] (.done (aj.mk (aa y0) [] []))) : T _) := (T.force_eq _).symm.trans (by kernel_rfl)
theorem VY (t : Tb) (l : List a6) : fnT (xp gu) 0 oK [.agg (aq t), ab aH l] [] = (
 let q := bw t.name (ah ba t.aw) (ah aN t.uniq) t.root;
 let q3 := ae aH (ah aH l);
 let q1 := ai 22 [(1, ab aH q3), (2, .ptr 0 0), (5, aa 0)];
 let q2 : Hp := [some ((aq q), 44)]; .bind (firstC (gu q) q3) fun y0 => .ag [St.mk (ai 22 [(1, ab aH l), (2, .ptr 0 0), (5, aa 0)]) [some ((aq t), 44)] [] = St.mk q1 q2 []] (bif decide (y0 = (0 : Int)) then .ag [aV
  Tryz.prog 0 (blk Tryz.prog oK 0) (St.mk q1 q2 []) (Ex.exit 0) (St.mk (ai 22 []) [] [])] (.done (aj.mk (aa 0) [] [])) else .ag [aV Tryz.prog 0 (blk Tryz.prog oK 0) (St.mk q1 q2 []) Ex.ret (St.mk (ai 22 [(4, aa y0)])
  [] [])] (.done (aj.mk (aa y0) [] []))) : T _) := (T.force_eq _).symm.trans (by kernel_rfl)
theorem GG (t : Tb) (l : List a6) (ht : t.aw.length <= 1048576) (hl : l.length <= 1048576) : ao Tryz.prog na [.agg (aq t), ab aH l] [] ⟨.int .i64 (firstC (eM t) l), [], []⟩ := by
 have h := PH t l ht hl
 refine bh (E := xp eM) follows named (PG t l) (by simp) ?_
 simp only [az, T.WP, All, aB, aC, aA, cg.ae, cm]
 rintro y rfl
 refine ⟨bn, fun e => ⟨.bg (h.1 e), ?_⟩, fun e => ⟨.bg (h.2 e), ?_⟩⟩
 ·rw [e]; exact aQ
 ·exact aQ
theorem VQ (t : Tb) (l : List Mt) (ht : t.aw.length <= 1048576) (hl : l.length <= 1048576) : ao Tryz.prog oK [.agg (aq t), ab b8 l] [] ⟨.int .i64 (firstC (gu t) l), [], []⟩ := by
 have h := VZ t l ht hl
 refine bh (E := xp gu) follows named (VY t l) (by simp) ?_
 simp only [az, T.WP, All, aB, aC, aA, cg.ae, cm]
 rintro y rfl
 refine ⟨bn, fun e => ⟨.bg (h.1 e), ?_⟩, fun e => ⟨.bg (h.2 e), ?_⟩⟩
 ·rw [e]; exact aQ
 ·exact aQ
def wW (t : Tb) (l : List Sx) (i : Int) : St := ⟨ai 78 [(1, ab aT l), (2, .ptr 0 0), (5, .int .i64 i)], [some (aq t, fO)], []⟩
def wX (t : Tb) (l : List Sx) (i k j : Int) : St := ⟨ai 78 [(1, ab aT l), (2, .ptr 0 0), (5, .int .i64 i), (6, .int .i64 k), (7, .int .i64 j)], [some (aq t, fO)], []⟩
def Ff (t : Tb) (l : List Sx) (i k : Int) : St := ⟨ai 78 [(1, ab aT l), (2, .ptr 0 0), (5, .int .i64 i), (6, .int .i64 k)], [some (aq t, fO)], []⟩
def Kq : Ex -> Kp := fun ex => match ex with
 | .normal => { keep := [1, 2, 5, 6, 7] }
 | .ret => { keep := [4] }
 | _ => { keep := [1, 2, 5, 6] }
theorem ZW (t : Tb) (l : List Sx) (i k j : Int) : bx lg 0 Kq (lp Tryz.prog jM 2) (wX t l i k j) = (
 let q2 := ah aT l;
 let q := List.getD (ae aT q2) j.toNat (Sx.mk [] [] []);
 let q1 := List.getD (ae aT q2) i.toNat (Sx.mk [] [] []); bif decide (j < i) then .ag [0 <= j /\ j < (↑l.length : Int), List.take 3 (List.drop (j.toNat * 3) q2) = [.str q.aG, ab ak q.val, ab aW q.names]] (.ag [0 <= i /\ i <
  (↑l.length : Int), List.take 3 (List.drop (i.toNat * 3) q2) = [.str q1.aG, ab ak q1.val, ab aW q1.names]] (bif q.aG == q1.aG then .done (Ex.ret, St.mk (ai 78 [(4, aa 8)]) [] []) else .done (Ex.normal, St.mk (ai 78 [(1,
  ab aT l), (2, .ptr 0 0), (5, aa i), (6, aa k), (7, aa (IntKind.i64.wrap (j + 1)))]) [some ((aq t), 44)] []))) else .done (Ex.exit 2, St.mk (ai 78 [(1, ab aT l), (2, .ptr 0 0), (5, aa i), (6, aa k)]) [some ((aq t),
  44)] []) : T _) := by kernel_rfl
noncomputable def Vh : Nat -> St -> Option bT := fun id s => match id, s.tm.get 1, s.tm.get 5, s.tm.get 6, s.hp with
 | 2, .dsl _ _ qs, .int _ i, .int _ k, some ([.str tn, .dsl _ _ cc, .dsl _ _ uu, .bool q], _) :: _ => some ⟨((ae aT qs).take i.toNat).any (fun z => z.aG == ((ae aT qs).getD i.toNat .zero).aG), fun y => .two { keep := [1, 2, 5, 6, 7] } (wX (bw tn cc uu q) (ae aT qs) i k 0) y .ret ⟨ai 78 [(4, .int .i64 8)], [], []⟩ (.exit 2) (Ff (bw tn cc uu q) (ae aT qs) i k)⟩
 | 0, .dsl _ _ qs, _, _, some ([.str tn, .dsl _ _ cc, .dsl _ _ uu, .bool q], _) :: _ => some ⟨firstC (j3 (bw tn cc uu q) (ae aT qs)) (List.range (ae aT qs).length), fun y => .two { keep := [1, 2, 5] } (wW (bw tn cc uu q) (ae aT qs) 0) (decide (y = 0)) (.exit 0) ⟨ai 78 [], [], []⟩ .ret ⟨ai 78 [(4, .int .i64 y)], [], []⟩⟩
 | _, _, _, _, _ => none
noncomputable def m0 : Env := { P := Tryz.prog, vw := ma, res := zL, ls := Vh }
theorem ZV (t : Tb) (l : List Sx) (i : Int) : bx m0 0 tI (lp Tryz.prog jM 0) (wW t l i) = (
 let q3 := ae aT (ah aT l);
 let q := List.getD (ae aT (ah aT q3)) i.toNat (Sx.mk [] [] []);
 let q1 := bw t.name (ah ba t.aw) (ah aN t.uniq) t.root;
 let q2 : List Prop := [0 <= i /\ i < (↑q3.length : Int), List.take 3 (List.drop (i.toNat * 3) (ah aT q3)) = [.str q.aG, ab ak q.val, ab aW q.names]];
 let q4 := ai 78 [(1, ab aT q3), (2, .ptr 0 0), (5, aa (IntKind.i64.wrap (i + 1)))];
 let q5 := bt.mk [] (0 : Int) (0 : Int) (0 : Int) (0 : Int) (0 : Int) [] false;
 let q6 := List.getD q3 i.toNat (Sx.mk [] [] []);
 let q7 : Hp := [some ((aq q1), 44)];
 let q8 := ae ba (ah ba q1.aw);
 let q9 := List.getD (ae ak (ah ak q.val)) 0 (At.mk (0 : Int) (0 : Int) []);
 let br := ai 78 [(4, aa 9)];
 let bD := (↑q.names.length : Int);
 let bL := (↑q.val.length : Int); bif decide (i < (↑l.length : Int)) then .ag [0 <= i /\ i < (↑l.length : Int), List.take 3 (List.drop (i.toNat * 3) (ah aT l)) = [.str q6.aG, ab ak q6.val, ab aW q6.names]] (.bind (bf q1
  q6.aG) fun y0 =>
 let ca := ai 78 [(1, ab aT q3), (2, .ptr 0 0), (5, aa i), (6, aa y0), (7, aa 0)];
 let cU := List.getD q8 y0.toNat q5; .ag [ao (Env.P m0) 178 [.agg (aq t), .str q6.aG] [] (aj.mk (aa y0) [] [])] (bif decide (y0 < 0) then .done (Ex.ret, St.mk (ai 78 [(4, aa 11)]) [] []) else .bind (List.any (List.take
  i.toNat q3) fun z => z.aG == Sx.aG (List.getD q3 i.toNat Sx.zero)) fun y1 => .ag [St.mk (ai 78 [(1, ab aT l), (2, .ptr 0 0), (5, aa i), (6, aa y0), (7, aa 0)]) [some ((aq t), 44)] [] = St.mk ca q7 []] (bif y1 then
  .ag [aV (Env.P m0) 0 (blk Tryz.prog jM 2) (St.mk ca q7 []) Ex.ret (St.mk (ai 78 [(4, aa 8)]) [] [])] (.done (Ex.ret, St.mk (ai 78 [(4, aa 8)]) [] [])) else .ag [aV (Env.P m0) 0 (blk Tryz.prog jM 2) (St.mk ca
  q7 []) (Ex.exit 2) (St.mk (ai 78 [(1, ab aT q3), (2, .ptr 0 0), (5, aa i), (6, aa y0)]) q7 [])] (.ag [0 <= y0 /\ y0 < (↑q1.aw.length : Int), List.take 8 (List.drop (y0.toNat * 8) (ah ba q1.aw)) = ba cU] (.ag q2
  (bif decide (bL > 0) then .ag q2 (.ag [(0 : Int) <= 0 /\ (0 : Int) < bL, List.take 3 (List.drop 0 (ah ak q.val)) = ak q9] (bif q9.kind != cU.kind then .done (Ex.ret, St.mk br [] []) else .ag q2 (bif decide (bD > 0)
  then bif cU.kind != 4 then .done (Ex.ret, St.mk br [] []) else .done (Ex.normal, St.mk q4 q7 []) else .done (Ex.normal, St.mk q4 q7 [])))) else .ag q2 (bif decide (bD > 0) then bif cU.kind != 4 then .done (Ex.ret, St.mk br []
  []) else .done (Ex.normal, St.mk q4 q7 []) else .done (Ex.normal, St.mk q4 q7 [])))))))) else .done (Ex.exit 0, St.mk (ai 78 []) [] []) : T _) := by kernel_rfl
theorem ZX (t : Tb) (l : List Sx) : fnT m0 0 jM [.agg (aq t), ab aT l] [] = (
 let q := bw t.name (ah ba t.aw) (ah aN t.uniq) t.root;
 let q2 := ae aT (ah aT l);
 let q1 := ai 78 [(1, ab aT q2), (2, .ptr 0 0), (5, aa 0)];
 let q3 : Hp := [some ((aq q), 44)]; .bind (firstC (j3 q q2) (List.range q2.length)) fun y0 => .ag [St.mk (ai 78 [(1, ab aT l), (2, .ptr 0 0), (5, aa 0)]) [some ((aq t), 44)] [] = St.mk q1 q3 []] (bif decide (y0 = (0 :
  Int)) then .ag [aV (Env.P m0) 0 (blk Tryz.prog jM 0) (St.mk q1 q3 []) (Ex.exit 0) (St.mk (ai 78 []) [] [])] (.done (aj.mk (aa 0) [] [])) else .ag [aV (Env.P m0) 0 (blk Tryz.prog jM 0) (St.mk q1 q3 []) Ex.ret
  (St.mk (ai 78 [(4, aa y0)]) [] [])] (.done (aj.mk (aa y0) [] []))) : T _) := (T.force_eq _).symm.trans (by kernel_rfl)
abbrev Ch : Nat := 270
abbrev Cc : Nat := 271
abbrev oQ : Nat := 236
abbrev Cn : Nat := 176
abbrev oM : Nat := 222
theorem Vz (b : Int) : fnT E0 0 Ch [.int .u8 b] [] = (
 let q := aj.mk (.bool (b == 95)) [] [];
 let q1 := aj.mk (.bool true) [] []; bif decide (b >= 97) then bif decide (b <= 122) then .done q1 else bif decide (b >= 65) then bif decide (b <= 90) then .done q1 else .done q else .done q else bif decide (b >= 65) then bif decide (b <= 90)
  then .done q1 else .done q else .done q : T _) := by kernel_rfl
theorem PW (b : Int) : fnT E0 0 Cc [.int .u8 b] [] = (
 bif decide (b >= 48) then .done (aj.mk (.bool (decide (b <= 57))) [] []) else .done (aj.mk (.bool false) [] []) : T _) := by kernel_rfl
theorem JP (b : Int) : ao Tryz.prog Ch [.int .u8 b] [] ⟨.bool (rb b), [], []⟩ := by
 refine bh (E := E0) follows named (Vz b) (by simp) ?_
 simp only [az, T.WP, aB, aC]
 unfold rb
 by_cases h1 : (97 : Int) <= b <;> by_cases h2 : b <= (122 : Int) <;> by_cases h3 : (65 : Int) <= b <;> by_cases h4 : b <= (90 : Int) <;> simp only [h1, h2, h3, h4, decide_true, decide_false, Bool.and_true, Bool.and_false, Bool.true_or, Bool.false_or, not_true, not_false_eq_true, true_implies, false_implies, and_true, true_and] <;> exact aQ
theorem PX (b : Int) : ao Tryz.prog Cc [.int .u8 b] [] ⟨.bool (sF b), [], []⟩ := by
 refine bh (E := E0) follows named (PW b) (by simp) ?_
 simp only [az, T.WP, aB, aC]
 unfold sF
 refine ⟨fun h => ?_, fun h => ?_⟩
 ·rw [decide_eq_true (show (48 : Int) <= b from h)]; exact aQ
 ·rw [decide_eq_false (show ¬ (48 : Int) <= b from h)]; exact aQ
noncomputable def rn : cP := fun f vs hp =>
 bif Nat.beq f Ch then (match vs with | [.int _ b] => some ⟨rb b, fun y => ⟨.bool y, [], []⟩⟩ | _ => none) else
 bif Nat.beq f Cc then (match vs with | [.int _ b] => some ⟨sF b, fun y => ⟨.bool y, [], []⟩⟩ | _ => none) else
 bif Nat.beq f oQ then (match vs with | [.str t] => some ⟨ia t, fun y => ⟨.bool y, [], []⟩⟩ | _ => none) else
 bif Nat.beq f Cn then (match vs with | [.str t] => some ⟨ia t, fun y => ⟨.bool y, [], []⟩⟩ | _ => none) else zL f vs hp
noncomputable def pY : Env := { P := Tryz.prog, vw := ma, res := rn }
def w6 (t : List UInt8) (i : Int) : St := ⟨ai 36 [(0, .str t), (3, .int .i64 i)], [], []⟩
def Kz : Ex -> Kp := fun ex => match ex with
 | .normal => { keep := [0, 3] }
 | .ret => { keep := [2] }
 | _ => { keep := [] }
theorem wdL (t : List UInt8) (i : Int) : bx pY 0 Kz (lp Tryz.prog oQ 0) (w6 t i) = (
 let q := (↑(UInt8.toNat (List.getD t i.toNat (0 : UInt8))) : Int);
 let q1 := ai 36 [(0, .str t), (3, aa (IntKind.i64.wrap (i + 1)))];
 let q2 := (↑t.length : Int); bif decide (i < q2) then .ag [0 <= i /\ i < q2] (.bind (rb q) fun y0 => .ag [ao (Env.P pY) 270 [.int .u8 q] [] (aj.mk (.bool y0) [] [])] (bif !y0 then .ag [0 <= i /\ i < q2] (.bind (sF q) fun y1 =>
  .ag [ao (Env.P pY) 271 [.int .u8 q] [] (aj.mk (.bool y1) [] [])] (bif !y1 then .done (Ex.ret, St.mk (ai 36 [(2, .bool false)]) [] []) else .done (Ex.normal, St.mk q1 [] []))) else .done (Ex.normal, St.mk q1 [] []))) else .done
  (Ex.exit 0, St.mk (ai 36 []) [] []) : T _) := by kernel_rfl
def mW (t : List UInt8) (i : Nat) : Bool := ra (t.getD i 0) || Hi (t.getD i 0)
noncomputable def Vt : Nat -> St -> Option bT := fun id s => match id, s.tm.get 0 with
 | 0, .str t => some ⟨allN (mW t) (t.length - 1) 1, fun y => .two { keep := [0, 3] } (w6 t 1) y (.exit 0) ⟨ai 36 [], [], []⟩ .ret ⟨ai 36 [(2, .bool false)], [], []⟩⟩
 | _, _ => none
noncomputable def uB : Env := { P := Tryz.prog, vw := ma, res := rn, ls := Vt }
theorem wdT (t : List UInt8) : fnT uB 0 oQ [.str t] [] = (
 let q := ai 36 [(0, .str t), (3, aa 1)];
 let q1 := aj.mk (.bool false) [] [];
 let q2 := (↑(UInt8.toNat (List.getD t 0 (0 : UInt8))) : Int);
 let q3 := (↑t.length : Int); bif decide (q3 < 1) then .done q1 else bif decide (q3 > 40) then .done q1 else .ag [(0 : Int) <= 0 /\ (0 : Int) < q3] (.bind (rb q2) fun y0 => .ag [ao (Env.P uB) 270 [.int .u8 q2] [] (aj.mk (.bool y0)
  [] [])] (bif !y0 then .done q1 else .bind (allN (mW t) (t.length - 1) 1) fun y1 => .ag [St.mk q [] [] = St.mk q [] []] (bif y1 then .ag [aV (Env.P uB) 0 (blk Tryz.prog oQ 0) (St.mk q [] []) (Ex.exit 0) (St.mk (ai 36 [])
  [] [])] (.done (aj.mk (.bool true) [] [])) else .ag [aV (Env.P uB) 0 (blk Tryz.prog oQ 0) (St.mk q [] []) Ex.ret (St.mk (ai 36 [(2, .bool false)]) [] [])] (.done q1)))) : T _) := by kernel_rfl
theorem Xd (t : List UInt8) : fnT pY 0 Cn [.str t] [] = (
 .bind (ia t) fun y0 => .ag [ao (Env.P pY) 236 [.str t] [] (aj.mk (.bool y0) [] [])] (.done (aj.mk (.bool y0) [] [])) : T _) := (T.force_eq _).symm.trans (by kernel_rfl)
theorem aj0 (t : List UInt8) (ht : t.length <= 1048576) (h1 : 1 <= t.length) :
  (allN (mW t) (t.length - 1) 1 = true -> a8 Tryz.prog 0 (lp Tryz.prog oQ 0) (w6 t 1) (.exit 0) ⟨ai 36 [], [], []⟩) /\
  (allN (mW t) (t.length - 1) 1 = false -> a8 Tryz.prog 0 (lp Tryz.prog oQ 0) (w6 t 1) .ret ⟨ai 36 [(2, .bool false)], [], []⟩) := by
 refine ij (E := pY) (nf := Kz) (st := fun i => w6 t (i : Nat)) (n := t.length) (mW t) follows named (by simp) (by simp) (fun i => wdL t (i : Nat)) (fun i hi => ?_) ?_ (t.length - 1) 1 af
 ·have w1 : IntKind.i64.wrap ((i : Int) + 1) = ((i + 1 : Nat) : Int) := bE af
  have hG : mW t i = (rb (((t.getD i 0).toNat : Nat) : Int) || sF (((t.getD i 0).toNat : Nat) : Int)) := rfl
  rw [hG]
  simp only [az, T.WP, All, aB, aC, aA, w1, Int.toNat_natCast]
  refine ⟨fun _ => ⟨⟨af, af⟩, ?_⟩, fun h => af⟩
  rintro y rfl
  refine ⟨JP _, fun h => ⟨⟨af, af⟩, ?_⟩, fun h => ?_⟩
  ·rw [Bool.not_eq_true'] at h
   rintro y rfl
   refine ⟨PX _, fun h2 => ?_, fun h2 => ?_⟩
   ·rw [Bool.not_eq_true'] at h2; rw [h, h2]; rfl
   ·rw [Bool.not_eq_false'] at h2; rw [h, h2]; rfl
  ·rw [Bool.not_eq_false'] at h; rw [h]; rfl
 ·simp only [az, T.WP, All, aB, aC, aA]
  exact ⟨fun h => af, fun _ => trivial⟩
theorem Xc (t : List UInt8) (h1 : 1 <= t.length) : ia t = (ra (t.getD 0 0) && allN (mW t) (t.length - 1) 1 && bz t.length 1 40) := by
 unfold ia
 obtain ⟨n, hn⟩ : ∃ n, t.length = n + 1 := ⟨t.length - 1, af⟩
 have e : allN (pz t) t.length 0 = (ra (t.getD 0 0) && allN (mW t) (t.length - 1) 1) := by
  rw [hn]
  show (pz t 0 && allN (pz t) n 1) = _
  have e1 : pz t 0 = ra (t.getD 0 0) := by unfold pz; simp
  rw [e1, Nat.add_sub_cancel]
  congr 1
  rw [Bool.eq_iff_iff, mf, mf]
  have e2 : ∀ j, 1 <= j -> pz t j = mW t j := fun j hj => by
   unfold pz mW
   rw [show (j == 0) = false by simp; omega]
   rfl
  exact ⟨fun h j h1 h2 => (e2 j h1) ▸ h j h1 h2, fun h j h1 h2 => (e2 j h1).symm ▸ h j h1 h2⟩
 rw [e]
theorem aj3 (t : List UInt8) (ht : t.length <= 1048576) : ao Tryz.prog oQ [.str t] [] ⟨.bool (ia t), [], []⟩ := by
 refine bh (E := uB) follows named (wdT t) (by simp) ?_
 simp only [az, T.WP, All, aB, aC, aA]
 refine ⟨fun h => ?_, fun h => ⟨fun h2 => ?_, fun h2 => ⟨⟨af, af⟩, ?_⟩⟩⟩
 ·have e : ia t = false := by
   unfold ia bz
   rw [decide_eq_false (by omega : ¬ (1 : Int) <= t.length)]; simp
  rw [e]; exact aQ
 ·have e : ia t = false := by
   unfold ia bz
   rw [decide_eq_false (by omega : ¬ (t.length : Int) <= 40)]; simp
  rw [e]; exact aQ
 ·have h1 : 1 <= t.length := af
  rw [Xc t h1, show bz t.length 1 40 = true by unfold bz; rw [decide_eq_true af, decide_eq_true af]; rfl, Bool.and_true]
  have hl := aj0 t ht h1
  rintro y rfl
  refine ⟨JP _, fun h3 => ?_, fun h3 => ?_⟩
  ·have vd : ra (t.getD 0 0) = false := (Bool.not_eq_true' _).mp h3
   rw [vd]; exact aQ
  ·have vd : ra (t.getD 0 0) = true := (Bool.not_eq_false' _).mp h3
   rw [vd, Bool.true_and]
   rintro y rfl
   refine ⟨bn, fun e => ⟨.bg (hl.1 e), ?_⟩, fun e => ⟨.bg (hl.2 e), ?_⟩⟩
   ·rw [e]; exact aQ
   ·rw [e]; exact aQ
theorem Wd (t : List UInt8) (ht : t.length <= 1048576) : ao Tryz.prog Cn [.str t] [] ⟨.bool (ia t), [], []⟩ := by
 refine bh (E := pY) follows named (Xd t) (by simp) ?_
 simp only [T.WP, All, aA]
 rintro y rfl
 exact ⟨aj3 t ht, aQ⟩
theorem ZU (t : Tb) (l : List Sx) (k : Int) (i : Nat) (hi : i < l.length) (hl : l.length <= 1048576) :
  ((l.take i).any (fun z => z.aG == (l.getD i .zero).aG) = true -> a8 Tryz.prog 0 (lp Tryz.prog jM 2) (wX t l i k 0) .ret ⟨ai 78 [(4, .int .i64 8)], [], []⟩) /\
  ((l.take i).any (fun z => z.aG == (l.getD i .zero).aG) = false -> a8 Tryz.prog 0 (lp Tryz.prog jM 2) (wX t l i k 0) (.exit 2) (Ff t l i k)) := by
 have hle : (l.take i).length = i := by rw [List.length_take]; omega
 have e : (l.take i).any (fun z => z.aG == (l.getD i .zero).aG) = !allN (fun j => !((l.getD j .zero).aG == (l.getD i .zero).aG)) i 0 := by
  rw [<- Bool.not_not ((l.take i).any _)]
  congr 1
  have h1 := om (fun z : Sx => !(z.aG == (l.getD i .zero).aG)) .zero (l.take i)
  rw [hle] at h1
  rw [List.not_any_eq_all_not, <- h1, Bool.eq_iff_iff, mf, mf]
  have ht : ∀ j, j < i -> (l.take i).getD j .zero = l.getD j .zero := fun j hj => by
   rw [List.getD_eq_getElem?_getD, List.getD_eq_getElem?_getD, List.getElem?_take_of_lt hj]
  exact ⟨fun h j h1 h2 => by rw [<- ht j af]; exact h j h1 h2, fun h j h1 h2 => by rw [ht j af]; exact h j h1 h2⟩
 rw [e]
 have hs := ij (E := lg) (m := 0) (nf := Kq) (c := lp Tryz.prog jM 2) (st := fun j => wX t l i k (j : Nat)) (n := i) (fun j => !((l.getD j .zero).aG == (l.getD i .zero).aG)) (ex := .exit 2) (ex' := .ret) (sx := Ff t l i k) (sr := ⟨ai 78 [(4, .int .i64 8)], [], []⟩) follows named (by simp) (by simp) (fun j => ZW t l i k (j : Nat)) (fun j hj => ?_) ?_ i 0 (by simp)
 ·exact ⟨fun h => hs.2 (by rw [Bool.not_eq_true'] at h; exact h), fun h => hs.1 (by rw [Bool.not_eq_false'] at h; exact h)⟩
 ·have aL := dX.at l .zero j 3 af rfl
  have cA := dX.at l .zero i 3 hi rfl
  have w1 : IntKind.i64.wrap ((j : Int) + 1) = ((j + 1 : Nat) : Int) := bE af
  simp only [Sx.zero] at *
  simp only [az, T.WP, All, aB, aC, aA, aD, aE, aF, w1, dX.ae, Int.toNat_natCast]
  refine ⟨fun _ => ⟨⟨aK, aL⟩, ⟨aK, cA⟩, fun h => ?_, fun h => ?_⟩, fun h => af⟩
  ·rw [show ((l.getD j ⟨[], [], []⟩).aG == (l.getD i ⟨[], [], []⟩).aG) = true by simpa using h]; rfl
  ·rw [show ((l.getD j ⟨[], [], []⟩).aG == (l.getD i ⟨[], [], []⟩).aG) = false by simpa using h]; rfl
 ·simp only [az, T.WP, All, aB, aC, aA, aD, aE, aF]
  exact ⟨fun h => af, fun _ => rfl⟩
theorem YV (n i : Nat) (hi : i < n) : (List.range n).getD i 0 = i := by
 rw [List.getD_eq_getElem?_getD, List.getElem?_range hi]; rfl
theorem ZY (t : Tb) (l : List Sx) (ht : t.aw.length <= 1048576) (hl : l.length <= 1048576) :
  (firstC (j3 t l) (List.range l.length) = 0 -> a8 Tryz.prog 0 (lp Tryz.prog jM 0) (wW t l 0) (.exit 0) ⟨ai 78 [], [], []⟩) /\
  (¬ firstC (j3 t l) (List.range l.length) = 0 -> a8 Tryz.prog 0 (lp Tryz.prog jM 0) (wW t l 0) .ret ⟨ai 78 [(4, .int .i64 (firstC (j3 t l) (List.range l.length)))], [], []⟩) := by
 refine uZ (E := m0) (nf := tI) (st := fun i => wW t l (i : Nat)) (sr := fun j => ⟨ai 78 [(4, .int .i64 j)], [], []⟩) (j3 t l) (List.range l.length) 0 follows named (by simp) (by simp) (fun i => ZV t l (i : Nat)) (fun i hi => ?_) ?_ (List.range l.length).length 0 (by simp)
 ·rw [List.length_range] at hi
  rw [YV _ _ hi]
  have aL := dX.at l ⟨[], [], []⟩ i 3 hi rfl
  have gl := ou t (l.getD i ⟨[], [], []⟩).aG ht
  have w1 : IntKind.i64.wrap ((i : Int) + 1) = ((i + 1 : Nat) : Int) := bE (by omega)
  have dK := fun k => ZU t l k i hi hl
  have hS : j3 t l i = bif decide (bf t (l.getD i ⟨[], [], []⟩).aG < 0) then 11
    else bif (l.take i).any (fun q => q.aG == (l.getD i ⟨[], [], []⟩).aG) then 8
    else bif (decide (0 < (l.getD i ⟨[], [], []⟩).val.length) && ((l.getD i ⟨[], [], []⟩).val.getD 0 ⟨0, 0, []⟩).kind != (t.aw.getD (bf t (l.getD i ⟨[], [], []⟩).aG).toNat ⟨[], 0, 0, 0, 0, 0, [], false⟩).kind) || (decide (0 < (l.getD i ⟨[], [], []⟩).names.length) && (t.aw.getD (bf t (l.getD i ⟨[], [], []⟩).aG).toNat ⟨[], 0, 0, 0, 0, 0, [], false⟩).kind != 4) then 9 else 0 := rfl
  rw [hS]
  simp only [Sx.zero] at dK
  simp only [az, T.WP, All, aB, aC, aA, w1, dX.ae, bq.ae, cR.ae, cm, Int.toNat_natCast]
  generalize hq : l.getD i ⟨[], [], []⟩ = q at *
  refine ⟨fun _ => ⟨⟨aK, aL⟩, ?_⟩, fun h => by omega⟩
  rintro y rfl
  refine ⟨gl, fun h0 => ?_, fun h0 => ?_⟩
  ·rw [decide_eq_true h0]; rfl
  ·rw [decide_eq_false h0, cond_false]
   have hk := mi (show 0 <= bf t q.aG by omega)
   have dv := cR.at' t.aw ⟨[], 0, 0, 0, 0, 0, [], false⟩ (bf t q.aG) 8 ⟨by omega, by omega⟩ rfl
   have yF : (q.val.length : Int) > 0 -> List.take 3 (List.drop 0 (ah ak q.val)) = ak (q.val.getD 0 ⟨0, 0, []⟩) := fun h => by
    have := bq.at q.val ⟨0, 0, []⟩ 0 3 (by omega) rfl
    rwa [Nat.zero_mul] at this
   generalize t.aw.getD (bf t q.aG).toNat ⟨[], 0, 0, 0, 0, 0, [], false⟩ = cc at *
   rintro y e
   have e : y = (l.take i).any (fun z => z.aG == q.aG) := by rw [e, <- hq]; rfl
   have CY := dK (bf t q.aG)
   rw [<- e] at CY
   rw [<- e]
   clear dK gl
   refine ⟨bn, fun h => ⟨.bg (CY.1 h), ?_⟩, fun h => ⟨.bg (CY.2 h), ⟨aK, dv⟩, ⟨aK, aL⟩, fun hv => ⟨⟨aK, aL⟩, ⟨aK, yF hv⟩, fun hk => ?_, fun hk => ⟨⟨aK, aL⟩, fun hn => ⟨fun h4 => ?_, fun h4 => ?_⟩, fun hn => ?_⟩⟩, fun hv => ⟨⟨aK, aL⟩, fun hn => ⟨fun h4 => ?_, fun h4 => ?_⟩, fun hn => ?_⟩⟩⟩
   ·rw [h]; rfl
   ·rw [h, cond_false, decide_eq_true (by omega : 0 < q.val.length), hk]; rfl
   ·rw [h, cond_false, decide_eq_true (by omega : 0 < q.val.length), hk, decide_eq_true (by omega : 0 < q.names.length), h4]; rfl
   ·rw [h, cond_false, decide_eq_true (by omega : 0 < q.val.length), hk, decide_eq_true (by omega : 0 < q.names.length), h4]; rfl
   ·rw [h, cond_false, decide_eq_true (by omega : 0 < q.val.length), hk, decide_eq_false (by omega : ¬ 0 < q.names.length)]; rfl
   ·rw [h, cond_false, decide_eq_false (by omega : ¬ 0 < q.val.length), decide_eq_true (by omega : 0 < q.names.length), h4]; rfl
   ·rw [h, cond_false, decide_eq_false (by omega : ¬ 0 < q.val.length), decide_eq_true (by omega : 0 < q.names.length), h4]; rfl
   ·rw [h, cond_false, decide_eq_false (by omega : ¬ 0 < q.val.length), decide_eq_false (by omega : ¬ 0 < q.names.length)]; rfl
 ·rw [List.length_range]
  simp only [az, T.WP, All, aB, aC, aA]
  exact ⟨fun h => by omega, fun _ => trivial⟩
theorem Z1 (t : Tb) (l : List Sx) (ht : t.aw.length <= 1048576) (hl : l.length <= 1048576) : ao Tryz.prog jM [.agg (aq t), ab aT l] [] ⟨.int .i64 (firstC (j3 t l) (List.range l.length)), [], []⟩ := by
 have h := ZY t l ht hl
 refine bh (E := m0) follows named (ZX t l) (by simp) ?_
 simp only [az, T.WP, All, aB, aC, aA, dX.ae, cm]
 rintro y rfl
 refine ⟨bn, fun e => ⟨.bg (h.1 e), ?_⟩, fun e => ⟨.bg (h.2 e), ?_⟩⟩
 ·rw [e]; exact aQ
 ·exact aQ
def wP (o : Op') (t : Tb) (i : Int) : St := ⟨ai 88 [(3, .ptr 0 0), (6, .ptr 1 0), (7, .int .i64 i)], [some (aY o, gM), some (aq t, fO)], []⟩
def Kd : Ex -> Kp := fun ex => match ex with
 | .normal => { keep := [3, 6, 7] }
 | .ret => { keep := [4] }
 | _ => { keep := [3, 6] }
noncomputable def rV : Vw := fun t cs i => bif Nat.beq t 9 then some (aW ((ae aW cs).getD i [])) else ma t cs i
noncomputable def n9 : Env := { P := Tryz.prog, vw := rV, res := rn }
theorem Xr (o : Op') (t : Tb) (i : Int) : bx n9 0 Kd (lp Tryz.prog oM 0) (wP o t i) = (
 let q : Hp := [some ([aa o.kind, .str o.table, .str o.name, ab aH o.bC, ab aT o.row, ab b8 o.db, ab aW o.aw, .bool o.iO], 178), some ((aq t), 44)];
 let q4 := ah aW o.aw;
 let q1 := List.getD (ae aW q4) i.toNat [];
 let q5 := (↑o.aw.length : Int);
 let q2 : List Prop := [0 <= i /\ i < q5, List.take 1 (List.drop (i.toNat * 1) q4) = [.str q1]];
 let q3 := ai 88 [(3, .ptr 0 0), (6, .ptr 1 0), (7, aa (IntKind.i64.wrap (i + 1)))]; bif decide (i < q5) then .ag q2 (bif !List.getD (ae aW q4) i.toNat [] == [(95 : UInt8), 117, 117, 105, 100] then .ag q2 (.bind (bf (bw
  t.name (ah ba t.aw) (ah aN t.uniq) t.root) q1) fun y0 => .ag [ao (Env.P n9) 178 [.agg (aq t), .str q1] [] (aj.mk (aa y0) [] [])] (bif decide (y0 < 0) then .done (Ex.ret, St.mk (ai 88 [(4, aa 11)]) [] []) else
  .done (Ex.normal, St.mk q3 q []))) else .done (Ex.normal, St.mk q3 q [])) else .done (Ex.exit 0, St.mk (ai 88 [(3, .ptr 0 0), (6, .ptr 1 0)]) q []) : T _) := by kernel_rfl
noncomputable def UZ (o : Op') (t : Tb) : Nat -> St -> Option bT := fun id _ => match id with
 | 0 => some ⟨firstC (jY t) o.aw, fun y => .two { keep := [3, 6, 7] } (wP o t 0) (decide (y = 0)) (.exit 0) ⟨ai 88 [(3, .ptr 0 0), (6, .ptr 1 0)], [some (aY o, gM), some (aq t, fO)], []⟩ .ret ⟨ai 88 [(4, .int .i64 11)], [], []⟩⟩
 | _ => none
noncomputable def FV (o : Op') (t : Tb) : Env := { P := Tryz.prog, vw := rV, res := rn, ls := UZ o t }
theorem Xs (S : aS) (o : Op') (t : Tb) : fnT (FV o t) 0 oM [.agg [ab aq S], .agg (aY o)] [] = (
 let q : List V := [aa o.kind, .str o.table, .str o.name, ab aH o.bC, ab aT o.row, ab b8 o.db, ab aW o.aw, .bool o.iO];
 let q1 := bw t.name (ah ba t.aw) (ah aN t.uniq) t.root;
 let q2 := ai 88 [(3, .ptr 0 0), (6, .ptr 1 0), (7, aa 0)];
 let q3 : Hp := [some (q, 178), some ((aq t), 44)];
 let jZ := ae aT (ah aT o.row);
 let q4 := firstC (j3 q1 jZ) (List.range jZ.length);
 let jy := ah aq S;
 let q5 := ae aq jy;
 let q6 := firstC (eM q1) (ae aH (ah aH o.bC));
 let q7 := firstC (gu q1) (ae aH (ah b8 o.db));
 let q8 := St.mk (ai 88 [(3, .ptr 0 0), (6, .ptr 1 0)]) q3 [];
 let q9 := Tb.mk [] [] [] false;
 let br := blk Tryz.prog oM 0;
 let bD := St.mk (ai 88 [(4, aa 11)]) [] [];
 let bL : List V := [.agg (aq t), ab aH o.bC];
 let ca : List V := [.agg (aq t), ab b8 o.db];
 let cU : List V := [.agg (aq t), ab aT o.row];
 let eC := St.mk q2 q3 [];
 let fA := firstC (jY t) o.aw;
 let fB := aj.mk (aa 11) [] [];
 let fC := (↑S.length : Int); bif decide (o.kind > 6) then bif o.kind == 10 then .bind (ia o.name) fun y0 => .ag [ao Tryz.prog 176 [.str o.name] [] (aj.mk (.bool y0) [] [])] (bif !y0 then .done (aj.mk (aa 3) [] []) else .done
  (aj.mk (aa 0) [] [])) else .done (aj.mk (aa 0) [] []) else .bind (cV q5 o.table) fun y1 =>
 let j0 := aq (List.getD q5 y1.toNat q9);
 let jz : List Prop := [0 <= y1 /\ y1 < fC, List.take 4 (List.drop (y1.toNat * 4) jy) = j0];
 let kz : List Prop := [St.mk q2 [some (q, 178), some (j0, 44)] [] = St.mk q2 q3 []]; .ag [ao Tryz.prog 113 [.agg [ab aq S], .str o.table] [] (aj.mk (aa y1) [] [])] (bif decide (y1 < 0) then .done (aj.mk (aa 10) [] []) else
  bif o.kind == 1 then bif !o.name == [] then .bind (ia o.name) fun y2 => .ag [ao Tryz.prog 176 [.str o.name] [] (aj.mk (.bool y2) [] [])] (bif !y2 then .done (aj.mk (aa 3) [] []) else .ag jz (.bind fA fun y3 => .ag kz
  (bif decide (y3 = (0 : Int)) then .ag [aV Tryz.prog 0 br eC (Ex.exit 0) q8] (.bind q6 fun y4 =>
 let lV := aj.mk (aa y4) [] []; .ag [ao Tryz.prog 52 bL [] lV] (bif y4 != 0 then .done lV else .bind q4 fun y5 =>
 let pE := aj.mk (aa y5) [] []; .ag [ao Tryz.prog 253 cU [] pE] (bif y5 != 0 then .done pE else .bind q7 fun y6 =>
 let nP := aj.mk (aa y6) [] []; .ag [ao Tryz.prog 254 ca [] nP] (.done nP)))) else .ag [aV Tryz.prog 0 br eC Ex.ret bD] (.done fB)))) else .ag jz (.bind fA fun y7 => .ag kz (bif decide (y7 = (0 : Int)) then
  .ag [aV Tryz.prog 0 br eC (Ex.exit 0) q8] (.bind q6 fun y8 =>
 let mN := aj.mk (aa y8) [] []; .ag [ao Tryz.prog 52 bL [] mN] (bif y8 != 0 then .done mN else .bind q4 fun y9 =>
 let mO := aj.mk (aa y9) [] []; .ag [ao Tryz.prog 253 cU [] mO] (bif y9 != 0 then .done mO else .bind q7 fun cx =>
 let nQ := aj.mk (aa cx) [] []; .ag [ao Tryz.prog 254 ca [] nQ] (.done nQ)))) else .ag [aV Tryz.prog 0 br eC Ex.ret bD] (.done fB))) else .ag jz (.bind fA fun cj => .ag kz (bif decide (cj = (0 : Int)) then
  .ag [aV Tryz.prog 0 br eC (Ex.exit 0) q8] (.bind q6 fun dk =>
 let lW := aj.mk (aa dk) [] []; .ag [ao Tryz.prog 52 bL [] lW] (bif dk != 0 then .done lW else .bind q4 fun eE =>
 let mP := aj.mk (aa eE) [] []; .ag [ao Tryz.prog 253 cU [] mP] (bif eE != 0 then .done mP else .bind q7 fun dz =>
 let tO := aj.mk (aa dz) [] []; .ag [ao Tryz.prog 254 ca [] tO] (.done tO)))) else .ag [aV Tryz.prog 0 br eC Ex.ret bD] (.done fB)))) : T _) := by kernel_rfl
theorem DZ (t : Tb) : ∀ l : List (List UInt8), firstC (jY t) l = 0 \/ firstC (jY t) l = 11
 | [] => .inl rfl
 | x :: l => by
  rw [firstC]
  cases h : jY t x != 0
  ·exact DZ t l
  ·right
   unfold jY at h ⊢
   cases h2 : x != iq && decide (bf t x < 0)
   ·rw [h2] at h; cases h
   ·rfl
theorem Xt (o : Op') (t : Tb) (ht : t.aw.length <= 1048576) (hl : o.aw.length <= 1048576) :
  (firstC (jY t) o.aw = 0 -> a8 Tryz.prog 0 (lp Tryz.prog oM 0) (wP o t 0) (.exit 0) ⟨ai 88 [(3, .ptr 0 0), (6, .ptr 1 0)], [some (aY o, gM), some (aq t, fO)], []⟩) /\
  (¬ firstC (jY t) o.aw = 0 -> a8 Tryz.prog 0 (lp Tryz.prog oM 0) (wP o t 0) .ret ⟨ai 88 [(4, .int .i64 11)], [], []⟩) := by
 have key := uZ (E := n9) (m := 0) (nf := Kd) (c := lp Tryz.prog oM 0) (st := fun i => wP o t (i : Nat)) (sr := fun j => ⟨ai 88 [(4, .int .i64 j)], [], []⟩) (sx := ⟨ai 88 [(3, .ptr 0 0), (6, .ptr 1 0)], [some (aY o, gM), some (aq t, fO)], []⟩) (ex := .exit 0) (ex' := .ret) (jY t) o.aw [] follows named (by simp) (by simp) (fun i => Xr o t (i : Nat)) (fun i hi => ?_) ?_ o.aw.length 0 (by simp)
 ·rw [List.drop_zero] at key
  refine ⟨key.1, fun h => ?_⟩
  have := key.2 h
  rcases DZ t o.aw with h2 | h2
  ·exact absurd h2 h
  ·rw [h2] at this; exact this
 ·have aL := dM.at o.aw [] i 1 hi rfl
  have gl := ou t (o.aw.getD i []) ht
  have w1 : IntKind.i64.wrap ((i : Int) + 1) = ((i + 1 : Nat) : Int) := bE af
  have hN : jY t (o.aw.getD i []) = bif o.aw.getD i [] != iq && decide (bf t (o.aw.getD i []) < 0) then 11 else 0 := rfl
  rw [hN]
  simp only [az, T.WP, All, aB, aC, aA, w1, dM.ae, cm, Int.toNat_natCast]
  generalize o.aw.getD i [] = q at *
  refine ⟨fun _ => ⟨⟨aK, aL⟩, fun hu => ⟨⟨aK, aL⟩, ?_⟩, fun hu => ?_⟩, fun h => af⟩
  ·have hu' : (q != iq) = true := hu
   rintro y rfl
   refine ⟨gl, fun h => ?_, fun h => ?_⟩
   ·rw [hu', decide_eq_true h]; rfl
   ·rw [hu', decide_eq_false h]; rfl
  ·have hu' : (q != iq) = false := hu
   rw [hu']; rfl
 ·simp only [az, T.WP, All, aB, aC, aA]
  exact ⟨fun h => af, fun _ => rfl⟩
structure Gd (o : Op') : Prop where
 nm : o.name.length <= 1048576
 wh : o.bC.length <= 1048576
 rw : o.row.length <= 1048576
 mu : o.db.length <= 1048576
 cl : o.aw.length <= 1048576
theorem Xu {S : aS} {o : Op'} (hS : S.length <= 1048576) (hT : ∀ t ∈ S, t.aw.length <= 1048576) (ho : Gd o) : ao Tryz.prog oM [.agg [ab aq S], .agg (aY o)] [] ⟨.int .i64 (gK S o), [], []⟩ := by
 have eG := Wd o.name ho.nm
 have fy := yv S o.table hS
 generalize jT : S.getD (cV S o.table).toNat ⟨[], [], [], false⟩ = t
 refine bh (E := FV o t) follows named (Xs S o t) (by simp) ?_
 simp only [az, T.WP, All, aB, aC, aA, aD, aE, aF, bJ.ae, cg.ae, dX.ae, cm]
 refine ⟨fun hk => ⟨fun iz => ?_, fun iz => ?_⟩, fun hk => ?_⟩
 ·rintro y rfl
  have e : gK S o = bif !ia o.name then 3 else 0 := by
   unfold gK
   rw [decide_eq_true (by omega : 7 <= o.kind), iz]; rfl
  rw [e]
  refine ⟨eG, fun h => ?_, fun h => ?_⟩
  ·rw [h]; exact ⟨rfl, rfl, by simp⟩
  ·rw [h]; exact ⟨rfl, rfl, by simp⟩
 ·have e : gK S o = 0 := by
   unfold gK
   rw [decide_eq_true (by omega : 7 <= o.kind), show (o.kind == 10) = false by simpa using iz]; rfl
  rw [e]; exact ⟨rfl, rfl, by simp⟩
 ·have e0 : gK S o = bif decide (cV S o.table < 0) then 10
    else bif o.kind == 1 && o.name != [] && !ia o.name then 3
    else bif firstC (jY t) o.aw != 0 then firstC (jY t) o.aw
    else bif firstC (eM t) o.bC != 0 then firstC (eM t) o.bC
    else bif firstC (j3 t o.row) (List.range o.row.length) != 0 then firstC (j3 t o.row) (List.range o.row.length)
    else firstC (gu t) o.db := by
   unfold gK
   rw [decide_eq_false (by omega : ¬ 7 <= o.kind)]
   subst jT
   rfl
  rw [e0]
  rintro y rfl
  refine ⟨fy, fun h => ?_, fun h => ?_⟩
  ·rw [decide_eq_true h]; exact ⟨rfl, rfl, by simp⟩
  ·rw [decide_eq_false h]
   have bO := Nc (show 0 <= cV S o.table by omega)
   have hZ : t ∈ S := by rw [<- jT]; exact bP _ (by omega)
   have ze := hT _ hZ
   have aL := bJ.at' S ⟨[], [], [], false⟩ (cV S o.table) 4 ⟨by omega, by omega⟩ rfl
   rw [jT] at aL
   have hl := Xt o t ze ho.cl
   have zg := GG t o.bC ze ho.wh
   have kq := Z1 t o.row ze ho.rw
   have IY := VQ t o.db ze ho.mu
   have iX := DZ t o.aw
   rw [cond_false]
   simp only [jT]
   refine ⟨fun h1 => ⟨fun h2 => ?_, fun h2 => ?_⟩, fun h1 => ?_⟩
   ·have iV : (o.name != []) = true := h2
    rintro y rfl
    refine ⟨eG, fun h => ?_, fun h => ?_⟩
    ·rw [show (o.kind == 1) = true by simpa using h1, iV, h]; exact ⟨rfl, rfl, by simp⟩
    ·rw [show (o.kind == 1) = true by simpa using h1, iV, h]
     simp only [Bool.and_false, cond_false]
     refine ⟨⟨aK, aL⟩, ?_⟩
     rintro y rfl
     refine ⟨bn, fun h3 => ⟨.bg (hl.1 h3), ?_⟩, fun h3 => ⟨.bg (hl.2 h3), ?_⟩⟩
     ·rw [h3]
      rintro y rfl
      refine ⟨zg, fun h4 => ?_, fun h4 => ?_⟩
      ·rw [h4]; exact ⟨rfl, rfl, by simp⟩
      ·rw [h4]
       rintro y rfl
       refine ⟨kq, fun h5 => ?_, fun h5 => ?_⟩
       ·rw [h5]; exact ⟨rfl, rfl, by simp⟩
       ·rw [h5]
        rintro y rfl
        exact ⟨IY, ⟨rfl, rfl, by simp⟩⟩
     ·rcases iX with h | h
      ·exact absurd h h3
      ·rw [h]; exact ⟨rfl, rfl, by simp⟩
   all_goals
    have hB : (o.kind == 1 && o.name != [] && !ia o.name) = false := by
     first
     | (rw [show (o.kind == 1) = false by simpa using h1]; rfl)
     | (have iV : (o.name != []) = false := h2
        rw [iV]; simp)
    rw [hB, cond_false]
    refine ⟨⟨aK, aL⟩, ?_⟩
    rintro y rfl
    refine ⟨bn, fun h3 => ⟨.bg (hl.1 h3), ?_⟩, fun h3 => ⟨.bg (hl.2 h3), ?_⟩⟩
    ·rw [h3]
     rintro y rfl
     refine ⟨zg, fun h4 => ?_, fun h4 => ?_⟩
     ·rw [h4]; exact ⟨rfl, rfl, by simp⟩
     ·rw [h4]
      rintro y rfl
      refine ⟨kq, fun h5 => ?_, fun h5 => ?_⟩
      ·rw [h5]; exact ⟨rfl, rfl, by simp⟩
      ·rw [h5]
       rintro y rfl
       exact ⟨IY, ⟨rfl, rfl, by simp⟩⟩
    ·rcases iX with h | h
     ·exact absurd h h3
     ·rw [h]; exact ⟨rfl, rfl, by simp⟩
abbrev sE : bt := ⟨[], 0, 0, 0, 0, 0, [], false⟩
def jx : List (List UInt8) := [[112], [113]]
def pR (aG : bt) (x : Src) : Sx × Src :=
 bif aG.kind == 4 then
  bif (bo (cS x aG.kind).2 2).1 then (⟨aG.name, [], [(dH (bo (cS x aG.kind).2 2).2 jx).1]⟩, (dH (bo (cS x aG.kind).2 2).2 jx).2)
  else bif (bo (bo (cS x aG.kind).2 2).2 2).1 then (⟨aG.name, (gS (bo (bo (cS x aG.kind).2 2).2 2).2 4).1, []⟩, (gS (bo (bo (cS x aG.kind).2 2).2 2).2 4).2)
  else (⟨aG.name, [], []⟩, (bo (bo (cS x aG.kind).2 2).2 2).2)
 else (⟨aG.name, [(cS x aG.kind).1], []⟩, (cS x aG.kind).2)
theorem M9 (aG : bt) (x : Src) : pR aG x =
 bif aG.kind == 4 then
  bif (bo (cS x aG.kind).2 2).1 then (⟨aG.name, [], [(dH (bo (cS x aG.kind).2 2).2 jx).1]⟩, (dH (bo (cS x aG.kind).2 2).2 jx).2)
  else bif (bo (bo (cS x aG.kind).2 2).2 2).1 then (⟨aG.name, (gS (bo (bo (cS x aG.kind).2 2).2 2).2 4).1, []⟩, (gS (bo (bo (cS x aG.kind).2 2).2 2).2 4).2)
  else (⟨aG.name, [], []⟩, (bo (bo (cS x aG.kind).2 2).2 2).2)
 else (⟨aG.name, [(cS x aG.kind).1], []⟩, (cS x aG.kind).2) := rfl
def Ao (tb : Tb) (i : Nat) (x : Src) : Option Sx × Src :=
 bif !(bo x 2).1 && decide (0 < i) then (none, (bo x 2).2) else (some (pR (tb.aw.getD i sE) (bo x 2).2).1, (pR (tb.aw.getD i sE) (bo x 2).2).2)
def sxL (tb : Tb) : Nat -> Nat -> Src -> List Sx -> List Sx × Src
 | 0, _, x, l => (l, x)
 | k + 1, i, x, l => sxL tb k (i + 1) (Ao tb i x).2 (l ++ (Ao tb i x).1.toList)
noncomputable def Zg : cP := fun f vs hp => match vs, hp with
 | [.ptr 0 0, .sl 1 0 _ _], [some ([.dsl _ _ cs, .int _ k, .int _ s], _), some (c, t)] => bif Nat.beq f sU then some ⟨dH (bc cs k s) (jC c), fun y => ⟨.str y.1, [au y.2, some (c, t)], [0]⟩⟩ else none
 | _, _ => tU aO f vs hp
def nS (x : Src) (tb : Tb) (l : List Sx) (i : Int) : St := ⟨ai 66 [(0, .ptr 0 0), (5, .ptr 1 0), (6, .sl 2 0 l.length false), (7, .int .i64 i)], [au x, some (aq tb, fO), some ([.aJ (ah aT l)], kC)], [0]⟩
def W1 : Ex -> Kp := fun _ => { keep := [0, 5, 6, 7], wr := [0], ua := true }
noncomputable def jF : Env := { P := Tryz.prog, vw := nV, res := Zg }
theorem Na (x : Src) (tb : Tb) (l : List Sx) (i : Int) : bx jF 1 W1 (lp Tryz.prog lz 0) (nS x tb l i) = (
 let q := List.getD (ae ba (ah ba tb.aw)) i.toNat (bt.mk [] (0 : Int) (0 : Int) (0 : Int) (0 : Int) (0 : Int) [] false);
 let q8 := IntKind.i64.wrap (i + 1);
 let q1 := ai 66 [(0, .ptr 0 0), (5, .ptr 1 0), (6, .sl 2 0 (l.length + 1) false), (7, aa q8)];
 let q2 : List Prop := [0 = 0, List.length (ah aT l) = l.length * 3, l.length + 1 <= 9223372036854775807, (l.length + 1) * 64 <= 140737488355328];
 let q7 := (↑tb.aw.length : Int);
 let q3 : List Prop := [0 <= i /\ i < q7, List.take 8 (List.drop (i.toNat * 8) (ah ba tb.aw)) = (ba q)];
 let q4 : List V := [.str [112], .str [113]];
 let q5 : List V := [.ptr 0 0, aa 2];
 let q6 : List V := [.aJ (ah aT l ++ [.str q.name, .dsl 0 false [], .dsl 0 false []])];
 let q9 : List V := [.ptr 0 0, aa q.kind]; bif decide (i < q7) then .bind (bo (bc (ah aR x.l) (↑x.k : Int) x.s) (2 : Int)) fun y0 =>
 let br := cS (bc (ah aR y0.2.l) (↑y0.2.k : Int) y0.2.s) q.kind; .ag [ao (Env.P jF) 105 q5 [au x] (aj.mk (.bool y0.1) [au y0.2] [0])] (bif !y0.1 then bif decide (i > 0) then .done (Ex.normal, St.mk (ai 66 [(0,
  .ptr 0 0), (5, .ptr 1 0), (6, .sl 2 0 l.length false), (7, aa q8)]) [au y0.2, some ((aq tb), 44), some ([.aJ (ah aT l)], 189)] [0]) else .ag q3 (.bind br fun y1 => .ag [ao (Env.P jF) 106 q9 [au y0.2] (aj.mk (.agg
  (ak y1.1)) [au y1.2] [0])] (bif q.kind == 4 then .bind (bo (bc (ah aR y1.2.l) (↑y1.2.k : Int) y1.2.s) (2 : Int)) fun y2 =>
 let bD := bc (ah aR y2.2.l) (↑y2.2.k : Int) y2.2.s; .ag [ao (Env.P jF) 105 q5 [au y1.2] (aj.mk (.bool y2.1) [au y2.2] [0])] (bif y2.1 then .bind (dH bD (jC q4)) fun y3 => .ag [ao (Env.P jF) 150 [.ptr 0
  0, .sl 1 0 2 true] [au y2.2, some (q4, 9)] (aj.mk (.str y3.1) [au y3.2, some (q4, 9)] [0])] (.ag q2 (.done (Ex.normal, St.mk q1 [au y3.2, some ((aq tb), 44), some ([.aJ (ah aT l ++ [.str q.name, .dsl 0 false [], .dsl
  1 false [.str y3.1]])], 189)] [0]))) else .bind (bo bD (2 : Int)) fun y4 => .ag [ao (Env.P jF) 105 q5 [au y2.2] (aj.mk (.bool y4.1) [au y4.2] [0])] (bif y4.1 then .bind (gS (bc (ah aR y4.2.l) (↑y4.2.k : Int)
  y4.2.s) (4 : Int)) fun y5 => .ag [ao (Env.P jF) 107 [.ptr 0 0, aa 4] [au y4.2] (aj.mk (ab ak y5.1) [au y5.2] [0])] (.ag q2 (.done (Ex.normal, St.mk q1 [au y5.2, some ((aq tb), 44), some ([.aJ (ah aT l ++
  [.str q.name, ab ak y5.1, .dsl 0 false []])], 189)] [0]))) else .ag q2 (.done (Ex.normal, St.mk q1 [au y4.2, some ((aq tb), 44), some (q6, 189)] [0])))) else .ag q2 (.done (Ex.normal, St.mk q1 [au y1.2, some ((aq tb),
  44), some ([.aJ (ah aT l ++ [.str q.name, .dsl 1 false (ak y1.1), .dsl 0 false []])], 189)] [0])))) else .ag q3 (.bind br fun y6 => .ag [ao (Env.P jF) 106 q9 [au y0.2] (aj.mk (.agg (ak y6.1)) [au y6.2] [0])]
  (bif q.kind == 4 then .bind (bo (bc (ah aR y6.2.l) (↑y6.2.k : Int) y6.2.s) (2 : Int)) fun y7 =>
 let bL := bc (ah aR y7.2.l) (↑y7.2.k : Int) y7.2.s; .ag [ao (Env.P jF) 105 q5 [au y6.2] (aj.mk (.bool y7.1) [au y7.2] [0])] (bif y7.1 then .bind (dH bL (jC q4)) fun y8 => .ag [ao (Env.P jF) 150 [.ptr 0
  0, .sl 1 0 2 true] [au y7.2, some (q4, 9)] (aj.mk (.str y8.1) [au y8.2, some (q4, 9)] [0])] (.ag q2 (.done (Ex.normal, St.mk q1 [au y8.2, some ((aq tb), 44), some ([.aJ (ah aT l ++ [.str q.name, .dsl 0 false [], .dsl
  1 false [.str y8.1]])], 189)] [0]))) else .bind (bo bL (2 : Int)) fun y9 => .ag [ao (Env.P jF) 105 q5 [au y7.2] (aj.mk (.bool y9.1) [au y9.2] [0])] (bif y9.1 then .bind (gS (bc (ah aR y9.2.l) (↑y9.2.k : Int)
  y9.2.s) (4 : Int)) fun cx => .ag [ao (Env.P jF) 107 [.ptr 0 0, aa 4] [au y9.2] (aj.mk (ab ak cx.1) [au cx.2] [0])] (.ag q2 (.done (Ex.normal, St.mk q1 [au cx.2, some ((aq tb), 44), some ([.aJ (ah aT l ++
  [.str q.name, ab ak cx.1, .dsl 0 false []])], 189)] [0]))) else .ag q2 (.done (Ex.normal, St.mk q1 [au y9.2, some ((aq tb), 44), some (q6, 189)] [0])))) else .ag q2 (.done (Ex.normal, St.mk q1 [au y6.2, some ((aq
  tb), 44), some ([.aJ (ah aT l ++ [.str q.name, .dsl 1 false (ak y6.1), .dsl 0 false []])], 189)] [0]))))) else .done (Ex.exit 0, St.mk (ai 66 [(0, .ptr 0 0), (5, .ptr 1 0), (6, .sl 2 0 l.length false), (7, aa i)]) [au x,
  some ((aq tb), 44), some ([.aJ (ah aT l)], 189)] [0]) : T _) := by kernel_rfl
theorem uk {tb : Tb} (hT : og tb) : ∀ (k i : Nat) (x : Src) (l : List Sx) (c : Nat), i + k = tb.aw.length -> x.OK (c + k * 27) -> l.length <= i ->
  a8 Tryz.prog 1 (lp Tryz.prog lz 0) (nS x tb l i) (.exit 0) (nS (sxL tb k i x l).2 tb (sxL tb k i x l).1 tb.aw.length)
 | 0, i, x, l, c, hi, h, hl => by
  obtain rfl : i = tb.aw.length := hi
  refine bl (E := jF) follows named (Na x tb l (tb.aw.length : Nat)) ?_
  simp only [az, T.WP, All, aB, aC, aA, aD, aE, aF]
  exact ⟨fun h => af, fun _ => ⟨rfl, rfl⟩⟩
 | k + 1, i, x, l, c, hi, h, hl => by
  have hle := hT.le
  have o0 := gf (x := x) (n := 2) (c := c + k * 27 + 24) (h.less af) af
  have n0 := iS (c := c + k * 27 + 24) x 2 (h.less af) af
  obtain ⟨bS, cB⟩ := qj tb.aw i af
  have w1 : IntKind.i64.wrap ((i : Int) + 1) = ((i + 1 : Nat) : Int) := bE af
  have hF : Ao tb i x = bif !(bo x 2).1 && decide (0 < i) then (none, (bo x 2).2) else (some (pR (tb.aw.getD i sE) (bo x 2).2).1, (pR (tb.aw.getD i sE) (bo x 2).2).2) := rfl
  refine bl (E := jF) follows named (Na x tb l (i : Nat)) ?_
  simp only [az, T.WP, All, aB, aC, aA, aD, aE, aF, w1, dF, cR.ae]
  rw [Int.toNat_natCast] at bS cB ⊢
  rw [sxL, hF]
  refine ⟨fun _ => ?_, fun h => af⟩
  rintro y0 e0
  rw [<- e0] at o0 n0 ⊢
  clear e0 hF
  generalize gl : tb.aw.getD i ⟨[], 0, 0, 0, 0, 0, [], false⟩ = aG at *
  have jQ := hT.kd _ cB
  refine ⟨n0, fun hy => ⟨fun hp => ?_, fun hp => ⟨⟨aK, bS⟩, ?_⟩⟩, fun hy => ⟨⟨aK, bS⟩, ?_⟩⟩
  ·have hb : (!y0.1 && decide (0 < i)) = true := by rw [hy, decide_eq_true (by omega : 0 < i)]; rfl
   rw [hb, cond_true]
   have ih := uk hT k (i + 1) y0.2 l c af (o0.less af) af
   dsimp only [Option.toList]
   rw [List.append_nil]
   exact ih
  all_goals
   have hb : (!y0.1 && decide (0 < i)) = false := by
    first
    | (rw [hy]; rfl)
    | (rw [decide_eq_false (by omega : ¬ 0 < i)]; simp)
   rw [hb, cond_false]
   clear hb bS
   dsimp only [Option.toList]
   have a1 := kK y0.2 aG.kind (c := c + k * 27 + 21) o0
   have n1 := qe (c := c + k * 27 + 21) y0.2 aG.kind o0
   have hG := M9 aG y0.2
   rintro y1 e1
   rw [<- e1] at a1 n1 hG
   clear e1
   refine ⟨n1, fun hk => ?_, fun hk => ?_⟩
   ·rw [hk] at hG
    have o2 := gf (x := y1.2) (n := 2) (c := c + k * 27 + 18) (a1.less af) af
    have n2 := iS (c := c + k * 27 + 18) y1.2 2 (a1.less af) af
    rintro y2 e2
    rw [<- e2] at o2 n2 hG
    clear e2
    refine ⟨n2, fun h2 => ?_, fun h2 => ?_⟩
    ·rw [h2] at hG
     have p3 := rj (x := y2.2) (L := jx) (c := c + k * 27 + 15) (o2.less af) (by simp [jx])
     have n3 := zF (c := c + k * 27 + 15) y2.2 jx true rfl rfl rfl (o2.less af)
     rintro y3 e3
     have e3 : y3 = dH y2.2 jx := e3
     rw [<- e3] at p3 n3 hG
     clear e3
     rw [hG]
     have ih := uk hT k (i + 1) y3.2 (l ++ [⟨aG.name, [], [y3.1]⟩]) c af (p3.1.less af) (by simp only [List.length_append, List.length_singleton]; omega)
     refine ⟨n3, by rw [dX.length]; exact aK, ?_⟩
     simp only [nS, dU, aT, List.length_append, List.length_singleton] at ih ⊢
     exact ih
    ·rw [h2] at hG
     have o4 := gf (x := y2.2) (n := 2) (c := c + k * 27 + 15) (o2.less af) af
     have n4 := iS (c := c + k * 27 + 15) y2.2 2 (o2.less af) af
     rintro y4 e4
     rw [<- e4] at o4 n4 hG
     clear e4
     refine ⟨n4, fun h4 => ?_, fun h4 => ?_⟩
     ·rw [h4] at hG
      have o5 := uS y4.2 4 (c := c + k * 27) (o4.less af)
      have n5 := x7 (c := c + k * 27) y4.2 4 (o4.less af)
      rintro y5 e5
      rw [<- e5] at o5 n5 hG
      clear e5
      rw [hG]
      have ih := uk hT k (i + 1) y5.2 (l ++ [⟨aG.name, y5.1, []⟩]) c af (o5.less af) (by simp only [List.length_append, List.length_singleton]; omega)
      refine ⟨n5, by rw [dX.length]; exact aK, ?_⟩
      simp only [nS, dU, aT, List.length_append, List.length_singleton] at ih ⊢
      exact ih
     ·rw [h4] at hG
      rw [hG]
      have ih := uk hT k (i + 1) y4.2 (l ++ [⟨aG.name, [], []⟩]) c af (o4.less af) (by simp only [List.length_append, List.length_singleton]; omega)
      refine ⟨by rw [dX.length]; exact aK, ?_⟩
      simp only [nS, dU, aT, List.length_append, List.length_singleton] at ih ⊢
      exact ih
   ·have dD : (aG.kind == 4) = false := by simpa using hk
    rw [dD] at hG
    rw [hG]
    have ih := uk hT k (i + 1) y1.2 (l ++ [⟨aG.name, [y1.1], []⟩]) c af (a1.less af) (by simp only [List.length_append, List.length_singleton]; omega)
    refine ⟨by rw [dX.length]; exact aK, ?_⟩
    simp only [nS, dU, aT, List.length_append, List.length_singleton] at ih ⊢
    exact ih
noncomputable def cw (x : Src) (t : Int) : List Sx × Src := sxL (de t) (de t).aw.length 0 x []
noncomputable def Vn : Nat -> St -> Option bT := fun id s => match id, s.hp with
 | 0, some ([.dsl _ _ cs, .int _ a, .int _ b], _) :: some ([.str nm, .dsl _ _ cc, .dsl _ _ uu, .bool r], _) :: _ => some ⟨sxL (bw nm cc uu r) (bw nm cc uu r).aw.length 0 (bc cs a b) [], fun y => .one { keep := [0, 5, 6, 7], wr := [0], ic := [6] } (nS (bc cs a b) (bw nm cc uu r) [] 0) (.exit 0) (nS y.2 (bw nm cc uu r) y.1 (bw nm cc uu r).aw.length)⟩
 | _, _ => none
noncomputable def xL (S : aS) : Env := { P := Tryz.prog, vw := nV, res := tU S, ls := Vn }
theorem af1 (S : aS) (x : Src) (t : Int) : fnT (xL S) 0 lz [.ptr 0 0, .int .i64 t] [au x] = (
 let q2 := List.getD (ae aq (ah aq S)) t.toNat (Tb.mk [] [] [] false);
 let q := bw q2.name (ah ba q2.aw) (ah aN q2.uniq) q2.root;
 let q3 := bc (ah aR x.l) (↑x.k : Int) x.s;
 let q5 : List V := [.str q.name, ab ba q.aw, ab aN q.uniq, .bool q.root];
 let q1 : Hp := [some ([ab aR q3.l, aa (↑q3.k : Int), aa q3.s], 138), some (q5, 44), some ([.aJ []], 189)];
 let q4 := ai 66 [(0, .ptr 0 0), (5, .ptr 1 0), (6, .sl 2 0 0 false), (7, aa 0)]; .bind PUnit.unit fun _ => .ag [ao Tryz.prog 7 [] [] (aj.mk (.agg [ab aq S]) [] [])] (.ag [0 <= t /\ t < (↑S.length : Int), List.take 4
  (List.drop (t.toNat * 4) (ah aq S)) = (aq q2)] (.bind (sxL q q.aw.length 0 q3 []) fun y1 => .ag [St.mk q4 [some ([ab aR x.l, aa (↑x.k : Int), aa x.s], 138), some ((aq q2), 44), some ([.aJ []], 189)] [0] = St.mk
  q4 q1 [0], aV Tryz.prog 1 (blk Tryz.prog lz 0) (St.mk q4 q1 [0]) (Ex.exit 0) (St.mk (ai 66 [(0, .ptr 0 0), (5, .ptr 1 0), (6, .sl 2 0 y1.1.length false), (7, aa (↑q.aw.length : Int))]) [some ([ab aR y1.2.l, aa
  (↑y1.2.k : Int), aa y1.2.s], 138), some (q5, 44), some ([.aJ (ah aT y1.1)], 189)] [0])] (.done (aj.mk (ab aT y1.1) [some ([ab aR y1.2.l, aa (↑y1.2.k : Int), aa y1.2.s], 138)] [0])))) : T _) := (T.force_eq _).symm.trans (by kernel_rfl)
theorem af2 (S : aS) (x : Src) (t : Int) : fnT (xL S) 1 lz [.ptr 0 0, .int .i64 t] [au x] = (
 let q2 := List.getD (ae aq (ah aq S)) t.toNat (Tb.mk [] [] [] false);
 let q := bw q2.name (ah ba q2.aw) (ah aN q2.uniq) q2.root;
 let q3 := bc (ah aR x.l) (↑x.k : Int) x.s;
 let q5 : List V := [.str q.name, ab ba q.aw, ab aN q.uniq, .bool q.root];
 let q1 : Hp := [some ([ab aR q3.l, aa (↑q3.k : Int), aa q3.s], 138), some (q5, 44), some ([.aJ []], 189)];
 let q4 := ai 66 [(0, .ptr 0 0), (5, .ptr 1 0), (6, .sl 2 0 0 false), (7, aa 0)]; .bind PUnit.unit fun _ => .ag [ao Tryz.prog 7 [] [] (aj.mk (.agg [ab aq S]) [] [])] (.ag [0 <= t /\ t < (↑S.length : Int), List.take 4
  (List.drop (t.toNat * 4) (ah aq S)) = (aq q2)] (.bind (sxL q q.aw.length 0 q3 []) fun y1 => .ag [St.mk q4 [some ([ab aR x.l, aa (↑x.k : Int), aa x.s], 138), some ((aq q2), 44), some ([.aJ []], 189)] [0] = St.mk
  q4 q1 [0], aV Tryz.prog 1 (blk Tryz.prog lz 0) (St.mk q4 q1 [0]) (Ex.exit 0) (St.mk (ai 66 [(0, .ptr 0 0), (5, .ptr 1 0), (6, .sl 2 0 y1.1.length false), (7, aa (↑q.aw.length : Int))]) [some ([ab aR y1.2.l, aa
  (↑y1.2.k : Int), aa y1.2.s], 138), some (q5, 44), some ([.aJ (ah aT y1.1)], 189)] [0])] (.done (aj.mk (.sl 1 0 y1.1.length false) [some ([ab aR y1.2.l, aa (↑y1.2.k : Int), aa y1.2.s], 138), some ([.aJ (ah aT
  y1.1)], 189)] [0])))) : T _) := (T.force_eq _).symm.trans (by kernel_rfl)
def ln (tb : Tb) (s : Sx) : Prop := ∃ aG ∈ tb.aw, s.aG = aG.name /\ b7 aG.kind s.val /\ s.val.length <= 8 /\ (∀ n ∈ s.names, n = [112] \/ n = [113]) /\ (s.names ≠ [] -> aG.kind = 4 /\ s.val = []) /\ s.names.length <= 1
theorem Yi (x : Src) {c : Nat} (h : x.OK (c + 3)) : (dH x jx).1 = [112] \/ (dH x jx).1 = [113] := by
 have := (rj (L := jx) h (by simp [jx])).2
 simpa [jx] using this
theorem af0 {tb : Tb} {aG : bt} (cB : aG ∈ tb.aw) (jQ : 1 <= aG.kind /\ aG.kind <= 4) {x : Src} {c : Nat} (h : x.OK (c + 24)) : ln tb (pR aG x).1 /\ (pR aG x).2.OK c := by
 rw [M9]
 have a1 := kK x aG.kind (c := c + 21) h
 have a2 := qd (x := x) (k := aG.kind) (c := c + 21) h jQ
 generalize cS x aG.kind = y1 at *
 cases hk : aG.kind == 4
 ·simp only [cond_false]
  exact ⟨⟨aG, cB, rfl, .one a2, by simp, by simp, by simp, by simp⟩, a1.less af⟩
 ·have dD : aG.kind = 4 := by simpa using hk
  have o2 := gf (x := y1.2) (n := 2) (c := c + 18) (a1.less af) af
  generalize bo y1.2 2 = y2 at *
  simp only [cond_true]
  cases y2.1
  ·have o4 := gf (x := y2.2) (n := 2) (c := c + 15) (o2.less af) af
   generalize bo y2.2 2 = y4 at *
   simp only [cond_false]
   cases y4.1
   ·simp only [cond_false]
    exact ⟨⟨aG, cB, rfl, .nil _, by simp, by simp, by simp, by simp⟩, o4.less af⟩
   ·simp only [cond_true]
    have o5 := uS y4.2 4 (c := c) (o4.less af)
    have d5 := x6 (x := y4.2) (k := 4) (c := c) (o4.less af) af
    exact ⟨⟨aG, cB, rfl, dD ▸ d5.1, by have := d5.2; show List.length (gS y4.2 4).1 <= 8; omega, by simp, by simp, by simp⟩, o5⟩
  ·simp only [cond_true]
   have p3 := rj (x := y2.2) (L := jx) (c := c + 15) (o2.less af) (by simp [jx])
   have p4 := Yi y2.2 (c := c + 15) (o2.less af)
   exact ⟨⟨aG, cB, rfl, .nil _, by simp, by simpa using p4, fun _ => ⟨dD, rfl⟩, by simp⟩, p3.1.less af⟩
theorem Fq {tb : Tb} (hT : og tb) : ∀ (k i : Nat) (x : Src) (l : List Sx) (c : Nat), i + k = tb.aw.length -> x.OK (c + k * 27) -> (∀ s ∈ l, ln tb s) ->
  (∀ s ∈ (sxL tb k i x l).1, ln tb s) /\ (sxL tb k i x l).1.length <= l.length + k /\ (sxL tb k i x l).2.OK c /\ (i = 0 /\ 0 < k -> 0 < (sxL tb k i x l).1.length) /\ l.length <= (sxL tb k i x l).1.length
 | 0, i, x, l, c, hi, h, hl => ⟨hl, Nat.le_refl _, h.less af, fun h => af, Nat.le_refl _⟩
 | k + 1, i, x, l, c, hi, h, hl => by
  have o0 := gf (x := x) (n := 2) (c := c + k * 27 + 24) (h.less af) af
  obtain ⟨-, cB⟩ := qj tb.aw i af
  rw [Int.toNat_natCast] at cB
  change tb.aw.getD i sE ∈ tb.aw at cB
  have jQ := hT.kd _ cB
  have hg := af0 cB jQ (x := (bo x 2).2) (c := c + k * 27) o0
  rw [sxL]
  unfold Ao
  generalize tb.aw.getD i sE = aG at *
  generalize hq : pR aG (bo x 2).2 = q at *
  cases hb : !(bo x 2).1 && decide (0 < i)
  ·simp only [cond_false, Option.toList]
   have ih := Fq hT k (i + 1) _ (l ++ [q.1]) c af hg.2 (by
    intro s hs
    rcases List.mem_append.1 hs with hs | hs
    ·exact hl s hs
    ·rw [List.mem_singleton.1 hs]; exact hg.1)
   have h2 := ih.2.1
   have h5 := ih.2.2.2.2
   rw [List.length_append, List.length_singleton] at h2 h5
   exact ⟨ih.1, af, ih.2.2.1, fun _ => af, af⟩
  ·simp only [cond_true, Option.toList, List.append_nil]
   have ih := Fq hT k (i + 1) _ l c af (o0.less af) hl
   have tr : 0 < i := by
    rw [Bool.and_eq_true, decide_eq_true_eq] at hb
    exact hb.2
   exact ⟨ih.1, by have := ih.2.1; omega, ih.2.2.1, fun h => af, ih.2.2.2.2⟩
theorem xb {x : Src} {t : Int} (ht : 0 <= t /\ t < 3) {c : Nat} (h : x.OK (c + 81)) :
  ao Tryz.prog lz [.ptr 0 0, .int .i64 t] [au x] ⟨ab aT (cw x t).1, [au (cw x t).2], [0]⟩ /\
  ao Tryz.prog lz [.ptr 0 0, .int .i64 t] [au x] ⟨.sl 1 0 (cw x t).1.length false, [au (cw x t).2, some ([.aJ (ah aT (cw x t).1)], kC)], [0]⟩ := by
 have aL := Au aO t ht
 have hlen := zm ht
 have hT := As ht
 unfold cw
 change List.take 4 (List.drop (t.toNat * 4) (ah aq aO)) = aq (de t) at aL
 generalize hS : aO = S at *
 have hp : ao Tryz.prog nj [] [] ⟨.agg [ab aq S], [], []⟩ := hS ▸ rl
 have qV : t < S.length := by rw [<- hS]; exact ht.2
 have hs : S.getD t.toNat ⟨[], [], [], false⟩ = de t := by rw [<- hS]
 generalize de t = tb at *
 have hl := uk hT tb.aw.length 0 x [] c af (h.less af) (Nat.le_refl _)
 generalize hy : sxL tb tb.aw.length 0 x [] = y at *
 refine ⟨?_, ?_⟩
 ·refine bh (E := xL S) follows named (af1 S x t) (by simp) ?_
  simp only [T.WP, All, aA, dF, bJ.ae, cm, hs, hy]
  rintro _ -
  refine ⟨hp, ⟨⟨ht.1, qV⟩, aL⟩, ?_⟩
  rintro _ rfl
  exact ⟨⟨bn, .bg hl⟩, aQ⟩
 ·refine bh (E := xL S) follows named (af2 S x t) (by simp) ?_
  simp only [T.WP, All, aA, dF, bJ.ae, cm, hs, hy]
  rintro _ -
  refine ⟨hp, ⟨⟨ht.1, qV⟩, aL⟩, ?_⟩
  rintro _ rfl
  exact ⟨⟨bn, .bg hl⟩, aQ⟩
theorem rO {x : Src} {t : Int} (ht : 0 <= t /\ t < 3) {c : Nat} (h : x.OK (c + 81)) :
  (∀ s ∈ (cw x t).1, ln (de t) s) /\ (cw x t).1.length <= 3 /\ 1 <= (cw x t).1.length /\ (cw x t).2.OK c := by
 have hlen := zm ht
 have := Fq (As ht) (de t).aw.length 0 x [] c af (h.less af) (by simp)
 have h2 := this.2.1
 rw [List.length_nil] at h2
 exact ⟨this.1, by unfold cw; omega, by have := this.2.2.2.1 ⟨rfl, af⟩; unfold cw; omega, this.2.2.1⟩
abbrev fU : Nat := 158
noncomputable def LZ : cP := fun f vs hp => match vs, hp with
 | [.int _ n, .int _ lo, .int _ hi], [] => bif Nat.beq f mm then some ⟨decide (lo <= n) && decide (n <= hi), fun y => ⟨.bool y, [], []⟩⟩ else none
 | [.ptr 0 0, .int _ n], [some ([.dsl _ _ cs, .int _ k, .int _ s], _)] => bif Nat.beq f kh then some ⟨aX (bc cs k s) n, fun y => ⟨.int .i64 y.1, [au y.2], [0]⟩⟩
  else bif Nat.beq f sJ then some ⟨fw (bc cs k s) n, fun y => ⟨ab aH y.1, [au y.2], [0]⟩⟩
  else bif Nat.beq f lz then some ⟨cw (bc cs k s) n, fun y => ⟨ab aT y.1, [au y.2], [0]⟩⟩
  else bif Nat.beq f qq then some ⟨jb (bc cs k s) n, fun y => ⟨.agg (b8 y.1), [au y.2], [0]⟩⟩
  else bif Nat.beq f sW then some ⟨lS (bc cs k s) n, fun y => ⟨ab aW y.1, [au y.2], [0]⟩⟩
  else bif Nat.beq f uW then some ⟨bo (bc cs k s) n, fun y => ⟨.bool y.1, [au y.2], [0]⟩⟩ else none
 | [.ptr 0 0, .sl 1 0 _ _], [some ([.dsl _ _ cs, .int _ k, .int _ s], _), some (c, t)] => bif Nat.beq f sU then some ⟨dH (bc cs k s) (jC c), fun y => ⟨.str y.1, [au y.2, some (c, t)], [0]⟩⟩ else none
 | _, _ => none
noncomputable def ux (v : Int) (nm : List UInt8) : Env := { P := Tryz.prog, vw := xg, res := LZ, vs := [(3, 7, .int .i64 v), (5, 3, .str nm)] }
def NP : List V := [.int .i64 0, .str [], .str [], .dsl 0 true [], .dsl 0 true [], .dsl 0 true [], .dsl 0 true [], .bool false]
def ry (x : Src) (t : Int) (nm : List UInt8) (W : List a6) (l : List Mt) (i : Int) : St := ⟨ai 94 [(0, .ptr 0 0), (2, .ptr 1 0), (3, .int .i64 t), (5, .ptr 2 0), (6, .int .i64 i)],
 [au x, some (NP, gM), some ([.int .i64 4, .str nm, .str [], ab aH W, .dsl 0 true [], .sl 3 0 l.length false, .dsl 0 true [], .bool false], gM), some ([.aJ (ah b8 l)], Ap)], [0]⟩
def E8 (x : Src) (t : Int) (nm : List UInt8) (W : List a6) (i : Int) : St := ⟨ai 94 [(0, .ptr 0 0), (2, .ptr 1 0), (3, .int .i64 t), (5, .ptr 2 0), (6, .int .i64 i)],
 [au x, some (NP, gM), some ([.int .i64 4, .str nm, .str [], ab aH W, .dsl 0 true [], .dsl 0 true [], .dsl 0 true [], .bool false], gM)], [0]⟩
def Ke : Ex -> Kp := fun _ => { keep := [0, 2, 3, 5, 6], wr := [0], lX := [(2, 5)] }
theorem KX (x : Src) (t : Int) (nm : List UInt8) (W : List a6) (l : List Mt) (i : Int) : bx (ux 0 []) 1 Ke (lp Tryz.prog fU 1) (ry x t nm W l i) = (
 let q : List V := [aa 0, .str [], .str [], .dsl 0 true [], .dsl 0 true [], .dsl 0 true [], .dsl 0 true [], .bool false]; bif decide (i > 0) then .bind (jb (bc (ah aR x.l) (↑x.k : Int) x.s) t) fun y0 => .ag [ao Tryz.prog
  229 [.ptr 0 0, aa t] [au x] (aj.mk (.agg (aH y0.1)) [au y0.2] [0])] (.ag [0 = 0, List.length (ah b8 l) = l.length * 3, l.length + 1 <= 9223372036854775807, (l.length + 1) * 48 <= 140737488355328] (.done (Ex.normal, St.mk
  (ai 94 [(0, .ptr 0 0), (2, .ptr 1 0), (3, aa t), (5, .ptr 2 0), (6, aa (IntKind.i64.wrap (i - 1)))]) [au y0.2, some (q, 178), some ([aa 4, .str nm, .str [], ab aH W, .dsl 0 true [], .sl 3 0 (l.length + 1) false, .dsl 0 true
  [], .bool false], 178), some ([.aJ (ah b8 l ++ (aH y0.1))], 241)] [0]))) else .done (Ex.exit 1, St.mk (ai 94 [(0, .ptr 0 0), (2, .ptr 1 0), (3, aa t), (5, .ptr 2 0), (6, aa i)]) [au x, some (q, 178), some ([aa 4, .str
  nm, .str [], ab aH W, .dsl 0 true [], .sl 3 0 l.length false, .dsl 0 true [], .bool false], 178), some ([.aJ (ah b8 l)], 241)] [0]) : T _) := by kernel_rfl
theorem XD (x : Src) (t : Int) (nm : List UInt8) (W : List a6) (i : Int) : bx (ux 0 []) 1 Ke (lp Tryz.prog fU 1) (E8 x t nm W i) = (
 let q : List V := [aa 0, .str [], .str [], .dsl 0 true [], .dsl 0 true [], .dsl 0 true [], .dsl 0 true [], .bool false]; bif decide (i > 0) then .bind (jb (bc (ah aR x.l) (↑x.k : Int) x.s) t) fun y0 => .ag [ao Tryz.prog
  229 [.ptr 0 0, aa t] [au x] (aj.mk (.agg (aH y0.1)) [au y0.2] [0])] (.ag [true = true, 0 = 0, 1 <= 9223372036854775807, 48 <= 140737488355328] (.done (Ex.normal, St.mk (ai 94 [(0, .ptr 0 0), (2, .ptr 1 0), (3, aa t), (5,
  .ptr 2 0), (6, aa (IntKind.i64.wrap (i - 1)))]) [au y0.2, some (q, 178), some ([aa 4, .str nm, .str [], ab aH W, .dsl 0 true [], .sl 3 0 1 false, .dsl 0 true [], .bool false], 178), some ([.aJ (aH y0.1)], 241)] [0])))
  else .done (Ex.exit 1, St.mk (ai 94 [(0, .ptr 0 0), (2, .ptr 1 0), (3, aa t), (5, .ptr 2 0), (6, aa i)]) [au x, some (q, 178), some ([aa 4, .str nm, .str [], ab aH W, .dsl 0 true [], .dsl 0 true [], .dsl 0 true [], .bool
  false], 178)] [0]) : T _) := by kernel_rfl
noncomputable def mtsL (t : Int) : Nat -> Src -> List Mt -> List Mt × Src
 | 0, x, l => (l, x)
 | n + 1, x, l => mtsL t n (jb x t).2 (l ++ [(jb x t).1])
theorem J0 {t : Int} (ht : 0 <= t /\ t < 3) : ∀ (n : Nat) (x : Src) (l : List Mt) (c : Nat), x.OK (c + n * 36) -> (∀ q ∈ l, ke (de t) q) ->
  (∀ q ∈ (mtsL t n x l).1, ke (de t) q) /\ (mtsL t n x l).1.length = l.length + n /\ (mtsL t n x l).2.OK c
 | 0, x, l, c, h, hl => ⟨hl, rfl, h.less af⟩
 | n + 1, x, l, c, h, hl => by
  have h1 := DU ht (x := x) (c := c + n * 36) (h.less af)
  have ih := J0 ht n (jb x t).2 (l ++ [(jb x t).1]) c h1.2.2 (by
   intro q hq
   rcases List.mem_append.1 hq with hq | hq
   ·exact hl q hq
   ·rw [List.mem_singleton.1 hq]; exact h1.2.1)
  rw [mtsL]
  exact ⟨ih.1, by rw [ih.2.1, List.length_append, List.length_singleton]; omega, ih.2.2⟩
theorem J1 {t : Int} (ht : 0 <= t /\ t < 3) (nm : List UInt8) (W : List a6) : ∀ (n : Nat) (x : Src) (l : List Mt) (c : Nat), x.OK (c + n * 36) -> l.length + n <= 1000000 ->
  a8 Tryz.prog 1 (lp Tryz.prog fU 1) (ry x t nm W l n) (.exit 1) (ry (mtsL t n x l).2 t nm W (mtsL t n x l).1 0)
 | 0, x, l, c, h, hl => by
  refine bl (E := ux 0 []) follows named (KX x t nm W l ((0 : Nat) : Int)) ?_
  simp only [az, T.WP, All, aB, aC, aA]
  exact ⟨fun h => af, fun _ => ⟨rfl, rfl⟩⟩
 | n + 1, x, l, c, h, hl => by
  have h1 := DU ht (x := x) (c := c + n * 36) (h.less af)
  have ih := J1 ht nm W n (jb x t).2 (l ++ [(jb x t).1]) c h1.2.2 (by simp only [List.length_append, List.length_singleton]; omega)
  have w1 : IntKind.i64.wrap (((n + 1 : Nat) : Int) - 1) = (n : Nat) := by rw [cQ af]; omega
  refine bl (E := ux 0 []) follows named (KX x t nm W l ((n + 1 : Nat) : Int)) ?_
  simp only [az, T.WP, All, aB, aC, aA, w1, dF]
  refine ⟨fun _ => ?_, fun h => af⟩
  rintro y rfl
  refine ⟨h1.1, by rw [cg.length]; exact aK, ?_⟩
  simp only [ry, dU, b8, aH, ab, List.length_append, List.length_singleton] at ih ⊢
  exact ih
theorem V2 {t : Int} (ht : 0 <= t /\ t < 3) (nm : List UInt8) (W : List a6) (n : Nat) (hn : n <= 100000) (x : Src) (c : Nat) (h : x.OK (c + (n + 1) * 36)) :
  a8 Tryz.prog 1 (lp Tryz.prog fU 1) (E8 x t nm W ((n + 1 : Nat) : Int)) (.exit 1) (ry (mtsL t (n + 1) x []).2 t nm W (mtsL t (n + 1) x []).1 0) := by
 have h1 := DU ht (x := x) (c := c + n * 36) (h.less af)
 have ih := J1 ht nm W n (jb x t).2 [(jb x t).1] c h1.2.2 (by simp only [List.length_singleton]; omega)
 have w1 : IntKind.i64.wrap (((n + 1 : Nat) : Int) - 1) = (n : Nat) := by rw [cQ af]; omega
 refine bl (E := ux 0 []) follows named (XD x t nm W ((n + 1 : Nat) : Int)) ?_
 simp only [az, T.WP, All, aB, aC, aA, w1, dF]
 refine ⟨fun _ => ?_, fun h => af⟩
 rintro y rfl
 refine ⟨h1.1, aK, ?_⟩
 simp only [ry, HA, b8, aH, ab, List.length_singleton] at ih ⊢
 exact ih
noncomputable def U2 : Nat -> St -> Option bT := fun id s => match id, s.tm.get 3, s.tm.get 6, s.hp with
 | 1, .int _ t, .int _ i, some ([.dsl _ _ cs, .int _ a, .int _ b], _) :: _ :: _ :: _ :: some ([_, .str nm, _, .dsl _ _ ws, _, _, _, _], _) :: _ =>
  some ⟨mtsL t i.toNat (bc cs a b) [], fun y => .one { keep := [0, 2, 3, 5, 6], wr := [0] } (E8 (bc cs a b) t nm (ae aH ws) i) (.exit 1) (ry y.2 t nm (ae aH ws) y.1 0)⟩
 | _, _, _, _ => none
noncomputable def gb (v : Int) (nm : List UInt8) : Env := { P := Tryz.prog, vw := xg, res := LZ, vs := [(3, 7, .int .i64 v), (5, 3, .str nm)], ls := U2 }
theorem XF (x : Src) (nm : List UInt8) : fnT (gb 1 nm) 0 fU [.ptr 0 0] [au x] = (
 let q : List V := [.str [], .str [112], .str [113]];
 let q1 : List V := [.ptr 0 0, .sl 1 0 3 true];
 let q2 : List V := [aa 1, aa 2, aa 6]; .bind (aX (bc (ah aR x.l) (↑x.k : Int) x.s) (3 : Int)) fun y0 =>
 let q3 : List V := [.ptr 0 0, aa y0.1]; .ag [ao Tryz.prog 103 [.ptr 0 0, aa 3] [au x] (aj.mk (aa y0.1) [au y0.2] [0])] (.bind (aX (bc (ah aR y0.2.l) (↑y0.2.k : Int) y0.2.s) (10 : Int)) fun y1 => .ag [ao
  Tryz.prog 103 [.ptr 0 0, aa 10] [au y0.2] (aj.mk (aa y1.1) [au y1.2] [0])] (.bind (aX (bc (ah aR y1.2.l) (↑y1.2.k : Int) y1.2.s) (7 : Int)) fun y2 =>
 let q4 := bc (ah aR y2.2.l) (↑y2.2.k : Int) y2.2.s; .ag [ao Tryz.prog 103 [.ptr 0 0, aa 7] [au y1.2] (aj.mk (aa y2.1) [au y2.2] [0])] (.ag [0 <= y2.1 /\ y2.1 < 7] (.ag [([aa 1, aa 1, aa 3, aa 4, aa 2, aa 5,
  aa (IntKind.i64.wrap ((1 : Int) + y1.1))] : List V)[0 + y2.1.toNat * 1]? = some (aa 1)] (.bind true fun y3 => .ag [ao Tryz.prog 51 [aa 1, aa 1, aa 6] [] (aj.mk (.bool y3) [] [])] (bif y3 then .ag [0 <= y0.1 /\ y0.1 < 3]
  (.ag [([.str [110, 111, 116, 101], .str [112, 111, 114, 116], .str [115, 119, 105, 116, 99, 104]] : List V)[0 + y0.1.toNat * 1]? = some (.str nm)] (.bind false fun y4 => .ag [ao Tryz.prog 51 q2 [] (aj.mk (.bool y4) [] [])] (bif
  y4 then .bind (fw q4 y0.1) fun y5 => .ag [ao Tryz.prog 228 q3 [au y2.2] (aj.mk (ab aH y5.1) [au y5.2] [0])] (.bind (cw (bc (ah aR y5.2.l) (↑y5.2.k : Int) y5.2.s) y0.1) fun y6 => .ag [ao Tryz.prog 157 q3
  [au y5.2] (aj.mk (ab aT y6.1) [au y6.2] [0])] (.bind (dH (bc (ah aR y6.2.l) (↑y6.2.k : Int) y6.2.s) (jC q)) fun y7 => .ag [ao Tryz.prog 150 q1 [au y6.2, some (q, 9)] (aj.mk (.str y7.1) [au y7.2, some
  (q, 9)] [0])] (.done (aj.mk (.agg [aa 1, .str nm, .str y7.1, ab aH y5.1, ab aT y6.1, .dsl 0 false [], .dsl 0 false [], .bool false]) [au y7.2] [0])))) else .bind (cw q4 y0.1) fun y8 => .ag [ao Tryz.prog 157 q3 [au
  y2.2] (aj.mk (ab aT y8.1) [au y8.2] [0])] (.bind (dH (bc (ah aR y8.2.l) (↑y8.2.k : Int) y8.2.s) (jC q)) fun y9 => .ag [ao Tryz.prog 150 q1 [au y8.2, some (q, 9)] (aj.mk (.str y9.1) [au y9.2, some (q,
  9)] [0])] (.done (aj.mk (.agg [aa 1, .str nm, .str y9.1, .dsl 0 false [], ab aT y8.1, .dsl 0 false [], .dsl 0 false [], .bool false]) [au y9.2] [0])))))) else .bind false fun cx => .ag [ao Tryz.prog 51 q2 [] (aj.mk (.bool
  cx) [] [])] (bif cx then .bind (fw q4 y0.1) fun cj => .ag [ao Tryz.prog 228 q3 [au y2.2] (aj.mk (ab aH cj.1) [au cj.2] [0])] (.bind (cw (bc (ah aR cj.2.l) (↑cj.2.k : Int) cj.2.s) y0.1) fun dk =>
  .ag [ao Tryz.prog 157 q3 [au cj.2] (aj.mk (ab aT dk.1) [au dk.2] [0])] (.bind (dH (bc (ah aR dk.2.l) (↑dk.2.k : Int) dk.2.s) (jC q)) fun eE => .ag [ao Tryz.prog 150 q1 [au dk.2, some (q, 9)]
  (aj.mk (.str eE.1) [au eE.2, some (q, 9)] [0])] (.done (aj.mk (.agg [aa 1, .str [], .str eE.1, ab aH cj.1, ab aT dk.1, .dsl 0 false [], .dsl 0 false [], .bool false]) [au eE.2] [0])))) else .bind (cw q4 y0.1)
  fun dz => .ag [ao Tryz.prog 157 q3 [au y2.2] (aj.mk (ab aT dz.1) [au dz.2] [0])] (.bind (dH (bc (ah aR dz.2.l) (↑dz.2.k : Int) dz.2.s) (jC q)) fun gA => .ag [ao Tryz.prog 150 q1 [au dz.2,
  some (q, 9)] (aj.mk (.str gA.1) [au gA.2, some (q, 9)] [0])] (.done (aj.mk (.agg [aa 1, .str [], .str gA.1, .dsl 0 false [], ab aT dz.1, .dsl 0 false [], .dsl 0 false [], .bool false]) [au gA.2] [0])))))))))) : T _) := (T.force_eq _).symm.trans (by kernel_rfl)
theorem XH (x : Src) (nm : List UInt8) : fnT (gb 2 nm) 0 fU [.ptr 0 0] [au x] = (
 let q : List V := [aa 2, aa 2, aa 6]; .bind (aX (bc (ah aR x.l) (↑x.k : Int) x.s) (3 : Int)) fun y0 =>
 let q1 : List V := [.ptr 0 0, aa y0.1]; .ag [ao Tryz.prog 103 [.ptr 0 0, aa 3] [au x] (aj.mk (aa y0.1) [au y0.2] [0])] (.bind (aX (bc (ah aR y0.2.l) (↑y0.2.k : Int) y0.2.s) (10 : Int)) fun y1 => .ag [ao
  Tryz.prog 103 [.ptr 0 0, aa 10] [au y0.2] (aj.mk (aa y1.1) [au y1.2] [0])] (.bind (aX (bc (ah aR y1.2.l) (↑y1.2.k : Int) y1.2.s) (7 : Int)) fun y2 =>
 let q2 := bc (ah aR y2.2.l) (↑y2.2.k : Int) y2.2.s; .ag [ao Tryz.prog 103 [.ptr 0 0, aa 7] [au y1.2] (aj.mk (aa y2.1) [au y2.2] [0])] (.ag [0 <= y2.1 /\ y2.1 < 7] (.ag [([aa 1, aa 1, aa 3, aa 4, aa 2, aa 5,
  aa (IntKind.i64.wrap ((1 : Int) + y1.1))] : List V)[0 + y2.1.toNat * 1]? = some (aa 2)] (.bind true fun y3 => .ag [ao Tryz.prog 51 [aa 2, aa 1, aa 6] [] (aj.mk (.bool y3) [] [])] (bif y3 then .ag [0 <= y0.1 /\ y0.1 < 3]
  (.ag [([.str [110, 111, 116, 101], .str [112, 111, 114, 116], .str [115, 119, 105, 116, 99, 104]] : List V)[0 + y0.1.toNat * 1]? = some (.str nm)] (.bind true fun y4 => .ag [ao Tryz.prog 51 q [] (aj.mk (.bool y4) [] [])] (bif y4
  then .bind (fw q2 y0.1) fun y5 => .ag [ao Tryz.prog 228 q1 [au y2.2] (aj.mk (ab aH y5.1) [au y5.2] [0])] (.bind (lS (bc (ah aR y5.2.l) (↑y5.2.k : Int) y5.2.s) y0.1) fun y6 => .ag [ao Tryz.prog 230 q1
  [au y5.2] (aj.mk (ab aW y6.1) [au y6.2] [0])] (.done (aj.mk (.agg [aa 2, .str nm, .str [], ab aH y5.1, .dsl 0 false [], .dsl 0 false [], ab aW y6.1, .bool false]) [au y6.2] [0]))) else .bind (lS q2 y0.1) fun y7
  => .ag [ao Tryz.prog 230 q1 [au y2.2] (aj.mk (ab aW y7.1) [au y7.2] [0])] (.done (aj.mk (.agg [aa 2, .str nm, .str [], .dsl 0 false [], .dsl 0 false [], .dsl 0 false [], ab aW y7.1, .bool false]) [au y7.2]
  [0]))))) else .bind true fun y8 => .ag [ao Tryz.prog 51 q [] (aj.mk (.bool y8) [] [])] (bif y8 then .bind (fw q2 y0.1) fun y9 => .ag [ao Tryz.prog 228 q1 [au y2.2] (aj.mk (ab aH y9.1) [au y9.2] [0])] (.bind (lS
  (bc (ah aR y9.2.l) (↑y9.2.k : Int) y9.2.s) y0.1) fun cx => .ag [ao Tryz.prog 230 q1 [au y9.2] (aj.mk (ab aW cx.1) [au cx.2] [0])] (.done (aj.mk (.agg [aa 2, .str [], .str [], ab aH y9.1, .dsl 0 false
  [], .dsl 0 false [], ab aW cx.1, .bool false]) [au cx.2] [0]))) else .bind (lS q2 y0.1) fun cj => .ag [ao Tryz.prog 230 q1 [au y2.2] (aj.mk (ab aW cj.1) [au cj.2] [0])] (.done (aj.mk (.agg [aa 2, .str [],
  .str [], .dsl 0 false [], .dsl 0 false [], .dsl 0 false [], ab aW cj.1, .bool false]) [au cj.2] [0]))))))))) : T _) := (T.force_eq _).symm.trans (by kernel_rfl)
theorem XI (x : Src) (nm : List UInt8) : fnT (gb 3 nm) 0 fU [.ptr 0 0] [au x] = (
 let q : List V := [aa 3, aa 2, aa 6]; .bind (aX (bc (ah aR x.l) (↑x.k : Int) x.s) (3 : Int)) fun y0 =>
 let q1 : List V := [.ptr 0 0, aa y0.1]; .ag [ao Tryz.prog 103 [.ptr 0 0, aa 3] [au x] (aj.mk (aa y0.1) [au y0.2] [0])] (.bind (aX (bc (ah aR y0.2.l) (↑y0.2.k : Int) y0.2.s) (10 : Int)) fun y1 => .ag [ao
  Tryz.prog 103 [.ptr 0 0, aa 10] [au y0.2] (aj.mk (aa y1.1) [au y1.2] [0])] (.bind (aX (bc (ah aR y1.2.l) (↑y1.2.k : Int) y1.2.s) (7 : Int)) fun y2 =>
 let q2 := bc (ah aR y2.2.l) (↑y2.2.k : Int) y2.2.s; .ag [ao Tryz.prog 103 [.ptr 0 0, aa 7] [au y1.2] (aj.mk (aa y2.1) [au y2.2] [0])] (.ag [0 <= y2.1 /\ y2.1 < 7] (.ag [([aa 1, aa 1, aa 3, aa 4, aa 2, aa 5,
  aa (IntKind.i64.wrap ((1 : Int) + y1.1))] : List V)[0 + y2.1.toNat * 1]? = some (aa 3)] (.bind true fun y3 => .ag [ao Tryz.prog 51 [aa 3, aa 1, aa 6] [] (aj.mk (.bool y3) [] [])] (bif y3 then .ag [0 <= y0.1 /\ y0.1 < 3]
  (.ag [([.str [110, 111, 116, 101], .str [112, 111, 114, 116], .str [115, 119, 105, 116, 99, 104]] : List V)[0 + y0.1.toNat * 1]? = some (.str nm)] (.bind true fun y4 => .ag [ao Tryz.prog 51 q [] (aj.mk (.bool y4) [] [])] (bif y4
  then .bind (fw q2 y0.1) fun y5 => .ag [ao Tryz.prog 228 q1 [au y2.2] (aj.mk (ab aH y5.1) [au y5.2] [0])] (.bind (cw (bc (ah aR y5.2.l) (↑y5.2.k : Int) y5.2.s) y0.1) fun y6 => .ag [ao Tryz.prog 157 q1
  [au y5.2] (aj.mk (ab aT y6.1) [au y6.2] [0])] (.done (aj.mk (.agg [aa 3, .str nm, .str [], ab aH y5.1, ab aT y6.1, .dsl 0 false [], .dsl 0 false [], .bool false]) [au y6.2] [0]))) else .bind (cw q2 y0.1) fun y7
  => .ag [ao Tryz.prog 157 q1 [au y2.2] (aj.mk (ab aT y7.1) [au y7.2] [0])] (.done (aj.mk (.agg [aa 3, .str nm, .str [], .dsl 0 false [], ab aT y7.1, .dsl 0 false [], .dsl 0 false [], .bool false]) [au y7.2] [0])))))
  else .bind true fun y8 => .ag [ao Tryz.prog 51 q [] (aj.mk (.bool y8) [] [])] (bif y8 then .bind (fw q2 y0.1) fun y9 => .ag [ao Tryz.prog 228 q1 [au y2.2] (aj.mk (ab aH y9.1) [au y9.2] [0])] (.bind (cw (bc
  (ah aR y9.2.l) (↑y9.2.k : Int) y9.2.s) y0.1) fun cx => .ag [ao Tryz.prog 157 q1 [au y9.2] (aj.mk (ab aT cx.1) [au cx.2] [0])] (.done (aj.mk (.agg [aa 3, .str [], .str [], ab aH y9.1, ab aT cx.1, .dsl
  0 false [], .dsl 0 false [], .bool false]) [au cx.2] [0]))) else .bind (cw q2 y0.1) fun cj => .ag [ao Tryz.prog 157 q1 [au y2.2] (aj.mk (ab aT cj.1) [au cj.2] [0])] (.done (aj.mk (.agg [aa 3, .str [], .str [],
  .dsl 0 false [], ab aT cj.1, .dsl 0 false [], .dsl 0 false [], .bool false]) [au cj.2] [0]))))))))) : T _) := (T.force_eq _).symm.trans (by kernel_rfl)
theorem XJ (x : Src) (nm : List UInt8) : fnT (gb 4 nm) 0 fU [.ptr 0 0] [au x] = (
 let q : List V := [aa 0, .str [], .str [], .dsl 0 true [], .dsl 0 true [], .dsl 0 true [], .dsl 0 true [], .bool false];
 let q3 := ae aH [];
 let q1 : List V := [aa 4, .str nm, .str [], ab aH q3, .dsl 0 true [], .dsl 0 true [], .dsl 0 true [], .bool false];
 let q2 : List V := [aa 4, .str [], .str [], ab aH q3, .dsl 0 true [], .dsl 0 true [], .dsl 0 true [], .bool false];
 let q4 := blk Tryz.prog fU 1;
 let q5 : List V := [.ptr 0 0, aa 2];
 let q6 : List V := [aa 4, aa 2, aa 6]; .bind (aX (bc (ah aR x.l) (↑x.k : Int) x.s) (3 : Int)) fun y0 =>
 let q7 := ai 94 [(0, .ptr 0 0), (2, .ptr 1 0), (3, aa y0.1), (5, .ptr 2 0), (6, aa 0)]; .ag [ao Tryz.prog 103 [.ptr 0 0, aa 3] [au x] (aj.mk (aa y0.1) [au y0.2] [0])] (.bind (aX (bc (ah aR y0.2.l) (↑y0.2.k :
  Int) y0.2.s) (10 : Int)) fun y1 => .ag [ao Tryz.prog 103 [.ptr 0 0, aa 10] [au y0.2] (aj.mk (aa y1.1) [au y1.2] [0])] (.bind (aX (bc (ah aR y1.2.l) (↑y1.2.k : Int) y1.2.s) (7 : Int)) fun y2 =>
 let q8 := bc (ah aR y2.2.l) (↑y2.2.k : Int) y2.2.s; .ag [ao Tryz.prog 103 [.ptr 0 0, aa 7] [au y1.2] (aj.mk (aa y2.1) [au y2.2] [0])] (.ag [0 <= y2.1 /\ y2.1 < 7] (.ag [([aa 1, aa 1, aa 3, aa 4, aa 2, aa 5,
  aa (IntKind.i64.wrap ((1 : Int) + y1.1))] : List V)[0 + y2.1.toNat * 1]? = some (aa 4)] (.bind true fun y3 => .ag [ao Tryz.prog 51 [aa 4, aa 1, aa 6] [] (aj.mk (.bool y3) [] [])] (bif y3 then .ag [0 <= y0.1 /\ y0.1 < 3]
  (.ag [([.str [110, 111, 116, 101], .str [112, 111, 114, 116], .str [115, 119, 105, 116, 99, 104]] : List V)[0 + y0.1.toNat * 1]? = some (.str nm)] (.bind true fun y4 => .ag [ao Tryz.prog 51 q6 [] (aj.mk (.bool y4) [] [])] (bif
  y4 then .bind (fw q8 y0.1) fun y5 =>
 let br := ae aH (ah aH y5.1);
 let q9 : List V := [aa 4, .str nm, .str [], ab aH br, .dsl 0 true [], .dsl 0 true [], .dsl 0 true [], .bool false]; .ag [ao Tryz.prog 228 [.ptr 0 0, aa y0.1] [au y2.2] (aj.mk (ab aH y5.1) [au y5.2] [0])] (.bind
  (aX (bc (ah aR y5.2.l) (↑y5.2.k : Int) y5.2.s) (2 : Int)) fun y6 =>
 let ca := IntKind.i64.wrap ((1 : Int) + y6.1);
 let bD := ai 94 [(0, .ptr 0 0), (2, .ptr 1 0), (3, aa y0.1), (5, .ptr 2 0), (6, aa ca)];
 let bL := bc (ah aR y6.2.l) (↑y6.2.k : Int) y6.2.s; .ag [ao Tryz.prog 103 q5 [au y5.2] (aj.mk (aa y6.1) [au y6.2] [0])] (.bind (mtsL y0.1 ca.toNat bL []) fun y7 => .ag [St.mk bD [au y6.2, some (q, 178), some
  ([aa 4, .str nm, .str [], ab aH y5.1, .dsl 0 true [], .dsl 0 true [], .dsl 0 true [], .bool false], 178)] [0] = St.mk bD [au bL, some (q, 178), some (q9, 178)] [0], aV Tryz.prog 1 q4 (St.mk bD [au bL, some (q, 178),
  some (q9, 178)] [0]) (Ex.exit 1) (St.mk q7 [au y7.2, some (q, 178), some ([aa 4, .str nm, .str [], ab aH br, .dsl 0 true [], .sl 3 0 y7.1.length false, .dsl 0 true [], .bool false], 178), some ([.aJ (ah b8 y7.1)], 241)]
  [0])] (.done (aj.mk (.agg [aa 4, .str nm, .str [], ab aH br, .dsl 0 false [], ab b8 y7.1, .dsl 0 false [], .bool false]) [au y7.2] [0])))) else .bind (aX q8 (2 : Int)) fun y8 =>
 let fA := IntKind.i64.wrap ((1 : Int) + y8.1);
 let cU := ai 94 [(0, .ptr 0 0), (2, .ptr 1 0), (3, aa y0.1), (5, .ptr 2 0), (6, aa fA)];
 let eC := bc (ah aR y8.2.l) (↑y8.2.k : Int) y8.2.s; .ag [ao Tryz.prog 103 q5 [au y2.2] (aj.mk (aa y8.1) [au y8.2] [0])] (.bind (mtsL y0.1 fA.toNat eC []) fun y9 => .ag [St.mk cU [au y8.2, some (q, 178), some
  ([aa 4, .str nm, .str [], .dsl 0 true [], .dsl 0 true [], .dsl 0 true [], .dsl 0 true [], .bool false], 178)] [0] = St.mk cU [au eC, some (q, 178), some (q1, 178)] [0], aV Tryz.prog 1 q4 (St.mk cU [au eC, some (q, 178),
  some (q1, 178)] [0]) (Ex.exit 1) (St.mk q7 [au y9.2, some (q, 178), some ([aa 4, .str nm, .str [], ab aH q3, .dsl 0 true [], .sl 3 0 y9.1.length false, .dsl 0 true [], .bool false], 178), some ([.aJ (ah b8 y9.1)], 241)]
  [0])] (.done (aj.mk (.agg [aa 4, .str nm, .str [], ab aH q3, .dsl 0 false [], ab b8 y9.1, .dsl 0 false [], .bool false]) [au y9.2] [0])))))) else .bind true fun cx => .ag [ao Tryz.prog 51 q6 [] (aj.mk (.bool cx) []
  [])] (bif cx then .bind (fw q8 y0.1) fun cj =>
 let jZ := ae aH (ah aH cj.1);
 let fB : List V := [aa 4, .str [], .str [], ab aH jZ, .dsl 0 true [], .dsl 0 true [], .dsl 0 true [], .bool false]; .ag [ao Tryz.prog 228 [.ptr 0 0, aa y0.1] [au y2.2] (aj.mk (ab aH cj.1) [au cj.2] [0])] (.bind
  (aX (bc (ah aR cj.2.l) (↑cj.2.k : Int) cj.2.s) (2 : Int)) fun dk =>
 let jz := IntKind.i64.wrap ((1 : Int) + dk.1);
 let jy := ai 94 [(0, .ptr 0 0), (2, .ptr 1 0), (3, aa y0.1), (5, .ptr 2 0), (6, aa jz)];
 let fC := bc (ah aR dk.2.l) (↑dk.2.k : Int) dk.2.s; .ag [ao Tryz.prog 103 q5 [au cj.2] (aj.mk (aa dk.1) [au dk.2] [0])] (.bind (mtsL y0.1 jz.toNat fC []) fun eE => .ag [St.mk jy [au dk.2, some (q,
  178), some ([aa 4, .str [], .str [], ab aH cj.1, .dsl 0 true [], .dsl 0 true [], .dsl 0 true [], .bool false], 178)] [0] = St.mk jy [au fC, some (q, 178), some (fB, 178)] [0], aV Tryz.prog 1 q4 (St.mk jy [au fC,
  some (q, 178), some (fB, 178)] [0]) (Ex.exit 1) (St.mk q7 [au eE.2, some (q, 178), some ([aa 4, .str [], .str [], ab aH jZ, .dsl 0 true [], .sl 3 0 eE.1.length false, .dsl 0 true [], .bool false], 178), some ([.aJ (ah
  b8 eE.1)], 241)] [0])] (.done (aj.mk (.agg [aa 4, .str [], .str [], ab aH jZ, .dsl 0 false [], ab b8 eE.1, .dsl 0 false [], .bool false]) [au eE.2] [0])))) else .bind (aX q8 (2 : Int)) fun dz =>
 let lV := IntKind.i64.wrap ((1 : Int) + dz.1);
 let kz := ai 94 [(0, .ptr 0 0), (2, .ptr 1 0), (3, aa y0.1), (5, .ptr 2 0), (6, aa lV)];
 let j0 := bc (ah aR dz.2.l) (↑dz.2.k : Int) dz.2.s; .ag [ao Tryz.prog 103 q5 [au y2.2] (aj.mk (aa dz.1) [au dz.2] [0])] (.bind (mtsL y0.1 lV.toNat j0 []) fun gA => .ag [St.mk kz [au dz.2, some (q, 178),
  some ([aa 4, .str [], .str [], .dsl 0 true [], .dsl 0 true [], .dsl 0 true [], .dsl 0 true [], .bool false], 178)] [0] = St.mk kz [au j0, some (q, 178), some (q2, 178)] [0], aV Tryz.prog 1 q4 (St.mk kz [au j0, some (q,
  178), some (q2, 178)] [0]) (Ex.exit 1) (St.mk q7 [au gA.2, some (q, 178), some ([aa 4, .str [], .str [], ab aH q3, .dsl 0 true [], .sl 3 0 gA.1.length false, .dsl 0 true [], .bool false], 178), some ([.aJ (ah b8
  gA.1)], 241)] [0])] (.done (aj.mk (.agg [aa 4, .str [], .str [], ab aH q3, .dsl 0 false [], ab b8 gA.1, .dsl 0 false [], .bool false]) [au gA.2] [0])))))))))) : T _) := (T.force_eq _).symm.trans (by kernel_rfl)
theorem XK (x : Src) (nm : List UInt8) : fnT (gb 5 nm) 0 fU [.ptr 0 0] [au x] = (
 let q : List V := [aa 5, aa 2, aa 6]; .bind (aX (bc (ah aR x.l) (↑x.k : Int) x.s) (3 : Int)) fun y0 => .ag [ao Tryz.prog 103 [.ptr 0 0, aa 3] [au x] (aj.mk (aa y0.1) [au y0.2] [0])] (.bind (aX (bc (ah
  aR y0.2.l) (↑y0.2.k : Int) y0.2.s) (10 : Int)) fun y1 => .ag [ao Tryz.prog 103 [.ptr 0 0, aa 10] [au y0.2] (aj.mk (aa y1.1) [au y1.2] [0])] (.bind (aX (bc (ah aR y1.2.l) (↑y1.2.k : Int) y1.2.s) (7 : Int))
  fun y2 =>
 let q1 := fw (bc (ah aR y2.2.l) (↑y2.2.k : Int) y2.2.s) y0.1; .ag [ao Tryz.prog 103 [.ptr 0 0, aa 7] [au y1.2] (aj.mk (aa y2.1) [au y2.2] [0])] (.ag [0 <= y2.1 /\ y2.1 < 7] (.ag [([aa 1, aa 1, aa 3, aa 4,
  aa 2, aa 5, aa (IntKind.i64.wrap ((1 : Int) + y1.1))] : List V)[0 + y2.1.toNat * 1]? = some (aa 5)] (.bind true fun y3 => .ag [ao Tryz.prog 51 [aa 5, aa 1, aa 6] [] (aj.mk (.bool y3) [] [])] (bif y3 then .ag [0 <= y0.1 /\
  y0.1 < 3] (.ag [([.str [110, 111, 116, 101], .str [112, 111, 114, 116], .str [115, 119, 105, 116, 99, 104]] : List V)[0 + y0.1.toNat * 1]? = some (.str nm)] (.bind true fun y4 => .ag [ao Tryz.prog 51 q [] (aj.mk (.bool y4) []
  [])] (bif y4 then .bind q1 fun y5 => .ag [ao Tryz.prog 228 [.ptr 0 0, aa y0.1] [au y2.2] (aj.mk (ab aH y5.1) [au y5.2] [0])] (.done (aj.mk (.agg [aa 5, .str nm, .str [], ab aH y5.1, .dsl 0 false [], .dsl 0 false
  [], .dsl 0 false [], .bool false]) [au y5.2] [0])) else .done (aj.mk (.agg [aa 5, .str nm, .str [], .dsl 0 false [], .dsl 0 false [], .dsl 0 false [], .dsl 0 false [], .bool false]) [au y2.2] [0])))) else .bind true fun y6 =>
  .ag [ao Tryz.prog 51 q [] (aj.mk (.bool y6) [] [])] (bif y6 then .bind q1 fun y7 => .ag [ao Tryz.prog 228 [.ptr 0 0, aa y0.1] [au y2.2] (aj.mk (ab aH y7.1) [au y7.2] [0])] (.done (aj.mk (.agg [aa 5, .str [], .str
  [], ab aH y7.1, .dsl 0 false [], .dsl 0 false [], .dsl 0 false [], .bool false]) [au y7.2] [0])) else .done (aj.mk (.agg [aa 5, .str [], .str [], .dsl 0 false [], .dsl 0 false [], .dsl 0 false [], .dsl 0 false [], .bool
  false]) [au y2.2] [0])))))))) : T _) := (T.force_eq _).symm.trans (by kernel_rfl)
theorem XL (x : Src) (nm : List UInt8) : fnT (gb 6 nm) 0 fU [.ptr 0 0] [au x] = (
 let q : List V := [.ptr 0 0, aa 2];
 let q1 : List V := [aa 6, aa 2, aa 6]; .bind (aX (bc (ah aR x.l) (↑x.k : Int) x.s) (3 : Int)) fun y0 =>
 let q2 : List V := [.ptr 0 0, aa y0.1]; .ag [ao Tryz.prog 103 [.ptr 0 0, aa 3] [au x] (aj.mk (aa y0.1) [au y0.2] [0])] (.bind (aX (bc (ah aR y0.2.l) (↑y0.2.k : Int) y0.2.s) (10 : Int)) fun y1 => .ag [ao
  Tryz.prog 103 [.ptr 0 0, aa 10] [au y0.2] (aj.mk (aa y1.1) [au y1.2] [0])] (.bind (aX (bc (ah aR y1.2.l) (↑y1.2.k : Int) y1.2.s) (7 : Int)) fun y2 =>
 let q3 := bc (ah aR y2.2.l) (↑y2.2.k : Int) y2.2.s; .ag [ao Tryz.prog 103 [.ptr 0 0, aa 7] [au y1.2] (aj.mk (aa y2.1) [au y2.2] [0])] (.ag [0 <= y2.1 /\ y2.1 < 7] (.ag [([aa 1, aa 1, aa 3, aa 4, aa 2, aa 5,
  aa (IntKind.i64.wrap ((1 : Int) + y1.1))] : List V)[0 + y2.1.toNat * 1]? = some (aa 6)] (.bind true fun y3 => .ag [ao Tryz.prog 51 [aa 6, aa 1, aa 6] [] (aj.mk (.bool y3) [] [])] (bif y3 then .ag [0 <= y0.1 /\ y0.1 < 3]
  (.ag [([.str [110, 111, 116, 101], .str [112, 111, 114, 116], .str [115, 119, 105, 116, 99, 104]] : List V)[0 + y0.1.toNat * 1]? = some (.str nm)] (.bind true fun y4 => .ag [ao Tryz.prog 51 q1 [] (aj.mk (.bool y4) [] [])] (bif
  y4 then .bind (fw q3 y0.1) fun y5 => .ag [ao Tryz.prog 228 q2 [au y2.2] (aj.mk (ab aH y5.1) [au y5.2] [0])] (.bind (cw (bc (ah aR y5.2.l) (↑y5.2.k : Int) y5.2.s) y0.1) fun y6 => .ag [ao Tryz.prog 157 q2
  [au y5.2] (aj.mk (ab aT y6.1) [au y6.2] [0])] (.bind (bo (bc (ah aR y6.2.l) (↑y6.2.k : Int) y6.2.s) (2 : Int)) fun y7 => .ag [ao Tryz.prog 105 q [au y6.2] (aj.mk (.bool y7.1) [au y7.2] [0])] (.done
  (aj.mk (.agg [aa 6, .str nm, .str [], ab aH y5.1, ab aT y6.1, .dsl 0 false [], .dsl 0 false [], .bool y7.1]) [au y7.2] [0])))) else .bind (cw q3 y0.1) fun y8 => .ag [ao Tryz.prog 157 q2 [au y2.2] (aj.mk (ab aT
  y8.1) [au y8.2] [0])] (.bind (bo (bc (ah aR y8.2.l) (↑y8.2.k : Int) y8.2.s) (2 : Int)) fun y9 => .ag [ao Tryz.prog 105 q [au y8.2] (aj.mk (.bool y9.1) [au y9.2] [0])] (.done (aj.mk (.agg [aa 6, .str nm, .str
  [], .dsl 0 false [], ab aT y8.1, .dsl 0 false [], .dsl 0 false [], .bool y9.1]) [au y9.2] [0])))))) else .bind true fun cx => .ag [ao Tryz.prog 51 q1 [] (aj.mk (.bool cx) [] [])] (bif cx then .bind (fw q3 y0.1) fun cj
  => .ag [ao Tryz.prog 228 q2 [au y2.2] (aj.mk (ab aH cj.1) [au cj.2] [0])] (.bind (cw (bc (ah aR cj.2.l) (↑cj.2.k : Int) cj.2.s) y0.1) fun dk => .ag [ao Tryz.prog 157 q2 [au cj.2] (aj.mk (ab
  aT dk.1) [au dk.2] [0])] (.bind (bo (bc (ah aR dk.2.l) (↑dk.2.k : Int) dk.2.s) (2 : Int)) fun eE => .ag [ao Tryz.prog 105 q [au dk.2] (aj.mk (.bool eE.1) [au eE.2] [0])] (.done (aj.mk (.agg [aa
  6, .str [], .str [], ab aH cj.1, ab aT dk.1, .dsl 0 false [], .dsl 0 false [], .bool eE.1]) [au eE.2] [0])))) else .bind (cw q3 y0.1) fun dz => .ag [ao Tryz.prog 157 q2 [au y2.2] (aj.mk (ab aT dz.1) [au
  dz.2] [0])] (.bind (bo (bc (ah aR dz.2.l) (↑dz.2.k : Int) dz.2.s) (2 : Int)) fun gA => .ag [ao Tryz.prog 105 q [au dz.2] (aj.mk (.bool gA.1) [au gA.2] [0])] (.done (aj.mk (.agg [aa 6, .str [], .str [],
  .dsl 0 false [], ab aT dz.1, .dsl 0 false [], .dsl 0 false [], .bool gA.1]) [au gA.2] [0])))))))))) : T _) := (T.force_eq _).symm.trans (by kernel_rfl)
theorem XM (x : Src) (nm : List UInt8) : fnT (gb 7 nm) 0 fU [.ptr 0 0] [au x] = (
 let q : List V := [aa 7, aa 2, aa 6]; .bind (aX (bc (ah aR x.l) (↑x.k : Int) x.s) (3 : Int)) fun y0 => .ag [ao Tryz.prog 103 [.ptr 0 0, aa 3] [au x] (aj.mk (aa y0.1) [au y0.2] [0])] (.bind (aX (bc (ah
  aR y0.2.l) (↑y0.2.k : Int) y0.2.s) (10 : Int)) fun y1 => .ag [ao Tryz.prog 103 [.ptr 0 0, aa 10] [au y0.2] (aj.mk (aa y1.1) [au y1.2] [0])] (.bind (aX (bc (ah aR y1.2.l) (↑y1.2.k : Int) y1.2.s) (7 : Int))
  fun y2 =>
 let q1 := fw (bc (ah aR y2.2.l) (↑y2.2.k : Int) y2.2.s) y0.1; .ag [ao Tryz.prog 103 [.ptr 0 0, aa 7] [au y1.2] (aj.mk (aa y2.1) [au y2.2] [0])] (.ag [0 <= y2.1 /\ y2.1 < 7] (.ag [([aa 1, aa 1, aa 3, aa 4,
  aa 2, aa 5, aa (IntKind.i64.wrap ((1 : Int) + y1.1))] : List V)[0 + y2.1.toNat * 1]? = some (aa 7)] (.bind false fun y3 => .ag [ao Tryz.prog 51 [aa 7, aa 1, aa 6] [] (aj.mk (.bool y3) [] [])] (bif y3 then .ag [0 <= y0.1 /\
  y0.1 < 3] (.ag [([.str [110, 111, 116, 101], .str [112, 111, 114, 116], .str [115, 119, 105, 116, 99, 104]] : List V)[0 + y0.1.toNat * 1]? = some (.str nm)] (.bind false fun y4 => .ag [ao Tryz.prog 51 q [] (aj.mk (.bool y4) []
  [])] (bif y4 then .bind q1 fun y5 => .ag [ao Tryz.prog 228 [.ptr 0 0, aa y0.1] [au y2.2] (aj.mk (ab aH y5.1) [au y5.2] [0])] (.done (aj.mk (.agg [aa 7, .str nm, .str [], ab aH y5.1, .dsl 0 false [], .dsl 0 false
  [], .dsl 0 false [], .bool false]) [au y5.2] [0])) else .done (aj.mk (.agg [aa 7, .str nm, .str [], .dsl 0 false [], .dsl 0 false [], .dsl 0 false [], .dsl 0 false [], .bool false]) [au y2.2] [0])))) else .bind false fun y6 =>
  .ag [ao Tryz.prog 51 q [] (aj.mk (.bool y6) [] [])] (bif y6 then .bind q1 fun y7 => .ag [ao Tryz.prog 228 [.ptr 0 0, aa y0.1] [au y2.2] (aj.mk (ab aH y7.1) [au y7.2] [0])] (.done (aj.mk (.agg [aa 7, .str [], .str
  [], ab aH y7.1, .dsl 0 false [], .dsl 0 false [], .dsl 0 false [], .bool false]) [au y7.2] [0])) else .done (aj.mk (.agg [aa 7, .str [], .str [], .dsl 0 false [], .dsl 0 false [], .dsl 0 false [], .dsl 0 false [], .bool
  false]) [au y2.2] [0])))))))) : T _) := (T.force_eq _).symm.trans (by kernel_rfl)
theorem XN (x : Src) (nm : List UInt8) : fnT (gb 8 nm) 0 fU [.ptr 0 0] [au x] = (
 let q : List V := [aa 8, aa 2, aa 6]; .bind (aX (bc (ah aR x.l) (↑x.k : Int) x.s) (3 : Int)) fun y0 => .ag [ao Tryz.prog 103 [.ptr 0 0, aa 3] [au x] (aj.mk (aa y0.1) [au y0.2] [0])] (.bind (aX (bc (ah
  aR y0.2.l) (↑y0.2.k : Int) y0.2.s) (10 : Int)) fun y1 => .ag [ao Tryz.prog 103 [.ptr 0 0, aa 10] [au y0.2] (aj.mk (aa y1.1) [au y1.2] [0])] (.bind (aX (bc (ah aR y1.2.l) (↑y1.2.k : Int) y1.2.s) (7 : Int))
  fun y2 =>
 let q1 := fw (bc (ah aR y2.2.l) (↑y2.2.k : Int) y2.2.s) y0.1; .ag [ao Tryz.prog 103 [.ptr 0 0, aa 7] [au y1.2] (aj.mk (aa y2.1) [au y2.2] [0])] (.ag [0 <= y2.1 /\ y2.1 < 7] (.ag [([aa 1, aa 1, aa 3, aa 4,
  aa 2, aa 5, aa (IntKind.i64.wrap ((1 : Int) + y1.1))] : List V)[0 + y2.1.toNat * 1]? = some (aa 8)] (.bind false fun y3 => .ag [ao Tryz.prog 51 [aa 8, aa 1, aa 6] [] (aj.mk (.bool y3) [] [])] (bif y3 then .ag [0 <= y0.1 /\
  y0.1 < 3] (.ag [([.str [110, 111, 116, 101], .str [112, 111, 114, 116], .str [115, 119, 105, 116, 99, 104]] : List V)[0 + y0.1.toNat * 1]? = some (.str nm)] (.bind false fun y4 => .ag [ao Tryz.prog 51 q [] (aj.mk (.bool y4) []
  [])] (bif y4 then .bind q1 fun y5 => .ag [ao Tryz.prog 228 [.ptr 0 0, aa y0.1] [au y2.2] (aj.mk (ab aH y5.1) [au y5.2] [0])] (.done (aj.mk (.agg [aa 8, .str nm, .str [], ab aH y5.1, .dsl 0 false [], .dsl 0 false
  [], .dsl 0 false [], .bool false]) [au y5.2] [0])) else .done (aj.mk (.agg [aa 8, .str nm, .str [], .dsl 0 false [], .dsl 0 false [], .dsl 0 false [], .dsl 0 false [], .bool false]) [au y2.2] [0])))) else .bind false fun y6 =>
  .ag [ao Tryz.prog 51 q [] (aj.mk (.bool y6) [] [])] (bif y6 then .bind q1 fun y7 => .ag [ao Tryz.prog 228 [.ptr 0 0, aa y0.1] [au y2.2] (aj.mk (ab aH y7.1) [au y7.2] [0])] (.done (aj.mk (.agg [aa 8, .str [], .str
  [], ab aH y7.1, .dsl 0 false [], .dsl 0 false [], .dsl 0 false [], .bool false]) [au y7.2] [0])) else .done (aj.mk (.agg [aa 8, .str [], .str [], .dsl 0 false [], .dsl 0 false [], .dsl 0 false [], .dsl 0 false [], .bool
  false]) [au y2.2] [0])))))))) : T _) := (T.force_eq _).symm.trans (by kernel_rfl)
theorem XO (x : Src) (nm : List UInt8) : fnT (gb 9 nm) 0 fU [.ptr 0 0] [au x] = (
 let q : List V := [aa 9, aa 2, aa 6]; .bind (aX (bc (ah aR x.l) (↑x.k : Int) x.s) (3 : Int)) fun y0 => .ag [ao Tryz.prog 103 [.ptr 0 0, aa 3] [au x] (aj.mk (aa y0.1) [au y0.2] [0])] (.bind (aX (bc (ah
  aR y0.2.l) (↑y0.2.k : Int) y0.2.s) (10 : Int)) fun y1 => .ag [ao Tryz.prog 103 [.ptr 0 0, aa 10] [au y0.2] (aj.mk (aa y1.1) [au y1.2] [0])] (.bind (aX (bc (ah aR y1.2.l) (↑y1.2.k : Int) y1.2.s) (7 : Int))
  fun y2 =>
 let q1 := fw (bc (ah aR y2.2.l) (↑y2.2.k : Int) y2.2.s) y0.1; .ag [ao Tryz.prog 103 [.ptr 0 0, aa 7] [au y1.2] (aj.mk (aa y2.1) [au y2.2] [0])] (.ag [0 <= y2.1 /\ y2.1 < 7] (.ag [([aa 1, aa 1, aa 3, aa 4,
  aa 2, aa 5, aa (IntKind.i64.wrap ((1 : Int) + y1.1))] : List V)[0 + y2.1.toNat * 1]? = some (aa 9)] (.bind false fun y3 => .ag [ao Tryz.prog 51 [aa 9, aa 1, aa 6] [] (aj.mk (.bool y3) [] [])] (bif y3 then .ag [0 <= y0.1 /\
  y0.1 < 3] (.ag [([.str [110, 111, 116, 101], .str [112, 111, 114, 116], .str [115, 119, 105, 116, 99, 104]] : List V)[0 + y0.1.toNat * 1]? = some (.str nm)] (.bind false fun y4 => .ag [ao Tryz.prog 51 q [] (aj.mk (.bool y4) []
  [])] (bif y4 then .bind q1 fun y5 => .ag [ao Tryz.prog 228 [.ptr 0 0, aa y0.1] [au y2.2] (aj.mk (ab aH y5.1) [au y5.2] [0])] (.done (aj.mk (.agg [aa 9, .str nm, .str [115, 97, 105, 100], ab aH y5.1, .dsl 0 false
  [], .dsl 0 false [], .dsl 0 false [], .bool false]) [au y5.2] [0])) else .done (aj.mk (.agg [aa 9, .str nm, .str [115, 97, 105, 100], .dsl 0 false [], .dsl 0 false [], .dsl 0 false [], .dsl 0 false [], .bool false]) [au y2.2]
  [0])))) else .bind false fun y6 => .ag [ao Tryz.prog 51 q [] (aj.mk (.bool y6) [] [])] (bif y6 then .bind q1 fun y7 => .ag [ao Tryz.prog 228 [.ptr 0 0, aa y0.1] [au y2.2] (aj.mk (ab aH y7.1) [au y7.2] [0])] (.done
  (aj.mk (.agg [aa 9, .str [], .str [115, 97, 105, 100], ab aH y7.1, .dsl 0 false [], .dsl 0 false [], .dsl 0 false [], .bool false]) [au y7.2] [0])) else .done (aj.mk (.agg [aa 9, .str [], .str [115, 97, 105, 100], .dsl 0
  false [], .dsl 0 false [], .dsl 0 false [], .dsl 0 false [], .bool false]) [au y2.2] [0])))))))) : T _) := (T.force_eq _).symm.trans (by kernel_rfl)
theorem XG (x : Src) (nm : List UInt8) : fnT (gb 10 nm) 0 fU [.ptr 0 0] [au x] = (
 let q : List V := [.str [108, 111, 99, 107], .str [111, 116, 104, 101, 114]];
 let q1 : List V := [.ptr 0 0, .sl 1 0 2 true];
 let q2 : List V := [aa 10, aa 2, aa 6]; .bind (aX (bc (ah aR x.l) (↑x.k : Int) x.s) (3 : Int)) fun y0 => .ag [ao Tryz.prog 103 [.ptr 0 0, aa 3] [au x] (aj.mk (aa y0.1) [au y0.2] [0])] (.bind (aX (bc (ah
  aR y0.2.l) (↑y0.2.k : Int) y0.2.s) (10 : Int)) fun y1 => .ag [ao Tryz.prog 103 [.ptr 0 0, aa 10] [au y0.2] (aj.mk (aa y1.1) [au y1.2] [0])] (.bind (aX (bc (ah aR y1.2.l) (↑y1.2.k : Int) y1.2.s) (7 : Int))
  fun y2 =>
 let q3 := bc (ah aR y2.2.l) (↑y2.2.k : Int) y2.2.s; .ag [ao Tryz.prog 103 [.ptr 0 0, aa 7] [au y1.2] (aj.mk (aa y2.1) [au y2.2] [0])] (.ag [0 <= y2.1 /\ y2.1 < 7] (.ag [([aa 1, aa 1, aa 3, aa 4, aa 2, aa 5,
  aa (IntKind.i64.wrap ((1 : Int) + y1.1))] : List V)[0 + y2.1.toNat * 1]? = some (aa 10)] (.bind false fun y3 => .ag [ao Tryz.prog 51 [aa 10, aa 1, aa 6] [] (aj.mk (.bool y3) [] [])] (bif y3 then .ag [0 <= y0.1 /\ y0.1 < 3]
  (.ag [([.str [110, 111, 116, 101], .str [112, 111, 114, 116], .str [115, 119, 105, 116, 99, 104]] : List V)[0 + y0.1.toNat * 1]? = some (.str nm)] (.bind false fun y4 => .ag [ao Tryz.prog 51 q2 [] (aj.mk (.bool y4) [] [])] (bif
  y4 then .bind (fw q3 y0.1) fun y5 => .ag [ao Tryz.prog 228 [.ptr 0 0, aa y0.1] [au y2.2] (aj.mk (ab aH y5.1) [au y5.2] [0])] (.bind (dH (bc (ah aR y5.2.l) (↑y5.2.k : Int) y5.2.s) (jC q)) fun y6 =>
  .ag [ao Tryz.prog 150 q1 [au y5.2, some (q, 9)] (aj.mk (.str y6.1) [au y6.2, some (q, 9)] [0])] (.done (aj.mk (.agg [aa 10, .str nm, .str y6.1, ab aH y5.1, .dsl 0 false [], .dsl 0 false [], .dsl 0 false [], .bool
  false]) [au y6.2] [0]))) else .bind (dH q3 (jC q)) fun y7 => .ag [ao Tryz.prog 150 q1 [au y2.2, some (q, 9)] (aj.mk (.str y7.1) [au y7.2, some (q, 9)] [0])] (.done (aj.mk (.agg [aa 10, .str nm, .str y7.1, .dsl 0
  false [], .dsl 0 false [], .dsl 0 false [], .dsl 0 false [], .bool false]) [au y7.2] [0]))))) else .bind false fun y8 => .ag [ao Tryz.prog 51 q2 [] (aj.mk (.bool y8) [] [])] (bif y8 then .bind (fw q3 y0.1) fun y9 => .ag
  [ao Tryz.prog 228 [.ptr 0 0, aa y0.1] [au y2.2] (aj.mk (ab aH y9.1) [au y9.2] [0])] (.bind (dH (bc (ah aR y9.2.l) (↑y9.2.k : Int) y9.2.s) (jC q)) fun cx => .ag [ao Tryz.prog 150 q1 [au y9.2, some
  (q, 9)] (aj.mk (.str cx.1) [au cx.2, some (q, 9)] [0])] (.done (aj.mk (.agg [aa 10, .str [], .str cx.1, ab aH y9.1, .dsl 0 false [], .dsl 0 false [], .dsl 0 false [], .bool false]) [au cx.2] [0]))) else .bind (dH q3
  (jC q)) fun cj => .ag [ao Tryz.prog 150 q1 [au y2.2, some (q, 9)] (aj.mk (.str cj.1) [au cj.2, some (q, 9)] [0])] (.done (aj.mk (.agg [aa 10, .str [], .str cj.1, .dsl 0 false [], .dsl 0 false [], .dsl 0 false [],
  .dsl 0 false [], .bool false]) [au cj.2] [0]))))))))) : T _) := (T.force_eq _).symm.trans (by kernel_rfl)
def dc (t : Int) : List UInt8 := ([[110, 111, 116, 101], [112, 111, 114, 116], [115, 119, 105, 116, 99, 104]] : List (List UInt8)).getD t.toNat []
def pq : List (List UInt8) := [[], [112], [113]]
def tH : List (List UInt8) := [[108, 111, 99, 107], [111, 116, 104, 101, 114]]
inductive fP : Op' -> Prop
 | ins (t : Int) (row : List Sx) (nm : List UInt8) (ht : 0 <= t /\ t < 3) (hr : ∀ s ∈ row, ln (de t) s) (hl : row.length <= 3) (hn : nm ∈ pq) : fP ⟨1, dc t, nm, [], row, [], [], false⟩
 | Mw (t : Int) (bC : List a6) (aw : List (List UInt8)) (ht : 0 <= t /\ t < 3) (hw : ∀ q ∈ bC, gO (de t) q) (jU : bC.length <= 2) (hc : ∀ n ∈ aw, n = ld \/ ∃ q ∈ (de t).aw, n = q.name) (hl : aw.length <= 4) : fP ⟨2, dc t, [], bC, [], [], aw, false⟩
 | Nu (t : Int) (bC : List a6) (row : List Sx) (ht : 0 <= t /\ t < 3) (hw : ∀ q ∈ bC, gO (de t) q) (jU : bC.length <= 2) (hr : ∀ s ∈ row, ln (de t) s) (hl : row.length <= 3) : fP ⟨3, dc t, [], bC, row, [], [], false⟩
 | mut (t : Int) (bC : List a6) (db : List Mt) (ht : 0 <= t /\ t < 3) (hw : ∀ q ∈ bC, gO (de t) q) (jU : bC.length <= 2) (hm : ∀ m ∈ db, ke (de t) m) (hl : db.length <= 2) : fP ⟨4, dc t, [], bC, [], db, [], false⟩
 | del (t : Int) (bC : List a6) (ht : 0 <= t /\ t < 3) (hw : ∀ q ∈ bC, gO (de t) q) (jU : bC.length <= 2) : fP ⟨5, dc t, [], bC, [], [], [], false⟩
 | wait (t : Int) (bC : List a6) (row : List Sx) (b : Bool) (ht : 0 <= t /\ t < 3) (hw : ∀ q ∈ bC, gO (de t) q) (jU : bC.length <= 2) (hr : ∀ s ∈ row, ln (de t) s) (hl : row.length <= 3) : fP ⟨6, dc t, [], bC, row, [], [], b⟩
 | G7 : fP ⟨7, [], [], [], [], [], [], false⟩
 | Gl : fP ⟨8, [], [], [], [], [], [], false⟩
 | Mp : fP ⟨9, [], [115, 97, 105, 100], [], [], [], [], false⟩
 | Gn (nm : List UInt8) (hn : nm ∈ tH) : fP ⟨10, [], nm, [], [], [], [], false⟩
def kH (c : Nat) (x : Src) : Prop := ∃ o x', ao Tryz.prog fU [.ptr 0 0] [au x] ⟨.agg (aY o), [au x'], [0]⟩ /\ fP o /\ x'.OK c
def NY (c : Nat) (r : aj) : Prop := ∃ o x', r = ⟨.agg (aY o), [au x'], [0]⟩ /\ fP o /\ x'.OK c
theorem mL {c : Nat} {x : Src} (h : ∃ r, ao Tryz.prog fU [.ptr 0 0] [au x] r /\ NY c r) : kH c x := by
 obtain ⟨r, h1, o, x', rfl, h2, h3⟩ := h
 exact ⟨o, x', h1, h2, h3⟩
def ff (y1 y2 : Int) : Int := ([1, 1, 3, 4, 2, 5, 1 + y1] : List Int).getD y2.toNat 0
theorem lQ (y1 y2 : Int) (h1 : 0 <= y1 /\ y1 < 10) (h2 : 0 <= y2 /\ y2 < 7) : ([V.int .i64 1, .int .i64 1, .int .i64 3, .int .i64 4, .int .i64 2, .int .i64 5, .int .i64 (IntKind.i64.wrap (1 + y1))] : List V)[0 + y2.toNat * 1]? = some (.int .i64 (ff y1 y2)) /\ 1 <= ff y1 y2 /\ ff y1 y2 <= 10 := by
 have w : IntKind.i64.wrap (1 + y1) = 1 + y1 := cQ af
 rw [w]
 have : y2 = 0 \/ y2 = 1 \/ y2 = 2 \/ y2 = 3 \/ y2 = 4 \/ y2 = 5 \/ y2 = 6 := af
 rcases this with rfl | rfl | rfl | rfl | rfl | rfl | rfl
 all_goals refine ⟨rfl, ?_, ?_⟩ <;> first | (simp [ff]; done) | (simp [ff]; omega)
theorem mJ (y0 : Int) (h : 0 <= y0 /\ y0 < 3) : ([V.str [110, 111, 116, 101], .str [112, 111, 114, 116], .str [115, 119, 105, 116, 99, 104]] : List V)[0 + y0.toNat * 1]? = some (.str (dc y0)) := by
 have : y0 = 0 \/ y0 = 1 \/ y0 = 2 := af
 rcases this with rfl | rfl | rfl <;> rfl
theorem lO (n lo hi : Int) (h : lo <= n /\ n <= hi) : ao Tryz.prog mm [.int .i64 n, .int .i64 lo, .int .i64 hi] [] ⟨.bool true, [], []⟩ := by
 have := ja n lo hi
 rwa [decide_eq_true h.1, decide_eq_true h.2] at this
theorem nI (n lo hi : Int) (h : ¬ (lo <= n /\ n <= hi)) : ao Tryz.prog mm [.int .i64 n, .int .i64 lo, .int .i64 hi] [] ⟨.bool false, [], []⟩ := by
 have := ja n lo hi
 rwa [show (decide (lo <= n) && decide (n <= hi)) = false by rw [<- Bool.not_eq_true, Bool.and_eq_true, decide_eq_true_eq, decide_eq_true_eq]; exact h] at this
section
variable {x : Src} {c : Nat} {y0 y1 y2 : Int × Src} (e0 : aX x 3 = y0) (e1 : aX y0.2 10 = y1) (e2 : aX y1.2 7 = y2)
 (n0 : ao Tryz.prog kh [.ptr 0 0, .int .i64 3] [au x] ⟨.int .i64 y0.1, [au y0.2], [0]⟩)
 (n1 : ao Tryz.prog kh [.ptr 0 0, .int .i64 10] [au y0.2] ⟨.int .i64 y1.1, [au y1.2], [0]⟩)
 (n2 : ao Tryz.prog kh [.ptr 0 0, .int .i64 7] [au y1.2] ⟨.int .i64 y2.1, [au y2.2], [0]⟩)
 (b0 : 0 <= y0.1 /\ y0.1 < 3) (b1 : 0 <= y1.1 /\ y1.1 < 10) (b2 : 0 <= y2.1 /\ y2.1 < 7) (o2 : y2.2.OK (c + 210))
include e0 e1 e2 n0 n1 n2 b0 b1 b2 o2
theorem XR (hv : ff y1.1 y2.1 = 1) : kH c x := by
 have hl := (lQ y1.1 y2.1 b1 b2).1
 rw [hv] at hl
 have eG := mJ y0.1 b0
 refine mL ?_
 refine ki (E := gb 1 (dc y0.1)) follows named (XF x (dc y0.1)) ?_
 simp only [az, T.WP, All, aA, dF]
 rw [e0]
 intro z e
 rw [e, e1]
 clear e z
 refine ⟨n0, ?_⟩
 intro z e
 rw [e, e2]
 clear e z
 refine ⟨n1, ?_⟩
 intro z e
 rw [e]
 clear e z
 refine ⟨n2, ⟨b2.1, b2.2⟩, hl, ?_⟩
 clear hl n0 n1 n2 e0 e1 e2
 rintro _ rfl
 refine ⟨lO 1 1 6 af, fun _ => ?_, (fun h => by cases h)⟩
 refine ⟨⟨b0.1, b0.2⟩, eG, ?_⟩
 rintro _ rfl
 refine ⟨nI 1 2 6 af, (fun h => by cases h), fun _ => ?_⟩
 have gj := (xb b0 (x := y2.2) (c := c + 129) (o2.less af)).1
 have di := rO b0 (x := y2.2) (c := c + 129) (o2.less af)
 rintro y3 e
 rw [<- e] at gj di
 clear e
 refine ⟨gj, ?_⟩
 have lB := zF (c := c + 126) y3.2 pq true rfl rfl rfl (di.2.2.2.less af)
 have fm := rj (x := y3.2) (L := pq) (c := c + 126) (di.2.2.2.less af) (by simp [pq])
 rintro y4 e
 have e : y4 = dH y3.2 pq := e
 rw [<- e] at lB fm
 clear e
 refine ⟨lB, ?_⟩
 exact ⟨⟨1, dc y0.1, y4.1, [], y3.1, [], [], false⟩, y4.2, rfl, .ins y0.1 _ _ b0 di.1 di.2.1 fm.2, fm.1.less af⟩
theorem XT (hv : ff y1.1 y2.1 = 2) : kH c x := by
 have hl := (lQ y1.1 y2.1 b1 b2).1
 rw [hv] at hl
 have eG := mJ y0.1 b0
 refine mL ?_
 refine ki (E := gb 2 (dc y0.1)) follows named (XH x (dc y0.1)) ?_
 simp only [az, T.WP, All, aA, dF]
 rw [e0]
 intro z e
 rw [e, e1]
 clear e z
 refine ⟨n0, ?_⟩
 intro z e
 rw [e, e2]
 clear e z
 refine ⟨n1, ?_⟩
 intro z e
 rw [e]
 clear e z
 refine ⟨n2, ⟨b2.1, b2.2⟩, hl, ?_⟩
 clear hl n0 n1 n2 e0 e1 e2
 rintro _ rfl
 refine ⟨lO 2 1 6 af, fun _ => ?_, (fun h => by cases h)⟩
 refine ⟨⟨b0.1, b0.2⟩, eG, ?_⟩
 rintro _ rfl
 refine ⟨lO 2 2 6 af, fun _ => ?_, (fun h => by cases h)⟩
 have gj := uQ b0 (x := y2.2) (c := c + 87) (o2.less af)
 have di := uP b0 (x := y2.2) (c := c + 87) (o2.less af)
 rintro y3 e
 rw [<- e] at gj di
 clear e
 refine ⟨gj, ?_⟩
 have fm := Ym b0 (x := y3.2) (c := c + 75) (di.2.2.less af)
 rintro y4 e
 rw [<- e] at fm
 clear e
 refine ⟨fm.1, ?_⟩
 exact ⟨⟨2, dc y0.1, [], y3.1, [], [], y4.1, false⟩, y4.2, rfl, .Mw y0.1 _ _ b0 di.1 di.2.1 fm.2.1 fm.2.2.1, fm.2.2.2.less af⟩
theorem XU (hv : ff y1.1 y2.1 = 3) : kH c x := by
 have hl := (lQ y1.1 y2.1 b1 b2).1
 rw [hv] at hl
 have eG := mJ y0.1 b0
 refine mL ?_
 refine ki (E := gb 3 (dc y0.1)) follows named (XI x (dc y0.1)) ?_
 simp only [az, T.WP, All, aA, dF]
 rw [e0]
 intro z e
 rw [e, e1]
 clear e z
 refine ⟨n0, ?_⟩
 intro z e
 rw [e, e2]
 clear e z
 refine ⟨n1, ?_⟩
 intro z e
 rw [e]
 clear e z
 refine ⟨n2, ⟨b2.1, b2.2⟩, hl, ?_⟩
 clear hl n0 n1 n2 e0 e1 e2
 rintro _ rfl
 refine ⟨lO 3 1 6 af, fun _ => ?_, (fun h => by cases h)⟩
 refine ⟨⟨b0.1, b0.2⟩, eG, ?_⟩
 rintro _ rfl
 refine ⟨lO 3 2 6 af, fun _ => ?_, (fun h => by cases h)⟩
 have gj := uQ b0 (x := y2.2) (c := c + 87) (o2.less af)
 have di := uP b0 (x := y2.2) (c := c + 87) (o2.less af)
 rintro y3 e
 rw [<- e] at gj di
 clear e
 refine ⟨gj, ?_⟩
 have lB := (xb b0 (x := y3.2) (c := c + 6) (di.2.2.less af)).1
 have fm := rO b0 (x := y3.2) (c := c + 6) (di.2.2.less af)
 rintro y4 e
 rw [<- e] at lB fm
 clear e
 refine ⟨lB, ?_⟩
 exact ⟨⟨3, dc y0.1, [], y3.1, y4.1, [], [], false⟩, y4.2, rfl, .Nu y0.1 _ _ b0 di.1 di.2.1 fm.1 fm.2.1, fm.2.2.2.less af⟩
theorem XV (hv : ff y1.1 y2.1 = 4) : kH c x := by
 have hl := (lQ y1.1 y2.1 b1 b2).1
 rw [hv] at hl
 have eG := mJ y0.1 b0
 refine mL ?_
 refine ki (E := gb 4 (dc y0.1)) follows named (XJ x (dc y0.1)) ?_
 simp only [az, T.WP, All, aA, dF, cg.ae]
 rw [e0]
 intro z e
 rw [e, e1]
 clear e z
 refine ⟨n0, ?_⟩
 intro z e
 rw [e, e2]
 clear e z
 refine ⟨n1, ?_⟩
 intro z e
 rw [e]
 clear e z
 refine ⟨n2, ⟨b2.1, b2.2⟩, hl, ?_⟩
 clear hl n0 n1 n2 e0 e1 e2
 rintro _ rfl
 refine ⟨lO 4 1 6 af, fun _ => ?_, (fun h => by cases h)⟩
 refine ⟨⟨b0.1, b0.2⟩, eG, ?_⟩
 rintro _ rfl
 refine ⟨lO 4 2 6 af, fun _ => ?_, (fun h => by cases h)⟩
 have gj := uQ b0 (x := y2.2) (c := c + 87) (o2.less af)
 have di := uP b0 (x := y2.2) (c := c + 87) (o2.less af)
 rintro y3 e
 rw [<- e] at gj di
 clear e
 refine ⟨gj, ?_⟩
 have lB := fc (c := c + 84) y3.2 2 (di.2.2.less af)
 have fm := dx (x := y3.2) (n := 2) (c := c + 84) (di.2.2.less af) af
 rintro y4 e
 rw [<- e] at lB fm
 clear e
 refine ⟨lB, ?_⟩
 have w : IntKind.i64.wrap (1 + y4.1) = ((y4.1.toNat + 1 : Nat) : Int) := by rw [cQ af]; omega
 rw [w, Int.toNat_natCast]
 have hl := V2 b0 (dc y0.1) y3.1 y4.1.toNat af y4.2 (c + 12) (fm.1.less af)
 have qA := J0 b0 (y4.1.toNat + 1) y4.2 [] (c + 12) (fm.1.less af) (by simp)
 rintro y5 e
 rw [<- e] at hl qA
 clear e
 have hlen := qA.2.1
 rw [List.length_nil] at hlen
 refine ⟨⟨bn, .bg hl⟩, ?_⟩
 exact ⟨⟨4, dc y0.1, [], y3.1, [], y5.1, [], false⟩, y5.2, rfl, .mut y0.1 _ _ b0 di.1 di.2.1 qA.1 af, qA.2.2.less af⟩
theorem XW (hv : ff y1.1 y2.1 = 5) : kH c x := by
 have hl := (lQ y1.1 y2.1 b1 b2).1
 rw [hv] at hl
 have eG := mJ y0.1 b0
 refine mL ?_
 refine ki (E := gb 5 (dc y0.1)) follows named (XK x (dc y0.1)) ?_
 simp only [az, T.WP, All, aA, dF]
 rw [e0]
 intro z e
 rw [e, e1]
 clear e z
 refine ⟨n0, ?_⟩
 intro z e
 rw [e, e2]
 clear e z
 refine ⟨n1, ?_⟩
 intro z e
 rw [e]
 clear e z
 refine ⟨n2, ⟨b2.1, b2.2⟩, hl, ?_⟩
 clear hl n0 n1 n2 e0 e1 e2
 rintro _ rfl
 refine ⟨lO 5 1 6 af, fun _ => ?_, (fun h => by cases h)⟩
 refine ⟨⟨b0.1, b0.2⟩, eG, ?_⟩
 rintro _ rfl
 refine ⟨lO 5 2 6 af, fun _ => ?_, (fun h => by cases h)⟩
 have gj := uQ b0 (x := y2.2) (c := c + 87) (o2.less af)
 have di := uP b0 (x := y2.2) (c := c + 87) (o2.less af)
 rintro y3 e
 rw [<- e] at gj di
 clear e
 refine ⟨gj, ?_⟩
 exact ⟨⟨5, dc y0.1, [], y3.1, [], [], [], false⟩, y3.2, rfl, .del y0.1 _ b0 di.1 di.2.1, di.2.2.less af⟩
theorem XX (hv : ff y1.1 y2.1 = 6) : kH c x := by
 have hl := (lQ y1.1 y2.1 b1 b2).1
 rw [hv] at hl
 have eG := mJ y0.1 b0
 refine mL ?_
 refine ki (E := gb 6 (dc y0.1)) follows named (XL x (dc y0.1)) ?_
 simp only [az, T.WP, All, aA, dF]
 rw [e0]
 intro z e
 rw [e, e1]
 clear e z
 refine ⟨n0, ?_⟩
 intro z e
 rw [e, e2]
 clear e z
 refine ⟨n1, ?_⟩
 intro z e
 rw [e]
 clear e z
 refine ⟨n2, ⟨b2.1, b2.2⟩, hl, ?_⟩
 clear hl n0 n1 n2 e0 e1 e2
 rintro _ rfl
 refine ⟨lO 6 1 6 af, fun _ => ?_, (fun h => by cases h)⟩
 refine ⟨⟨b0.1, b0.2⟩, eG, ?_⟩
 rintro _ rfl
 refine ⟨lO 6 2 6 af, fun _ => ?_, (fun h => by cases h)⟩
 have gj := uQ b0 (x := y2.2) (c := c + 87) (o2.less af)
 have di := uP b0 (x := y2.2) (c := c + 87) (o2.less af)
 rintro y3 e
 rw [<- e] at gj di
 clear e
 refine ⟨gj, ?_⟩
 have lB := (xb b0 (x := y3.2) (c := c + 6) (di.2.2.less af)).1
 have fm := rO b0 (x := y3.2) (c := c + 6) (di.2.2.less af)
 rintro y4 e
 rw [<- e] at lB fm
 clear e
 refine ⟨lB, ?_⟩
 have Ib := iS (c := c + 3) y4.2 2 (fm.2.2.2.less af) af
 have qA := gf (x := y4.2) (n := 2) (c := c + 3) (fm.2.2.2.less af) af
 rintro y5 e
 rw [<- e] at Ib qA
 clear e
 refine ⟨Ib, ?_⟩
 have hB : ∀ b : Bool, (bif b then b else b) = b := fun b => by cases b <;> rfl
 exact ⟨⟨6, dc y0.1, [], y3.1, y4.1, [], [], y5.1⟩, y5.2, rfl, .wait y0.1 _ _ _ b0 di.1 di.2.1 fm.1 fm.2.1, qA.less af⟩
theorem XY (hv : ff y1.1 y2.1 = 7) : kH c x := by
 have hl := (lQ y1.1 y2.1 b1 b2).1
 rw [hv] at hl
 have eG := mJ y0.1 b0
 refine mL ?_
 refine ki (E := gb 7 (dc y0.1)) follows named (XM x (dc y0.1)) ?_
 simp only [az, T.WP, All, aA, dF]
 rw [e0]
 intro z e
 rw [e, e1]
 clear e z
 refine ⟨n0, ?_⟩
 intro z e
 rw [e, e2]
 clear e z
 refine ⟨n1, ?_⟩
 intro z e
 rw [e]
 clear e z
 refine ⟨n2, ⟨b2.1, b2.2⟩, hl, ?_⟩
 clear hl n0 n1 n2 e0 e1 e2
 rintro _ rfl
 refine ⟨nI 7 1 6 af, (fun h => by cases h), fun _ => ?_⟩
 rintro _ rfl
 refine ⟨nI 7 2 6 af, (fun h => by cases h), fun _ => ?_⟩
 exact ⟨⟨7, [], [], [], [], [], [], false⟩, y2.2, rfl, .G7, o2.less af⟩
theorem XZ (hv : ff y1.1 y2.1 = 8) : kH c x := by
 have hl := (lQ y1.1 y2.1 b1 b2).1
 rw [hv] at hl
 have eG := mJ y0.1 b0
 refine mL ?_
 refine ki (E := gb 8 (dc y0.1)) follows named (XN x (dc y0.1)) ?_
 simp only [az, T.WP, All, aA, dF]
 rw [e0]
 intro z e
 rw [e, e1]
 clear e z
 refine ⟨n0, ?_⟩
 intro z e
 rw [e, e2]
 clear e z
 refine ⟨n1, ?_⟩
 intro z e
 rw [e]
 clear e z
 refine ⟨n2, ⟨b2.1, b2.2⟩, hl, ?_⟩
 clear hl n0 n1 n2 e0 e1 e2
 rintro _ rfl
 refine ⟨nI 8 1 6 af, (fun h => by cases h), fun _ => ?_⟩
 rintro _ rfl
 refine ⟨nI 8 2 6 af, (fun h => by cases h), fun _ => ?_⟩
 exact ⟨⟨8, [], [], [], [], [], [], false⟩, y2.2, rfl, .Gl, o2.less af⟩
theorem X0 (hv : ff y1.1 y2.1 = 9) : kH c x := by
 have hl := (lQ y1.1 y2.1 b1 b2).1
 rw [hv] at hl
 have eG := mJ y0.1 b0
 refine mL ?_
 refine ki (E := gb 9 (dc y0.1)) follows named (XO x (dc y0.1)) ?_
 simp only [az, T.WP, All, aA, dF]
 rw [e0]
 intro z e
 rw [e, e1]
 clear e z
 refine ⟨n0, ?_⟩
 intro z e
 rw [e, e2]
 clear e z
 refine ⟨n1, ?_⟩
 intro z e
 rw [e]
 clear e z
 refine ⟨n2, ⟨b2.1, b2.2⟩, hl, ?_⟩
 clear hl n0 n1 n2 e0 e1 e2
 rintro _ rfl
 refine ⟨nI 9 1 6 af, (fun h => by cases h), fun _ => ?_⟩
 rintro _ rfl
 refine ⟨nI 9 2 6 af, (fun h => by cases h), fun _ => ?_⟩
 exact ⟨⟨9, [], [115, 97, 105, 100], [], [], [], [], false⟩, y2.2, rfl, .Mp, o2.less af⟩
theorem XS (hv : ff y1.1 y2.1 = 10) : kH c x := by
 have hl := (lQ y1.1 y2.1 b1 b2).1
 rw [hv] at hl
 have eG := mJ y0.1 b0
 refine mL ?_
 refine ki (E := gb 10 (dc y0.1)) follows named (XG x (dc y0.1)) ?_
 simp only [az, T.WP, All, aA, dF]
 rw [e0]
 intro z e
 rw [e, e1]
 clear e z
 refine ⟨n0, ?_⟩
 intro z e
 rw [e, e2]
 clear e z
 refine ⟨n1, ?_⟩
 intro z e
 rw [e]
 clear e z
 refine ⟨n2, ⟨b2.1, b2.2⟩, hl, ?_⟩
 clear hl n0 n1 n2 e0 e1 e2
 rintro _ rfl
 refine ⟨nI 10 1 6 af, (fun h => by cases h), fun _ => ?_⟩
 rintro _ rfl
 refine ⟨nI 10 2 6 af, (fun h => by cases h), fun _ => ?_⟩
 have gj := zF (c := c + 207) y2.2 tH true rfl rfl rfl (o2.less af)
 have di := rj (x := y2.2) (L := tH) (c := c + 207) (o2.less af) (by simp [tH])
 rintro y3 e
 have e : y3 = dH y2.2 tH := e
 rw [<- e] at gj di
 clear e
 refine ⟨gj, ?_⟩
 exact ⟨⟨10, [], y3.1, [], [], [], [], false⟩, y3.2, rfl, .Gn _ di.2, di.1.less af⟩
omit e0 e1 e2 n0 n1 n2 b0 b1 b2 o2
end
theorem XQ {x : Src} {c : Nat} (h : x.OK (c + 219)) : kH c x := by
 have o0 := dx (x := x) (n := 3) (c := c + 216) (h.less af) af
 have n0 := fc (c := c + 216) x 3 (h.less af)
 have o1 := dx (x := (aX x 3).2) (n := 10) (c := c + 213) (o0.1.less af) af
 have n1 := fc (c := c + 213) (aX x 3).2 10 (o0.1.less af)
 have o2 := dx (x := (aX (aX x 3).2 10).2) (n := 7) (c := c + 210) (o1.1.less af) af
 have n2 := fc (c := c + 210) (aX (aX x 3).2 10).2 7 (o1.1.less af)
 have hb := (lQ _ _ o1.2 o2.2).2
 have : ff (aX (aX x 3).2 10).1 (aX (aX (aX x 3).2 10).2 7).1 = 1 \/ ff (aX (aX x 3).2 10).1 (aX (aX (aX x 3).2 10).2 7).1 = 2 \/ ff (aX (aX x 3).2 10).1 (aX (aX (aX x 3).2 10).2 7).1 = 3 \/ ff (aX (aX x 3).2 10).1 (aX (aX (aX x 3).2 10).2 7).1 = 4 \/ ff (aX (aX x 3).2 10).1 (aX (aX (aX x 3).2 10).2 7).1 = 5 \/ ff (aX (aX x 3).2 10).1 (aX (aX (aX x 3).2 10).2 7).1 = 6 \/ ff (aX (aX x 3).2 10).1 (aX (aX (aX x 3).2 10).2 7).1 = 7 \/ ff (aX (aX x 3).2 10).1 (aX (aX (aX x 3).2 10).2 7).1 = 8 \/ ff (aX (aX x 3).2 10).1 (aX (aX (aX x 3).2 10).2 7).1 = 9 \/ ff (aX (aX x 3).2 10).1 (aX (aX (aX x 3).2 10).2 7).1 = 10 := af
 rcases this with hv | hv | hv | hv | hv | hv | hv | hv | hv | hv
 ·exact XR rfl rfl rfl n0 n1 n2 o0.2 o1.2 o2.2 o2.1 hv
 ·exact XT rfl rfl rfl n0 n1 n2 o0.2 o1.2 o2.2 o2.1 hv
 ·exact XU rfl rfl rfl n0 n1 n2 o0.2 o1.2 o2.2 o2.1 hv
 ·exact XV rfl rfl rfl n0 n1 n2 o0.2 o1.2 o2.2 o2.1 hv
 ·exact XW rfl rfl rfl n0 n1 n2 o0.2 o1.2 o2.2 o2.1 hv
 ·exact XX rfl rfl rfl n0 n1 n2 o0.2 o1.2 o2.2 o2.1 hv
 ·exact XY rfl rfl rfl n0 n1 n2 o0.2 o1.2 o2.2 o2.1 hv
 ·exact XZ rfl rfl rfl n0 n1 n2 o0.2 o1.2 o2.2 o2.1 hv
 ·exact X0 rfl rfl rfl n0 n1 n2 o0.2 o1.2 o2.2 o2.1 hv
 ·exact XS rfl rfl rfl n0 n1 n2 o0.2 o1.2 o2.2 o2.1 hv
section
variable {P : Program} {hp : Hp}
theorem YF {b : Nat} {c : List V} {T : TypeId} (k : Nat) (hb : hp[b]? = some (some ([.aJ c], T))) (hT : dQ T = true) : eK P hp (hp.set b (some ([.aJ (c.take k)], T))) [b] := by
 have t := wa hb (some ([.aJ (c.take k)], T)) []
 rw [List.append_nil] at t
 refine .of t fun {I μ w} pre => ?_
 have hH := pre.holds b (by simp) _ hb
 rcases hH with ⟨g, cs, fr, h1, h2, h3, h4, ⟨h5, h6⟩, h7, h8⟩ | ⟨h1, h2⟩ | ⟨g, es, ck, c', h1, h2, h3, he, h4, h5⟩
 rotate_right
 ·cases he
  simp [dQ, kV] at hT
 ·have e : flat [V.aJ c] = c := by simp [flat]
  have e' : flat [V.aJ (c.take k)] = c.take k := by simp [flat]
  simp only [e] at h5 h6
  obtain ⟨us, cD, hv, hr, hn⟩ := CR.EI.1 h6
  obtain ⟨hF, gH⟩ := CR.fp.1 hn
  subst gH
  rw [List.append_nil] at hv
  have jS := hr.take k
  rw [<- hv, List.take_take] at jS
  have hl : (c.take k).length = min k c.length := List.length_take
  have G := Good.rY (bG := ([.aJ (c.take k)], T)) (cs := cs) (F := []) (pre.top (by simp)) (by simp) hb h1 h3 rfl rfl h4 (List.nil_sublist _) (.aJ (by rw [hl]; omega) (by rw [hl]; exact jS))
  rw [setRow_self w g cs T fr h3] at G
  exact ⟨_, G⟩
 ·refine ⟨μ, .refl _, fun _ h => .inl h, .refl _ _, .refl _, fun _ _ h => .inl h, fun _ _ _ => rfl, fun q hc blk bu => ?_, fun q hc blk bu g hg => ?_, fun q d b1 b2 g bp hc hd e1 e2 g1 g2 => ?_⟩
  ·rcases tY bu with ⟨rfl, rfl⟩ | ⟨ee, h⟩
   ·exact .inr (.inl ⟨h1, h2⟩)
   ·rcases hc with hc | hc
    ·exact absurd (by simpa using hc) ee
    ·rw [List.getElem?_eq_none hc] at h; cases h
  ·have ee : q = b := by
    rcases hc with hc | hc
    ·have := (List.getElem?_eq_some_iff.1 bu).1; simp at this; omega
    ·simpa using hc
   subst ee
   rcases hg with hg | hg
   ·rw [h1] at hg; cases hg
   ·rw [h2] at hg; cases hg
  ·have key : ∀ (q : Nat) (b1 : bM), (q ∈ [b] \/ hp.length <= q) -> (hp.set b (some ([.aJ (c.take k)], T)))[q]? = some (some b1) -> q = b := by
    intro q b1 hc e1
    rcases hc with hc | hc
    ·simpa using hc
    ·have := (List.getElem?_eq_some_iff.1 e1).1; simp at this; omega
   exact bp ((key q b1 hc e1).trans (key d b2 hd e2).symm)
end
abbrev qt : Nat := 77
instance : Inhabited Op' := ⟨.zero⟩
theorem KZ : ∃ g : Src -> Op' × Src, ∀ (c : Nat) (x : Src), x.OK (c + 219) ->
  (ao Tryz.prog fU [.ptr 0 0] [au x] ⟨.agg (aY (g x).1), [au (g x).2], [0]⟩ /\ fP (g x).1) /\ (g x).2.OK c :=
 BV (R := fun x q x' => ao Tryz.prog fU [.ptr 0 0] [au x] ⟨.agg (aY q), [au x'], [0]⟩ /\ fP q) fun c x hx => by
  obtain ⟨q, x', h1, h2, h3⟩ := XQ hx
  exact ⟨q, x', ⟨h1, h2⟩, h3⟩
noncomputable def kX (x : Src) : Op' × Src := Classical.choose KZ x
theorem KW {x : Src} {c : Nat} (h : x.OK (c + 219)) :
  ao Tryz.prog fU [.ptr 0 0] [au x] ⟨.agg (aY (kX x).1), [au (kX x).2], [0]⟩ /\ fP (kX x).1 /\ (kX x).2.OK c := by
 have := Classical.choose_spec KZ c x h
 exact ⟨this.1.1, this.1.2, this.2⟩
noncomputable def opsL : Nat -> Src -> List Op' -> List Op' × Src
 | 0, x, l => (l, x)
 | n + 1, x, l => opsL n (kX x).2 (l ++ [(kX x).1])
noncomputable def L0 : cP := fun f vs hp => match vs, hp with
 | [.ptr 0 0, .int _ n], [some ([.dsl _ _ cs, .int _ k, .int _ s], _)] => bif Nat.beq f kh then some ⟨aX (bc cs k s) n, fun y => ⟨.int .i64 y.1, [au y.2], [0]⟩⟩
  else bif Nat.beq f lz then some ⟨cw (bc cs k s) n, fun y => ⟨.sl 1 0 y.1.length false, [au y.2, some ([.aJ (ah aT (bif n == 2 then y.1.take 1 else y.1))], kC)], [0]⟩⟩
  else bif Nat.beq f uW then some ⟨bo (bc cs k s) n, fun y => ⟨.bool y.1, [au y.2], [0]⟩⟩ else none
 | [.ptr 0 0], [some ([.dsl _ _ cs, .int _ k, .int _ s], _)] => bif Nat.beq f fU then some ⟨kX (bc cs k s), fun y => ⟨.agg (aY y.1), [au y.2], [0]⟩⟩ else none
 | _, _ => none
noncomputable def xF : Env := { P := Tryz.prog, vw := xg, res := L0 }
def pM (x : Src) (l : List Op') (i : Int) : St := ⟨ai 43 [(0, .ptr 0 0), (3, .sl 1 0 l.length false), (5, .int .i64 i)], [au x, some ([.aJ (ah aY l)], gM)], [0]⟩
def WI : Ex -> Kp := fun _ => { keep := [0, 3, 5], wr := [0], ua := true }
theorem K1 (x : Src) (l : List Op') (i : Int) : bx xF 1 WI (lp Tryz.prog qt 0) (pM x l i) = (
 bif decide (i > 0) then .bind (kX (bc (ah aR x.l) (↑x.k : Int) x.s)) fun y0 =>
 let q : List V := [aa y0.1.kind, .str y0.1.table, .str y0.1.name, ab aH y0.1.bC, ab aT y0.1.row, ab b8 y0.1.db, ab aW y0.1.aw, .bool y0.1.iO]; .ag [ao (Env.P xF) 158 [.ptr 0 0] [au x] (aj.mk (.agg q)
  [au y0.2] [0])] (.ag [0 = 0, List.length (ah aY l) = l.length * 8, l.length + 1 <= 9223372036854775807, (l.length + 1) * 144 <= 140737488355328] (.done (Ex.normal, St.mk (ai 43 [(0, .ptr 0 0), (3, .sl 1 0 (l.length + 1)
  false), (5, aa (IntKind.i64.wrap (i - 1)))]) [au y0.2, some ([.aJ (ah aY l ++ q)], 178)] [0]))) else .done (Ex.exit 0, St.mk (ai 43 [(0, .ptr 0 0), (3, .sl 1 0 l.length false), (5, aa i)]) [au x, some ([.aJ (ah aY
  l)], 178)] [0]) : T _) := by kernel_rfl
theorem K3 : ∀ (n : Nat) (x : Src) (l : List Op') (c : Nat), x.OK (c + n * 219) -> l.length + n <= 100000 ->
  a8 Tryz.prog 1 (lp Tryz.prog qt 0) (pM x l n) (.exit 0) (pM (opsL n x l).2 (opsL n x l).1 0)
 | 0, x, l, c, h, hl => by
  refine bl (E := xF) follows named (K1 x l ((0 : Nat) : Int)) ?_
  simp only [az, T.WP, All, aB, aC, aA]
  exact ⟨fun h => af, fun _ => ⟨rfl, rfl⟩⟩
 | n + 1, x, l, c, h, hl => by
  have h1 := KW (x := x) (c := c + n * 219) (h.less af)
  have ih := K3 n (kX x).2 (l ++ [(kX x).1]) c h1.2.2 (by simp only [List.length_append, List.length_singleton]; omega)
  have w1 : IntKind.i64.wrap (((n + 1 : Nat) : Int) - 1) = (n : Nat) := by rw [cQ af]; omega
  refine bl (E := xF) follows named (K1 x l ((n + 1 : Nat) : Int)) ?_
  simp only [az, T.WP, All, aB, aC, aA, w1, dF]
  refine ⟨fun _ => ?_, fun h => af⟩
  rintro y rfl
  refine ⟨h1.1, by rw [jW.length]; exact aK, ?_⟩
  simp only [pM, dU, aY, ab, List.length_append, List.length_singleton] at ih ⊢
  exact ih
def zG : Sx := ⟨[112, 111, 114, 116, 115], [], [[112]]⟩
noncomputable def gx (x : Src) : List Op' × Src :=
 bif (bo x 2).1 then
  ([⟨1, dc 1, [112], [], (cw (bo x 2).2 1).1, [], [], false⟩, ⟨1, dc 2, [], [], (cw (cw (bo x 2).2 1).2 2).1.take 1 ++ [zG], [], [], false⟩], (cw (cw (bo x 2).2 1).2 2).2)
 else ([], (bo x 2).2)
noncomputable def jc (x : Src) : List Op' × Src := opsL (aX (gx x).2 4).1.toNat (aX (gx x).2 4).2 (gx x).1
noncomputable def U3 (L : List Op') : Nat -> St -> Option bT := fun id s => match id, s.tm.get 5, s.hp with
 | 0, .int _ i, [some ([.dsl _ _ cs, .int _ a, .int _ b], _), _] => some ⟨opsL i.toNat (bc cs a b) [], fun y => .one { keep := [0, 3, 5], wr := [0], ic := [3], ua := true } (pM (bc cs a b) [] i) (.exit 0) (pM y.2 y.1 0)⟩
 | 0, .int _ i, some ([.dsl _ _ cs, .int _ a, .int _ b], _) :: _ => some ⟨opsL i.toNat (bc cs a b) L, fun y => .one { keep := [0, 3, 5], wr := [0], ic := [3], ua := true } (pM (bc cs a b) L i) (.exit 0) (pM y.2 y.1 0)⟩
 | _, _, _ => none
noncomputable def FW (L : List Op') : Env := { P := Tryz.prog, vw := xg, res := L0, ls := U3 L }
theorem X4 (x : Src) (L : List Op') : fnT (FW L) 0 qt [.ptr 0 0] [au x] = (
 .bind (bo (bc (ah aR x.l) (↑x.k : Int) x.s) (2 : Int)) fun y0 =>
 let q := bc (ah aR y0.2.l) (↑y0.2.k : Int) y0.2.s; .ag [ao Tryz.prog 105 [.ptr 0 0, aa 2] [au x] (aj.mk (.bool y0.1) [au y0.2] [0])] (bif y0.1 then .bind (cw q (1 : Int)) fun y1 =>
 let q1 := ah aT (bif false then List.take 1 y1.1 else y1.1); .ag [ao Tryz.prog 157 [.ptr 0 0, aa 1] [au y0.2] (aj.mk (.sl 1 0 y1.1.length false) [au y1.2, some ([.aJ q1], 189)] [0])] (.ag [0 = 0, 0 = 0, 1 <=
  9223372036854775807, 144 <= 140737488355328] (.bind (cw (bc (ah aR y1.2.l) (↑y1.2.k : Int) y1.2.s) (2 : Int)) fun y2 =>
 let q2 := ah aT (bif true then List.take 1 y2.1 else y2.1); .ag [ao Tryz.prog 157 [.ptr 0 0, aa 2] [au y1.2] (aj.mk (.sl 1 0 y2.1.length false) [au y2.2, some ([.aJ q2], 189)] [0])] (.ag [(0 : Int) <= 1 /\ (1 : Int) <=
  (↑y2.1.length : Int)] (.ag [0 = 0, q2.length = 3, 2 <= 9223372036854775807, 128 <= 140737488355328] (.ag [0 = 0, 8 = 8, 2 <= 9223372036854775807, 288 <= 140737488355328] (.bind (aX (bc (ah aR y2.2.l) (↑y2.2.k : Int)
  y2.2.s) (4 : Int)) fun y3 =>
 let q3 := bc (ah aR y3.2.l) (↑y3.2.k : Int) y3.2.s;
 let q4 := ai 43 [(0, .ptr 0 0), (3, .sl 1 0 L.length false), (5, aa y3.1)]; .ag [ao Tryz.prog 103 [.ptr 0 0, aa 4] [au y2.2] (aj.mk (aa y3.1) [au y3.2] [0])] (.bind (opsL y3.1.toNat q3 L) fun y4 => .ag [St.mk (ai 43
  [(0, .ptr 0 0), (3, .sl 1 0 2 false), (5, aa y3.1)]) [au y3.2, some ([.aJ [aa 1, .str [112, 111, 114, 116], .str [112], .dsl 0 false [], .dsl y1.1.length false q1, .dsl 0 false [], .dsl 0 false [], .bool false, aa 1, .str [115,
  119, 105, 116, 99, 104], .str [], .dsl 0 false [], .dsl 2 false (ah aT (bif true then List.take 1 y2.1 else y2.1) ++ [.str [112, 111, 114, 116, 115], .dsl 0 false [], .dsl 1 false [.str [112]]]), .dsl 0 false [], .dsl 0 false [],
  .bool false]], 178)] [0] = St.mk q4 [au q3, some ([.aJ (ah aY L)], 178)] [0], aV Tryz.prog 1 (blk Tryz.prog qt 0) (St.mk q4 [au q3, some ([.aJ (ah aY L)], 178)] [0]) (Ex.exit 0) (St.mk (ai 43 [(0, .ptr 0 0),
  (3, .sl 1 0 y4.1.length false), (5, aa 0)]) [au y4.2, some ([.aJ (ah aY y4.1)], 178)] [0])] (.done (aj.mk (ab aY y4.1) [au y4.2] [0]))))))))) else .bind (aX q (4 : Int)) fun y5 =>
 let q5 := bc (ah aR y5.2.l) (↑y5.2.k : Int) y5.2.s;
 let q6 := ai 43 [(0, .ptr 0 0), (3, .sl 1 0 0 false), (5, aa y5.1)]; .ag [ao Tryz.prog 103 [.ptr 0 0, aa 4] [au y0.2] (aj.mk (aa y5.1) [au y5.2] [0])] (.bind (opsL y5.1.toNat q5 []) fun y6 => .ag [St.mk q6 [au y5.2,
  some ([.aJ []], 178)] [0] = St.mk q6 [au q5, some ([.aJ []], 178)] [0], aV Tryz.prog 1 (blk Tryz.prog qt 0) (St.mk q6 [au q5, some ([.aJ []], 178)] [0]) (Ex.exit 0) (St.mk (ai 43 [(0, .ptr 0 0), (3, .sl 1 0 y6.1.length
  false), (5, aa 0)]) [au y6.2, some ([.aJ (ah aY y6.1)], 178)] [0])] (.done (aj.mk (ab aY y6.1) [au y6.2] [0])))) : T _) := (T.force_eq _).symm.trans (by kernel_rfl)
theorem af3 {x : Src} {c : Nat} (h : x.OK (c + 81)) :
  ao Tryz.prog lz [.ptr 0 0, .int .i64 2] [au x] ⟨.sl 1 0 (cw x 2).1.length false, [au (cw x 2).2, some ([.aJ (ah aT ((cw x 2).1.take 1))], kC)], [0]⟩ := by
 have h1 := (xb (t := 2) af h).2
 have h2 := h1.YJ (YF (hp := [au (cw x 2).2, some ([.aJ (ah aT (cw x 2).1)], kC)]) (b := 1) (c := ah aT (cw x 2).1) (T := kC) 3 rfl rfl)
 have e : (ah aT (cw x 2).1).take 3 = ah aT ((cw x 2).1.take 1) := dX.take _ 1
 rw [e] at h2
 exact h2
theorem YB : ln (de 2) zG := ⟨BC, by decide, rfl, .nil _, by decide, by decide, fun _ => ⟨rfl, rfl⟩, by decide⟩
theorem K0 {x : Src} {c : Nat} (h : x.OK (c + 165)) : (∀ o ∈ (gx x).1, fP o) /\ (gx x).1.length <= 2 /\ (gx x).2.OK c := by
 have o0 := gf (x := x) (n := 2) (c := c + 162) (h.less af) af
 unfold gx
 cases (bo x 2).1
 ·exact ⟨by simp, by simp, o0.less af⟩
 ·have h1 := rO (t := 1) af (x := (bo x 2).2) (c := c + 81) (o0.less af)
  have h2 := rO (t := 2) af (x := (cw (bo x 2).2 1).2) (c := c) h1.2.2.2
  simp only [cond_true]
  refine ⟨fun o ho => ?_, by simp, h2.2.2.2⟩
  rcases List.mem_cons.1 ho with rfl | ho
  ·exact .ins 1 _ _ af h1.1 h1.2.1 (by simp [pq])
  ·rw [List.mem_singleton.1 ho]
   refine .ins 2 _ _ af (fun s hs => ?_) (by simp only [List.length_append, List.length_take, List.length_singleton]; omega) (by simp [pq])
   rcases List.mem_append.1 hs with hs | hs
   ·exact h2.1 s (List.mem_of_mem_take hs)
   ·rw [List.mem_singleton.1 hs]; exact YB
theorem K2 : ∀ (n : Nat) (x : Src) (l : List Op') (c : Nat), x.OK (c + n * 219) -> (∀ o ∈ l, fP o) ->
  (∀ o ∈ (opsL n x l).1, fP o) /\ (opsL n x l).1.length = l.length + n /\ (opsL n x l).2.OK c
 | 0, x, l, c, h, hl => ⟨hl, rfl, h.less af⟩
 | n + 1, x, l, c, h, hl => by
  have h1 := KW (x := x) (c := c + n * 219) (h.less af)
  have ih := K2 n (kX x).2 (l ++ [(kX x).1]) c h1.2.2 (by
   intro q hq
   rcases List.mem_append.1 hq with hq | hq
   ·exact hl q hq
   ·rw [List.mem_singleton.1 hq]; exact h1.2.1)
  rw [opsL]
  exact ⟨ih.1, by rw [ih.2.1, List.length_append, List.length_singleton]; omega, ih.2.2⟩
theorem X3 {x : Src} {c : Nat} (h : x.OK (c + 825)) : (∀ o ∈ (jc x).1, fP o) /\ (jc x).1.length <= 5 /\ (jc x).2.OK c := by
 have h1 := K0 (c := c + 660) (h.less af)
 have o2 := dx (x := (gx x).2) (n := 4) (c := c + 657) (h1.2.2.less af) af
 have h3 := K2 (aX (gx x).2 4).1.toNat (aX (gx x).2 4).2 (gx x).1 c (o2.1.less af) h1.1
 unfold jc
 exact ⟨h3.1, by rw [h3.2.1]; omega, h3.2.2⟩
theorem X5 {x : Src} {c : Nat} (h : x.OK (c + 825)) : ao Tryz.prog qt [.ptr 0 0] [au x] ⟨ab aY (jc x).1, [au (jc x).2], [0]⟩ := by
 have h1 := K0 (c := c + 660) (h.less af)
 have o2 := dx (x := (gx x).2) (n := 4) (c := c + 657) (h1.2.2.less af) af
 have n2 := fc (c := c + 657) (gx x).2 4 (h1.2.2.less af)
 have hl := K3 (aX (gx x).2 4).1.toNat (aX (gx x).2 4).2 (gx x).1 c (o2.1.less af) af
 have e3 : (((aX (gx x).2 4).1.toNat : Nat) : Int) = (aX (gx x).2 4).1 := af
 rw [e3] at hl
 have o0 := gf (x := x) (n := 2) (c := c + 822) (h.less af) af
 have n0 := iS (c := c + 822) x 2 (h.less af) af
 have s1 := (xb (t := 1) af (x := (bo x 2).2) (c := c + 741) (o0.less af)).2
 have f1 := rO (t := 1) af (x := (bo x 2).2) (c := c + 741) (o0.less af)
 have s2 := af3 (x := (cw (bo x 2).2 1).2) (c := c + 660) (f1.2.2.2.less af)
 have f2 := rO (t := 2) af (x := (cw (bo x 2).2 1).2) (c := c + 660) (f1.2.2.2.less af)
 have hH : gx x = bif (bo x 2).1 then
   ([⟨1, dc 1, [112], [], (cw (bo x 2).2 1).1, [], [], false⟩, ⟨1, dc 2, [], [], (cw (cw (bo x 2).2 1).2 2).1.take 1 ++ [zG], [], [], false⟩], (cw (cw (bo x 2).2 1).2 2).2)
  else ([], (bo x 2).2) := rfl
 unfold jc
 generalize hg : gx x = H at *
 refine bh (E := FW H.1) follows named (X4 x H.1) (by simp) ?_
 simp only [az, T.WP, All, aA, dF]
 rintro y0 e0
 rw [<- e0] at n0 s1 s2 f1 f2 hH
 clear e0
 refine ⟨n0, fun h0 => ?_, fun h0 => ?_⟩
 ·rw [h0, cond_true] at hH
  rintro y1 e1
  rw [<- e1] at s1 s2 f1 f2 hH
  clear e1
  refine ⟨s1, aK, ?_⟩
  rintro y2 e2
  rw [<- e2] at s2 f2 hH
  clear e2
  have hlen : (List.take 1 y2.1).length = 1 := by rw [List.length_take]; omega
  subst hH
  dsimp only at n2 hl ⊢
  refine ⟨s2, ⟨af, af⟩, ⟨bn, by simp only [cond_true, dX.length, hlen], af, af⟩, aK, ?_⟩
  rintro y3 rfl
  refine ⟨n2, ?_⟩
  rintro y4 rfl
  refine ⟨⟨?_, .bg hl⟩, aQ⟩
  simp only [eu, uT, aY, ab, cond_true, cond_false, qk, aT, zG, List.length_append, hlen]
  rfl
 ·rw [h0, cond_false] at hH
  subst hH
  dsimp only at n2 hl ⊢
  rintro y3 rfl
  refine ⟨n2, ?_⟩
  rintro y4 rfl
  exact ⟨⟨bn, .bg hl⟩, aQ⟩
abbrev sQ : Nat := 155
abbrev oL : Nat := 255
abbrev iw : Nat := 223
abbrev tWk : Nat := 183
def wB (S : aS) (x : aM) (ops : List Op') (ids : List Int) (ow : List (List UInt8)) : Option bM := some ([ab aq S, ab aI x.ar, .int .i64 x.next, ab aY ops, ab aN ids, ab aW ow], tWk)
def wI (ops : List Op') (nx : Int) (o : List Int) (i : Int) : St := ⟨ai 30 [(0, ab aY ops), (1, .int .i64 nx), (5, .sl 0 0 o.length false), (6, .int .i64 i)], [some ([.aJ (ah aN o)], mU)], []⟩
def Wx : Ex -> Kp := fun ex => match ex with
 | .normal => { keep := [0, 1, 5, 6] }
 | _ => { keep := [5] }
theorem Jo (ops : List Op') (nx : Int) (o : List Int) (i : Int) : bx n9 0 Wx (lp Tryz.prog sQ 0) (wI ops nx o i) = (
 let q3 := o.length + 1;
 let q : List Prop := [0 = 0, List.length (ah aN o) = o.length * 1, o.length + 1 <= 9223372036854775807, q3 * 8 <= 140737488355328];
 let q1 := List.getD (ae aY (ah aY ops)) i.toNat (Op'.mk (0 : Int) [] [] [] [] [] [] false);
 let q2 := IntKind.i64.wrap (i + 1); bif decide (i < (↑ops.length : Int)) then .ag [0 <= i /\ i < (↑ops.length : Int), List.take 8 (List.drop (i.toNat * 8) (ah aY ops)) = aY q1] (bif q1.kind == 1 then .ag q (.done (Ex.normal,
  St.mk (ai 30 [(0, ab aY ops), (1, aa (IntKind.i64.wrap (nx + 1))), (5, .sl 0 0 q3 false), (6, aa q2)]) [some ([.aJ (ah aN o ++ [aa nx])], 3)] [])) else .ag q (.done (Ex.normal, St.mk (ai 30 [(0, ab aY ops), (1,
  aa nx), (5, .sl 0 0 q3 false), (6, aa q2)]) [some ([.aJ (ah aN o ++ [aa 0])], 3)] []))) else .done (Ex.exit 0, St.mk (ai 30 [(5, .sl 0 0 o.length false)]) [some ([.aJ (ah aN o)], 3)] []) : T _) := by kernel_rfl
def Jp (o : List Int) : St := ⟨ai 30 [(5, .sl 0 0 o.length false)], [some ([.aJ (ah aN o)], mU)], []⟩
theorem DA (ops : List Op') (hn : ops.length <= 1048576) : ∀ (k i : Nat) (nx : Int) (o : List Int), i + k = ops.length -> o.length = i -> 0 <= nx -> nx + k <= 4611686018427387904 ->
  a8 Tryz.prog 0 (lp Tryz.prog sQ 0) (wI ops nx o i) (.exit 0) (Jp (o ++ idsF (ops.drop i) nx))
 | 0, i, nx, o, hi, ho, h0, hx => by
  have hi : i = ops.length := hi
  subst hi
  rw [List.drop_length, idsF, List.append_nil]
  refine bl (E := n9) follows named (Jo ops nx o (ops.length : Nat)) ?_
  simp only [az, T.WP, All, aB, aC, aA, aD, aE, aF]
  exact ⟨fun h => by omega, fun _ => ⟨rfl, rfl⟩⟩
 | k + 1, i, nx, o, hi, ho, h0, hx => by
  have aL := jW.at ops .zero i 8 (by omega) rfl
  have w1 : IntKind.i64.wrap ((i : Int) + 1) = ((i + 1 : Nat) : Int) := bE (by omega)
  have w2 : IntKind.i64.wrap (nx + 1) = nx + 1 := cQ (by omega)
  rw [gh .zero (show i < ops.length by omega), idsF]
  refine bl (E := n9) follows named (Jo ops nx o (i : Nat)) ?_
  simp only [Op'.zero] at *
  simp only [az, T.WP, All, aB, aC, aA, aD, aE, aF, w1, w2, jW.ae, ej.length, Int.toNat_natCast]
  refine ⟨fun _ => ⟨⟨aK, aL⟩, fun h => ?_, fun h => ?_⟩, fun h => by omega⟩
  ·have ih := DA ops hn k (i + 1) (nx + 1) (o ++ [nx]) (by omega) (by rw [List.length_append, List.length_singleton]; omega) (by omega) (by omega)
   rw [show ((ops.getD i ⟨0, [], [], [], [], [], [], false⟩).kind == 1) = true by simpa using h, cond_true]
   rw [List.append_assoc, List.singleton_append] at ih
   refine ⟨aK, ?_⟩
   simp only [wI, dU, aN, List.length_append, List.length_singleton] at ih ⊢
   exact ih
  ·have ih := DA ops hn k (i + 1) nx (o ++ [0]) (by omega) (by rw [List.length_append, List.length_singleton]; omega) (by omega) (by omega)
   rw [show ((ops.getD i ⟨0, [], [], [], [], [], [], false⟩).kind == 1) = false by simpa using h, cond_false]
   rw [List.append_assoc, List.singleton_append] at ih
   refine ⟨aK, ?_⟩
   simp only [wI, dU, aN, List.length_append, List.length_singleton] at ih ⊢
   exact ih
noncomputable def UM : Nat -> St -> Option bT := fun id s => match id, s.tm.get 0, s.tm.get 1 with
 | 0, .dsl _ _ os, .int _ nx => some ⟨idsF (ae aY os) nx, fun y => .one { keep := [0, 1, 5, 6], ic := [5] } (wI (ae aY os) nx [] 0) (.exit 0) (Jp y)⟩
 | _, _, _ => none
noncomputable def AR : Env := { P := Tryz.prog, vw := rV, res := rn, ls := UM }
theorem TG (ops : List Op') (nx : Int) : fnT AR 0 sQ [ab aY ops, .int .i64 nx] [] = (
 let q2 := ae aY (ah aY ops);
 let q := ai 30 [(0, ab aY q2), (1, aa nx), (5, .sl 0 0 0 false), (6, aa 0)];
 let q1 : Hp := [some ([.aJ []], 3)]; .bind (idsF q2 nx) fun y0 => .ag [St.mk (ai 30 [(0, ab aY ops), (1, aa nx), (5, .sl 0 0 0 false), (6, aa 0)]) q1 [] = St.mk q q1 [], aV (Env.P AR) 0 (blk Tryz.prog sQ 0) (St.mk q q1
  []) (Ex.exit 0) (St.mk (ai 30 [(5, .sl 0 0 y0.length false)]) [some ([.aJ (ah aN y0)], 3)] [])] (.done (aj.mk (ab aN y0) [] [])) : T _) := (T.force_eq _).symm.trans (by kernel_rfl)
theorem TH (ops : List Op') (nx : Int) (hn : ops.length <= 1048576) (h0 : 0 <= nx) (hx : nx <= 1000000000) : ao Tryz.prog sQ [ab aY ops, .int .i64 nx] [] ⟨ab aN (idsF ops nx), [], []⟩ := by
 have h := DA ops hn ops.length 0 nx [] af rfl h0 af
 rw [List.drop_zero, List.nil_append] at h
 refine bh (E := AR) follows named (TG ops nx) (by simp) ?_
 simp only [T.WP, All, aA, jW.ae]
 rintro y rfl
 exact ⟨⟨bn, .bg h⟩, aQ⟩
def wO (S : aS) (x : aM) (ops : List Op') (ids : List Int) (ow : List (List UInt8)) (t : List UInt8) (i : Int) : St := ⟨ai 43 [(0, .ptr 0 0), (1, .str t), (5, .int .i64 i)], [wB S x ops ids ow], []⟩
def Kc : Ex -> Kp := fun ex => match ex with
 | .normal => { keep := [0, 1, 5] }
 | .ret => { keep := [4] }
 | _ => { keep := [] }
theorem Wa (S : aS) (x : aM) (ops : List Op') (ids : List Int) (ow : List (List UInt8)) (t : List UInt8) (i : Int) : bx n9 1 Kc (lp Tryz.prog oL 0) (wO S x ops ids ow t i) = (
 let q : Hp := [some ([ab aq S, ab aI x.ar, aa x.next, ab aY ops, ab aN ids, ab aW ow], 183)];
 let q1 := List.getD (ae aY (ah aY ops)) i.toNat (Op'.mk (0 : Int) [] [] [] [] [] [] false);
 let q2 : List Prop := [0 <= i /\ i < (↑ops.length : Int), List.take 8 (List.drop (i.toNat * 8) (ah aY ops)) = aY q1];
 let q3 := ai 43 [(0, .ptr 0 0), (1, .str t), (5, aa (IntKind.i64.wrap (i + 1)))];
 let q4 := List.getD (ae aN (ah aN ids)) i.toNat (0 : Int); bif decide (i < (↑ops.length : Int)) then .ag q2 (bif q1.kind == 1 then .ag q2 (bif q1.name == t then .ag [0 <= i /\ i < (↑ids.length : Int), List.take 1
  (List.drop (i.toNat * 1) (ah aN ids)) = [aa q4]] (.done (Ex.ret, St.mk (ai 43 [(4, aa q4)]) q [])) else .done (Ex.normal, St.mk q3 q [])) else .done (Ex.normal, St.mk q3 q [])) else .done (Ex.exit 0, St.mk (ai 43 []) q []) : T _) := by kernel_rfl
noncomputable def UU (S : aS) (x : aM) (ops : List Op') (ids : List Int) (ow : List (List UInt8)) : Nat -> St -> Option bT := fun id s => match id, s.tm.get 1 with
 | 0, .str t => some ⟨lR ops t, fun y => .two { keep := [0, 1, 5] } (wO S x ops ids ow t 0) (decide (y < 0)) (.exit 0) ⟨ai 43 [], [wB S x ops ids ow], []⟩ .ret ⟨ai 43 [(4, .int .i64 (ids.getD y.toNat 0))], [wB S x ops ids ow], []⟩⟩
 | _, _ => none
noncomputable def FU (S : aS) (x : aM) (ops : List Op') (ids : List Int) (ow : List (List UInt8)) : Env := { P := Tryz.prog, vw := rV, res := rn, ls := UU S x ops ids ow }
theorem Wb (S : aS) (x : aM) (ops : List Op') (ids : List Int) (ow : List (List UInt8)) (t : List UInt8) : fnT (FU S x ops ids ow) 0 oL [.ptr 0 0, .str t] [wB S x ops ids ow] = (
 let q : Hp := [some ([ab aq S, ab aI x.ar, aa x.next, ab aY ops, ab aN ids, ab aW ow], 183)];
 let q1 := ai 43 [(0, .ptr 0 0), (1, .str t), (5, aa 0)]; .bind (lR ops t) fun y0 =>
 let q2 := List.getD ids y0.toNat (0 : Int); .ag [St.mk q1 q [] = St.mk q1 q []] (bif decide (y0 < 0) then .ag [aV Tryz.prog 1 (blk Tryz.prog oL 0) (St.mk q1 q []) (Ex.exit 0) (St.mk (ai 43 []) q [])] (.done (aj.mk (aa 0)
  q [])) else .ag [aV Tryz.prog 1 (blk Tryz.prog oL 0) (St.mk q1 q []) Ex.ret (St.mk (ai 43 [(4, aa q2)]) q [])] (.done (aj.mk (aa q2) q []))) : T _) := (T.force_eq _).symm.trans (by kernel_rfl)
theorem Wc (S : aS) (x : aM) (ops : List Op') (ids : List Int) (ow : List (List UInt8)) (t : List UInt8) (hn : ops.length <= 1048576) (hid : ids.length = ops.length) :
  (lR ops t < 0 -> a8 Tryz.prog 1 (lp Tryz.prog oL 0) (wO S x ops ids ow t 0) (.exit 0) ⟨ai 43 [], [wB S x ops ids ow], []⟩) /\
  (0 <= lR ops t -> a8 Tryz.prog 1 (lp Tryz.prog oL 0) (wO S x ops ids ow t 0) .ret ⟨ai 43 [(4, .int .i64 (ids.getD (lR ops t).toNat 0))], [wB S x ops ids ow], []⟩) := by
 refine lA (E := n9) (nf := Kc) (st := fun i => wO S x ops ids ow t (i : Nat)) (sr := fun j => ⟨ai 43 [(4, .int .i64 (ids.getD j.toNat 0))], [wB S x ops ids ow], []⟩) (fun o : Op' => o.kind == 1 && o.name == t) ops .zero follows named (by simp) (by simp) (fun i => Wa S x ops ids ow t (i : Nat)) (fun i hi => ?_) ?_ ops.length 0 (by simp)
 ·have aL := jW.at ops .zero i 8 hi rfl
  have cA := ej.at ids 0 i 1 af rfl
  have w1 : IntKind.i64.wrap ((i : Int) + 1) = ((i + 1 : Nat) : Int) := bE af
  simp only [Op'.zero] at *
  simp only [az, T.WP, All, aB, aC, aA, aD, aE, aF, w1, jW.ae, ej.ae, Int.toNat_natCast]
  refine ⟨fun _ => ⟨⟨aK, aL⟩, fun h => ⟨⟨aK, aL⟩, fun h2 => ⟨⟨aK, cA⟩, ?_⟩, fun h2 => ?_⟩, fun h => ?_⟩, fun h => af⟩
  ·rw [h, h2, show ((1 : Int) == 1 && t == t) = true by simp]; rfl
  ·rw [h, show ((ops.getD i ⟨0, [], [], [], [], [], [], false⟩).name == t) = false by simpa using h2]; rfl
  ·rw [show ((ops.getD i ⟨0, [], [], [], [], [], [], false⟩).kind == 1) = false by simpa using h]; rfl
 ·simp only [az, T.WP, All, aB, aC, aA, aD, aE, aF]
  exact ⟨fun h => af, fun _ => rfl⟩
theorem We (S : aS) (x : aM) (ops : List Op') (ids : List Int) (ow : List (List UInt8)) (t : List UInt8) (hn : ops.length <= 1048576) (hid : ids.length = ops.length) : ao Tryz.prog oL [.ptr 0 0, .str t] [wB S x ops ids ow] ⟨.int .i64 (gJ ops ids t), [wB S x ops ids ow], []⟩ := by
 have h := Wc S x ops ids ow t hn hid
 refine bh (E := FU S x ops ids ow) follows named (Wb S x ops ids ow t) (by simp) ?_
 simp only [az, T.WP, All, aB, aC, aA]
 unfold gJ
 rintro y rfl
 refine ⟨bn, fun e => ⟨.bg (h.1 e), ?_⟩, fun e => ⟨.bg (h.2 af), ?_⟩⟩
 ·rw [decide_eq_false (by omega : ¬ 0 <= lR ops t)]; exact aQ
 ·rw [decide_eq_true (by omega : 0 <= lR ops t)]; exact aQ
end Go.Proofs.YtlomaojlpodibaaGreat

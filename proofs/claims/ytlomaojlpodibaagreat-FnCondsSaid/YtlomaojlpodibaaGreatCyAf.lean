/-
  The program's sets: what is left of one without the other.
  Conditions, plain: what the program's condition says is what the reference's says; a condition and its other one.
  The program's conditions: asked of rows.
  The reference's stores and conditions: what is right is.
  The law's helpers: a number, two lists of numbers.
  Conditions: the public functions.
  FnConds: the law.
  From a contract to the given statement: arguments that are slices of bytes.
  This program has none of the library's tables: nothing is asked of them.
-/
import Derived.Test.YtlomaojlpodibaaGreatCyAe
import Derived.ProofKit
import Derived.ChangeSlices
namespace Go.Proofs.YtlomaojlpodibaaGreat
open Go.RowKit
set_option maxRecDepth 100000
theorem O1 (d : aU) (n : Nat) : fnT cH 1 sI [.dsl (n + 1) false (ah ak d)] [] = (
 let q := ah ak d; .ag [q.length = (n + 1) * 3, List.all q V.one = true, 0 = 0, 0 = 0, 0 + (n + 1) <= 9223372036854775807, (0 + (n + 1)) * 32 <= 140737488355328] (.done (aj.mk (.sl 0 0 (0 + (n + 1)) false) [some ([.aJ q], 143)]
  [])) : T _) := (T.force_eq _).symm.trans (by kernel_rfl)
def gr (L : aU) : Option bM := some ([.aJ (ah ak L)], Nb)
def wN (L d : aU) (i : Int) : St := ⟨ai 19 [(0, .sl 0 0 L.length false), (1, .fn jk [.ptr 1 0]), (7, .int .i64 L.length), (8, .int .i64 i)], [gr L, b6 d], []⟩
theorem T9 (L d : aU) (i : Int) : bx cH 2 kW (lp Tryz.prog fT 0) (wN L d i) = (
 let q4 := ah ak L;
 let q := List.getD (ae ak q4) ((0 + i.toNat * 3) / 3) (At.mk (0 : Int) (0 : Int) []);
 let q1 : Hp := [some ([.aJ q4], 143), b6 d];
 let q2 := (↑L.length : Int);
 let q3 := ae ak (ah ak d); bif decide (i < q2) then .ag [0 <= i /\ i < q2] (.ag [List.take 3 (List.drop (0 + i.toNat * 3) q4) = ak q] (.bind (cd q3 (At.mk q.kind q.n q.t)) fun y0 => .ag [ao (Env.P cH) 202 [.agg
  (ak q), .ptr 0 0] [b6 d] (aj.mk (.bool y0) [b6 q3] [])] (bif y0 then .done (Ex.ret, St.mk (ai 19 [(4, aa i)]) q1 []) else .done (Ex.normal, St.mk (ai 19 [(0, .sl 0 0 L.length false), (1, .fn 202 [.ptr 1 0]), (7, aa q2), (8,
  aa (IntKind.i64.wrap (i + 1)))]) q1 [])))) else .done (Ex.exit 0, St.mk (ai 19 []) q1 []) : T _) := by kernel_rfl
noncomputable def FQ (L d : aU) : Env := { P := Tryz.prog, vw := cq, res := mQ, ls := fun id _ => match id with
 | 0 => some ⟨fidx (cd d) L 0, fun y => .two { keep := [0, 1, 7, 8] } (wN L d 0) (decide (y < 0)) (.exit 0) ⟨ai 19 [], [gr L, b6 d], []⟩ .ret ⟨ai 19 [(4, .int .i64 y)], [gr L, b6 d], []⟩⟩
 | _ => none }
theorem Ua (L d : aU) : fnT (FQ L d) 0 fT [.sl 0 0 L.length false, .fn jk [.ptr 1 0]] [gr L, b6 d] = (
 let q := ai 19 [(0, .sl 0 0 L.length false), (1, .fn 202 [.ptr 1 0]), (7, aa (↑L.length : Int)), (8, aa 0)];
 let q1 : Hp := [some ([.aJ (ah ak L)], 143), b6 d]; .bind (fidx (cd d) L 0) fun y0 => .ag [St.mk q q1 [] = St.mk q q1 []] (bif decide (y0 < 0) then .ag [aV Tryz.prog 2 (blk Tryz.prog fT 0) (St.mk q q1 []) (Ex.exit 0)
  (St.mk (ai 19 []) q1 [])] (.done (aj.mk (aa (-1 : Int)) q1 [])) else .ag [aV Tryz.prog 2 (blk Tryz.prog fT 0) (St.mk q q1 []) Ex.ret (St.mk (ai 19 [(4, aa y0)]) q1 [])] (.done (aj.mk (aa y0) q1 []))) : T _) := (T.force_eq _).symm.trans (by kernel_rfl)
noncomputable def Y8 (L d : aU) : cP := fun f vs hp => bif Nat.beq f fT then some ⟨fidx (cd d) L 0, fun y => ⟨.int .i64 y, [gr L, b6 d], []⟩⟩ else mQ f vs hp
def z1 (n : Nat) (L d : aU) (i j : Int) : St := ⟨ai 42 [(0, .sl 0 0 n false), (1, .fn jk [.ptr 1 0]), (5, .int .i64 i), (6, .int .i64 j)], [gr L, b6 d], [0]⟩
def Wr : Ex -> Kp := fun ex => match ex with
 | .exit _ => { keep := [0, 5], wr := [0] }
 | _ => { keep := [0, 1, 5, 6], wr := [0], perm := some ([0, 1], [0]) }
theorem Hf (n : Nat) (L d : aU) (i j : Int) : bx cH 2 Wr (lp Tryz.prog nb 0) (z1 n L d i j) = (
 let q1 := ah ak L;
 let q4 := At.mk (0 : Int) (0 : Int) [];
 let q := List.getD (ae ak q1) ((0 + j.toNat * 3) / 3) q4;
 let q2 := 0 + i.toNat * 3;
 let q3 := IntKind.i64.wrap (j + 1);
 let q5 : Hp := [some ([.aJ q1], 143), b6 d];
 let q6 := ae ak (ah ak d); bif decide (j < (↑n : Int)) then .ag [0 <= j /\ j < (↑n : Int)] (.ag [List.take 3 (List.drop (0 + j.toNat * 3) q1) = ak q] (.bind (cd q6 (At.mk q.kind q.n q.t)) fun y0 => .ag [ao (Env.P
  cH) 202 [.agg (ak q), .ptr 0 0] [b6 d] (aj.mk (.bool y0) [b6 q6] [])] (bif !y0 then .ag [0 <= i /\ i < (↑n : Int)] (.ag [List.take 3 (List.drop q2 q1) = ak (List.getD (ae ak q1) (q2 / 3) q4), 0 + i.toNat * 3 + 3 <=
  q1.length] (.done (Ex.normal, St.mk (ai 42 [(0, .sl 0 0 n false), (1, .fn 202 [.ptr 1 0]), (5, aa (IntKind.i64.wrap (i + 1))), (6, aa q3)]) [some ([.aJ (List.take q2 q1 ++ aa q.kind :: aa q.n :: .str q.t :: List.drop (0 +
  i.toNat * 3 + 3) q1)], 143), b6 d] [0]))) else .done (Ex.normal, St.mk (ai 42 [(0, .sl 0 0 n false), (1, .fn 202 [.ptr 1 0]), (5, aa i), (6, aa q3)]) q5 [0])))) else .done (Ex.exit 0, St.mk (ai 42 [(0, .sl 0 0 n false), (5, aa
  i)]) q5 [0]) : T _) := by kernel_rfl
noncomputable def AM (L d L' : aU) (i' : Int) : Env := { P := Tryz.prog, vw := cq, res := Y8 L d, ls := fun id s => match id, s.tm.get 5, s.tm.get 6 with
 | 0, .int _ a, .int _ b => some ⟨(), fun _ => .one { keep := [0, 1, 5, 6], wr := [0] } (z1 L.length L d a b) (.exit 0) ⟨ai 42 [(0, .sl 0 0 L.length false), (5, .int .i64 i')], [gr L', b6 d], [0]⟩⟩
 | _, _, _ => none }
theorem Hg (L d L' : aU) (i' : Int) : fnT (AM L d L' i') 0 nb [.sl 0 0 L.length false, .fn jk [.ptr 1 0]] [gr L, b6 d] = (
 let q : Hp := [some ([.aJ (ah ak L)], 143), b6 d];
 let q1 : List Prop := [0 <= i' /\ i' <= (↑L.length : Int)];
 let q2 := ah ak L';
 let q3 : V := .sl 0 0 (Int.toNat i') false;
 let q4 : Hp := [some ([.aJ q2], 143), b6 d]; .bind (fidx (cd d) L 0) fun y0 =>
 let q5 := ai 42 [(0, .sl 0 0 L.length false), (1, .fn 202 [.ptr 1 0]), (5, aa y0), (6, aa (IntKind.i64.wrap (y0 + 1)))]; .ag [ao Tryz.prog 206 [.sl 0 0 L.length false, .fn 202 [.ptr 1 0]] q (aj.mk (aa y0) q [])] (bif y0 == (-1
  : Int) then .done (aj.mk (.sl 0 0 L.length false) q []) else .bind PUnit.unit fun _ => .ag [St.mk q5 q [0] = St.mk q5 q [0], aV Tryz.prog 2 (blk Tryz.prog nb 0) (St.mk q5 q [0]) (Ex.exit 0) (St.mk (ai 42 [(0, .sl 0 0
  L.length false), (5, aa i')]) q4 [0])] (bif decide (Int.toNat i' < L.length) then .ag q1 (.ag [0 < L.length - Int.toNat i', 0 + Int.toNat i' * 3 + (L.length - Int.toNat i') * 3 <= q2.length] (.ag q1 (.done (aj.mk q3 [some ([.aJ
  (List.take (0 + Int.toNat i' * 3) q2)], 143), b6 d] [0])))) else .ag q1 (.ag q1 (.done (aj.mk q3 q4 [0]))))) : T _) := (T.force_eq _).symm.trans (by kernel_rfl)
noncomputable def Za (d e : aU) : cP := fun f _ _ => bif Nat.beq f sI then some ⟨(), fun _ => ⟨.sl 0 0 d.length false, [gr d], []⟩⟩ else bif Nat.beq f nb then some ⟨dr d e, fun y => ⟨.sl 0 0 y.length false, [gr y, b6 e], [0]⟩⟩ else none
noncomputable def FR (d e : aU) : Env := { P := Tryz.prog, vw := cq, res := Za d e }
theorem Ur (d e : aU) : fnT (FR d e) 0 yh [ab ak d, ab ak e] [] = (
 .bind PUnit.unit fun _ => .ag [ao Tryz.prog 201 [ab ak d] [] (aj.mk (.sl 0 0 d.length false) [some ([.aJ (ah ak d)], 143)] [])] (.bind (dr d e) fun y1 => .ag [ao Tryz.prog 135 [.sl 0 0 d.length false, .fn 202
  [.ptr 1 0]] [some ([.aJ (ah ak d)], 143), b6 e] (aj.mk (.sl 0 0 y1.length false) [some ([.aJ (ah ak y1)], 143), b6 e] [0])] (.done (aj.mk (ab ak y1) [] []))) : T _) := (T.force_eq _).symm.trans (by kernel_rfl)
noncomputable def Y9 (e : aU) : cP := fun f _ _ => bif Nat.beq f sI then some ⟨(), fun _ => ⟨.dsl 0 true [], [], []⟩⟩ else bif Nat.beq f nb then some ⟨(), fun _ => ⟨.dsl 0 false [], [b6 e], []⟩⟩ else bif Nat.beq f fT then some ⟨(), fun _ => ⟨.int .i64 (-1), [b6 e], []⟩⟩ else none
noncomputable def oc (e : aU) : Env := { P := Tryz.prog, vw := cq, res := Y9 e, ls := fun id _ => match id with
 | 0 => some ⟨(), fun _ => .one { keep := [0, 1, 7, 8] } ⟨ai 19 [(0, .dsl 0 true []), (1, .fn jk [.ptr 0 0]), (7, .int .i64 0), (8, .int .i64 0)], [b6 e], []⟩ (.exit 0) ⟨ai 19 [], [b6 e], []⟩⟩
 | _ => none }
theorem Up (e : aU) : fnT (oc e) 0 yh [.dsl 0 false [], ab ak e] [] = (
 .bind PUnit.unit fun _ => .ag [ao Tryz.prog 201 [.dsl 0 false []] [] (aj.mk (.dsl 0 true []) [] [])] (.bind PUnit.unit fun _ => .ag [ao Tryz.prog 135 [.dsl 0 true [], .fn 202 [.ptr 0 0]] [b6 e] (aj.mk (.dsl 0 false []) [b6
  e] [])] (.done (aj.mk (.dsl 0 false []) [] []))) : T _) := (T.force_eq _).symm.trans (by kernel_rfl)
theorem PO (e : aU) : fnT (oc e) 0 nb [.dsl 0 true [], .fn jk [.ptr 0 0]] [b6 e] = (
 .bind PUnit.unit fun _ => .ag [ao Tryz.prog 206 [.dsl 0 true [], .fn 202 [.ptr 0 0]] [b6 e] (aj.mk (aa (-1 : Int)) [b6 e] [])] (.done (aj.mk (.dsl 0 false []) [b6 e] [])) : T _) := (T.force_eq _).symm.trans (by kernel_rfl)
theorem T8 (e : aU) : fnT (oc e) 0 fT [.dsl 0 true [], .fn jk [.ptr 0 0]] [b6 e] = (
 let q := ai 19 [(0, .dsl 0 true []), (1, .fn 202 [.ptr 0 0]), (7, aa 0), (8, aa 0)]; .bind PUnit.unit fun _ => .ag [St.mk q [b6 e] [] = St.mk q [b6 e] [], aV Tryz.prog 1 (blk Tryz.prog fT 0) (St.mk q [b6 e] []) (Ex.exit
  0) (St.mk (ai 19 []) [b6 e] [])] (.done (aj.mk (aa (-1 : Int)) [b6 e] [])) : T _) := (T.force_eq _).symm.trans (by kernel_rfl)
theorem T7 (e : aU) : bx (oc e) 1 kW (lp Tryz.prog fT 0) ⟨ai 19 [(0, .dsl 0 true []), (1, .fn jk [.ptr 0 0]), (7, .int .i64 0), (8, .int .i64 0)], [b6 e], []⟩ = (
 .done (Ex.exit 0, St.mk (ai 19 []) [b6 e] []) : T _) := (T.force_eq _).symm.trans (by kernel_rfl)
theorem O2 {d : aU} (hd : d ≠ []) (hl : d.length <= 1048576) : ao Tryz.prog sI [ab ak d] [] ⟨.sl 0 0 d.length false, [gr d], []⟩ := by
 obtain ⟨n, hn⟩ : ∃ n, d.length = n + 1 := ⟨d.length - 1, by have := List.length_pos_iff.2 hd; omega⟩
 show ao Tryz.prog sI [.dsl d.length false (ah ak d)] [] _
 have cC := bq.length d
 rw [hn] at cC ⊢
 refine bh (E := cH) follows named (O1 d n) (by simp) ?_
 simp only [T.WP, All, aA, Nat.zero_add]
 exact ⟨⟨cC, bq.all d, bn, bn, af, af⟩, aQ⟩
theorem Ub (L d : aU) (h : L.length <= 1048576) (hd : d.length <= 1048576) :
  (fidx (cd d) L 0 < 0 -> a8 Tryz.prog 2 (lp Tryz.prog fT 0) (wN L d 0) (.exit 0) ⟨ai 19 [], [gr L, b6 d], []⟩) /\
  (0 <= fidx (cd d) L 0 -> a8 Tryz.prog 2 (lp Tryz.prog fT 0) (wN L d 0) .ret ⟨ai 19 [(4, .int .i64 (fidx (cd d) L 0))], [gr L, b6 d], []⟩) := by
 refine lA (E := cH) (m := 2) (nf := kW) (st := fun i => wN L d (i : Nat)) (sr := fun j => ⟨ai 19 [(4, .int .i64 j)], [gr L, b6 d], []⟩) (cd d) L ⟨0, 0, []⟩ follows named (by simp) (by simp) (fun i => T9 L d (i : Nat)) (fun i hi => ?_) ?_ L.length 0 (by simp)
 ·have aL := bq.at L ⟨0, 0, []⟩ i 3 hi rfl
  have CP : i * 3 / 3 = i := by omega
  simp only [az, T.WP, All, aB, aC, aA, Int.toNat_natCast, bq.ae, Nat.zero_add, CP, bE (show i < 9223372036854775807 by omega)]
  refine ⟨fun _ => ⟨aK, aL, ?_⟩, fun h => by omega⟩
  rintro y e
  have e : y = cd d (L.getD i ⟨0, 0, []⟩) := e
  rw [<- e]
  refine ⟨by rw [e]; exact JF _ d hd, fun h => ?_, fun h => ?_⟩
  ·rw [h]; rfl
  ·rw [h]; rfl
 ·simp only [az, T.WP, All, aB, aC, aA]
  exact ⟨fun h => by omega, fun _ => rfl⟩
theorem Uc (L d : aU) (h : L.length <= 1048576) (hd : d.length <= 1048576) : ao Tryz.prog fT [.sl 0 0 L.length false, .fn jk [.ptr 1 0]] [gr L, b6 d] ⟨.int .i64 (fidx (cd d) L 0), [gr L, b6 d], []⟩ := by
 have hl := Ub L d h hd
 refine bh (E := FQ L d) follows named (Ua L d) (by simp) ?_
 simp only [az, T.WP, All, aB, aC, aA]
 rintro y e
 have e : y = fidx (cd d) L 0 := e
 rw [<- e] at hl ⊢
 refine ⟨bn, fun h0 => ⟨.bg (hl.1 h0), ?_⟩, fun h0 => ⟨.bg (hl.2 af), aQ⟩⟩
 have e1 : y = -1 := by
  rcases jN (cd d) L 0 with h2 | h2 <;> omega
 rw [e1]; exact aQ
theorem BL {n : Nat} {d : aU} (hn : n <= 1048576) (hd : d.length <= 1048576) : ∀ (k j i : Nat) (L : aU), j + k = n -> L.length = n -> i < j -> ∃ (L' : aU) (i' : Nat), a8 Tryz.prog 2 (lp Tryz.prog nb 0) (z1 n L d i j) (.exit 0) ⟨ai 42 [(0, .sl 0 0 n false), (5, .int .i64 i')], [gr L', b6 d], [0]⟩ /\ L'.length = n /\ i' < n /\ L'.take i' = L.take i ++ (L.drop j).filter fun x => !cd d x
 | 0, j, i, L, hj, hL, hi => by
  have hj : j = n := hj
  subst hj
  refine ⟨L, i, ?_, hL, hi, by rw [List.drop_of_length_le af]; simp⟩
  refine bl (E := cH) follows named (Hf j L d (i : Nat) (j : Nat)) ?_
  simp only [az, T.WP, All, aB, aC, aA]
  exact ⟨fun h => af, fun _ => ⟨rfl, rfl⟩⟩
 | k + 1, j, i, L, hj, hL, hi => by
  have fW : j < L.length := af
  have bH : i < L.length := af
  have aL := bq.at L ⟨0, 0, []⟩ j 3 fW rfl
  have oW := bq.at L ⟨0, 0, []⟩ i 3 bH rfl
  have CP : j * 3 / 3 = j := af
  have RU : i * 3 / 3 = i := af
  have w1 : IntKind.i64.wrap ((i : Int) + 1) = ((i + 1 : Nat) : Int) := bE af
  have w2 : IntKind.i64.wrap ((j : Int) + 1) = ((j + 1 : Nat) : Int) := bE af
  have fX := JF (L.getD j ⟨0, 0, []⟩) d hd
  have IV := bq.length L
  have Du := Hf n L d (i : Nat) (j : Nat)
  simp only [Int.toNat_natCast, bq.ae, Nat.zero_add, CP, RU, w1, w2] at Du
  rw [gh ⟨0, 0, []⟩ fW, List.filter_cons]
  cases hy : cd d (L.getD j ⟨0, 0, []⟩) with
  | true =>
   obtain ⟨L', i', h1, h2, h3, h4⟩ := BL hn hd k (j + 1) i L af hL af
   refine ⟨L', i', ?_, h2, h3, by simpa using h4⟩
   refine bl (E := cH) follows named Du ?_
   simp only [az, T.WP, All, aB, aC, aA]
   refine ⟨fun _ => ⟨⟨af, af⟩, aL, ?_⟩, fun h => af⟩
   rintro y e
   have e : y = true := by rw [<- hy]; exact e
   subst e
   rw [hy] at fX
   exact ⟨fX, fun h => by simp at h, fun _ => h1⟩
  | false =>
   have ph : (L.set i (L.getD j ⟨0, 0, []⟩)).length = n := by rw [List.length_set]; exact hL
   obtain ⟨L', i', h1, h2, h3, h4⟩ := BL hn hd k (j + 1) (i + 1) (L.set i (L.getD j ⟨0, 0, []⟩)) af ph af
   have et : (L.set i (L.getD j ⟨0, 0, []⟩)).take (i + 1) = L.take i ++ [L.getD j ⟨0, 0, []⟩] := by
    apply List.ext_getElem?
    intro q
    rw [List.getElem?_take, List.getElem?_set, List.getElem?_append, List.length_take, Nat.min_eq_left af, List.getElem?_take]
    by_cases h1 : q < i
    ·rw [if_pos af, if_neg af, if_pos h1, if_pos h1]
    ·by_cases h2 : q = i
     ·subst h2
      rw [if_pos af, if_pos rfl, if_pos bH, if_neg af, Nat.sub_self]; rfl
     ·rw [if_neg af, if_neg h1, List.getElem?_eq_none (by simp; omega)]
   have ed : (L.set i (L.getD j ⟨0, 0, []⟩)).drop (j + 1) = L.drop (j + 1) := by
    apply List.ext_getElem?
    intro q
    rw [List.getElem?_drop, List.getElem?_drop, List.getElem?_set, if_neg af]
   rw [et, ed] at h4
   refine ⟨L', i', ?_, h2, h3, by simpa using h4⟩
   refine bl (E := cH) follows named Du ?_
   simp only [az, T.WP, All, aB, aC, aA]
   refine ⟨fun _ => ⟨⟨af, af⟩, aL, ?_⟩, fun h => af⟩
   rintro y e
   have e : y = false := by rw [<- hy]; exact e
   subst e
   rw [hy] at fX
   refine ⟨fX, fun _ => ⟨⟨af, af⟩, ⟨oW, af⟩, ?_⟩, fun h => by simp at h⟩
   simp only [z1, gr, bq.setAt L i bH] at h1
   exact h1
theorem HM {α : Type} (p : α -> Bool) : ∀ (l : List α) (i : Nat), 0 <= fidx p l i -> l.filter (fun x => !p x) = l.take ((fidx p l i).toNat - i) ++ (l.drop ((fidx p l i).toNat - i + 1)).filter fun x => !p x
 | [], i, h => by simp [fidx] at h
 | x :: t, i, h => by
  rw [fidx] at h ⊢
  cases hp : p x with
  | true =>
   rw [cond_true, Int.toNat_natCast, Nat.sub_self]
   simp [hp]
  | false =>
   rw [hp, cond_false] at h
   rw [cond_false]
   have ih := HM p t (i + 1) h
   have gm : (i : Int) + 1 <= fidx p t (i + 1) := by
    rcases jN p t (i + 1) with h2 | h2 <;> omega
   obtain ⟨q, hq⟩ : ∃ q, (fidx p t (i + 1)).toNat - i = q + 1 := ⟨(fidx p t (i + 1)).toNat - (i + 1), by omega⟩
   rw [show (fidx p t (i + 1)).toNat - (i + 1) = q by omega] at ih
   rw [hq, List.filter_cons, hp, List.take_succ_cons, List.drop_succ_cons, ih]
   simp
theorem PS {L d : aU} (hL : L.length <= 1048576) (hd : d.length <= 1048576) : ao Tryz.prog nb [.sl 0 0 L.length false, .fn jk [.ptr 1 0]] [gr L, b6 d] ⟨.sl 0 0 (dr L d).length false, [gr (dr L d), b6 d], [0]⟩ := by
 have tv := Uc L d hL hd
 by_cases h0 : fidx (cd d) L 0 < 0
 ·have hy : fidx (cd d) L 0 = -1 := by
   rcases jN (cd d) L 0 with h2 | h2 <;> omega
  have em : dr L d = L := by
   unfold dr
   rw [List.filter_eq_self]
   intro x hx
   cases hh : cd d x with
   | false => rfl
   | true => exact absurd ((s8 (p := cd d) (l := L) (i := 0)).2 ⟨x, hx, hh⟩) af
  rw [em]
  refine bh (E := AM L d L 0) follows named (Hg L d L 0) (by simp) ?_
  simp only [az, T.WP, All, aB, aC, aA, aD, aE, aF]
  rintro y e
  have e : y = -1 := by rw [<- hy]; exact e
  subst e
  rw [hy] at tv
  exact ⟨tv, fun _ => aQ, fun h => absurd rfl h⟩
 ·obtain ⟨i0, tr⟩ : ∃ i0 : Nat, fidx (cd d) L 0 = i0 := ⟨(fidx (cd d) L 0).toNat, af⟩
  have bO := (s7 (p := cd d) (l := L) ⟨0, 0, []⟩ af).1
  have hf := HM (cd d) L 0 af
  rw [tr] at bO hf
  rw [Int.toNat_natCast] at bO hf
  obtain ⟨L', i', h1, h2, h3, h4⟩ := BL (n := L.length) (d := d) hL hd (L.length - (i0 + 1)) (i0 + 1) i0 L af rfl af
  have em : dr L d = L'.take i' := by
   rw [h4]; exact hf
  have hlen : (dr L d).length = i' := by rw [em, List.length_take]; omega
  have w1 : IntKind.i64.wrap ((i0 : Int) + 1) = ((i0 + 1 : Nat) : Int) := bE af
  have IV := bq.length L'
  have S7 := bq.take L' i'
  rw [hlen, em]
  refine bh (E := AM L d L' i') follows named (Hg L d L' (i' : Nat)) (by simp) ?_
  simp only [az, T.WP, All, aB, aC, aA, aD, aE, aF, Int.toNat_natCast, Nat.zero_add]
  rintro y e
  have e : y = (i0 : Int) := by rw [<- tr]; exact e
  subst e
  rw [tr] at tv
  refine ⟨tv, fun h => af, fun _ => ?_⟩
  rintro _ -
  rw [w1]
  refine ⟨⟨bn, .bg h1⟩, fun _ => ⟨⟨af, af⟩, ⟨af, by rw [IV, h2, <- Nat.add_mul]; exact Nat.mul_le_mul_right 3 af⟩, ⟨af, af⟩, ?_⟩, fun h => absurd h3 h⟩
  rw [S7]
  exact aQ
theorem JG (d e : aU) (hd : d.length <= 1048576) (he : e.length <= 1048576) : ao Tryz.prog yh [ab ak d, ab ak e] [] ⟨ab ak (dr d e), [], []⟩ := by
 by_cases h0 : d = []
 ·subst h0
  have tv : ao Tryz.prog fT [.dsl 0 true [], .fn jk [.ptr 0 0]] [b6 e] ⟨.int .i64 (-1), [b6 e], []⟩ := by
   refine bh (E := oc e) follows named (T8 e) (by simp) ?_
   simp only [T.WP, All, aA]
   rintro _ -
   refine ⟨⟨bn, .bg ?_⟩, aQ⟩
   refine bl (E := oc e) follows named (T7 e) ?_
   exact ⟨rfl, rfl⟩
  have RM : ao Tryz.prog nb [.dsl 0 true [], .fn jk [.ptr 0 0]] [b6 e] ⟨.dsl 0 false [], [b6 e], []⟩ := by
   refine bh (E := oc e) follows named (PO e) (by simp) ?_
   simp only [T.WP, All, aA]
   rintro _ -
   exact ⟨tv, aQ⟩
  refine bh (E := oc e) follows named (Up e) (by simp) ?_
  simp only [T.WP, All, aA]
  rintro _ -
  refine ⟨O0, ?_⟩
  rintro _ -
  exact ⟨RM, aQ⟩
 ·refine bh (E := FR d e) follows named (Ur d e) (by simp) ?_
  simp only [T.WP, All, aA]
  rintro _ -
  refine ⟨O2 h0 hd, ?_⟩
  rintro y rfl
  exact ⟨PS hd he, aQ⟩
theorem Gz (a b : Int) : (cI a b < 0) ↔ a < b := by
 unfold cI
 by_cases h : a < b
 ·rw [decide_eq_true h, cond_true]; simp [h]
 ·rw [decide_eq_false h, cond_false]
  by_cases h2 : a > b
  ·rw [decide_eq_true h2, cond_true]; simp [h]
  ·rw [decide_eq_false h2, cond_false]; simp [h]
theorem Gy (a b : Int) : (cI a b <= 0) ↔ a <= b := by
 unfold cI
 by_cases h : a < b
 ·rw [decide_eq_true h, cond_true]; exact ⟨fun _ => af, fun _ => af⟩
 ·rw [decide_eq_false h, cond_false]
  by_cases h2 : a > b
  ·rw [decide_eq_true h2, cond_true]; exact ⟨fun h3 => af, fun h3 => af⟩
  ·rw [decide_eq_false h2, cond_false]; exact ⟨fun _ => af, fun _ => af⟩
theorem O5 {a b : At} (hk : a.kind = b.kind) (ha : a.t = []) (hb : b.t = []) : jJ a b = cI a.n b.n := by
 have e : cI b.kind b.kind = 0 := by unfold cI; simp
 unfold jJ
 rw [hk, ha, hb, e]
 simp only [orF]
 cases h : (cI a.n b.n != 0)
 ·have : cI a.n b.n = 0 := by simpa using h
  rw [this]; rfl
 ·simp
def Dz (t : Tb) (r : Rw) (c : a6) : Bool :=
 bif c.func == 1 then decide (dS t r c.aG = c.val)
 else bif c.func == 2 then !decide (dS t r c.aG = c.val)
 else bif c.func == 7 then (dr c.val (dS t r c.aG)).length == 0
 else bif c.func == 8 then (dr c.val (dS t r c.aG)).length == c.val.length
 else sB (dS t r c.aG) c
structure fh (t : Tb) (c : a6) : Prop where
 i : nY c
 n : jv t c = 0
 s : eM t c = 0
 m : j9 c
 o : 3 <= c.func /\ c.func <= 6 -> c.val.length = 1 /\ b7 1 c.val /\ ∃ k, 0 <= bf t c.aG /\ (bf t c.aG).toNat = k /\ (t.aw.getD k .zero).kind = 1 /\ (t.aw.getD k .zero).max = 1
theorem Gp {a : At} (h : fk a = true) (hk : a.kind = 1) : a.t = [] := by
 unfold fk at h
 rw [show (a.kind == 1) = true by simpa using hk, cond_true] at h
 simp only [Bool.and_eq_true, List.isEmpty_iff] at h
 exact h.2
theorem VM {t : Tb} {r : Rw} {c : a6} (hc : fh t c) (hr : dh t r) : Dz t r c = cN t r c := by
 unfold Dz cN
 cases h1 : (c.func == 1)
 ·cases h2 : (c.func == 2)
  ·cases h7 : (c.func == 7)
   ·cases h8 : (c.func == 8)
    ·simp only [cond_false]
     have hf := hc.i.f
     have h1 : c.func ≠ 1 := by simpa using h1
     have h2 : c.func ≠ 2 := by simpa using h2
     have h7 : c.func ≠ 7 := by simpa using h7
     have h8 : c.func ≠ 8 := by simpa using h8
     obtain ⟨hl, hv, k, yN, hk, Sf, Sg⟩ := hc.o (by omega)
     have pd : k < t.aw.length := by rw [<- hk]; exact mi yN
     obtain ⟨hd, RZ⟩ := hr.d k pd
     have e : dS t r c.aG = r.cells.getD k [] := by
      unfold dS
      rw [decide_eq_false (show ¬ bf t c.aG < 0 by omega), cond_false, hk]
     have kO := (u0 RZ).2
     rw [Sg] at kO
     rw [Sf] at hd
     rw [e]
     unfold sB
     by_cases h0 : (r.cells.getD k []).length = 0
     ·rw [show ((r.cells.getD k []).length == 0) = true by simpa using h0, cond_true, h0]; rfl
     ·have Q5 : (r.cells.getD k []).length = 1 := by omega
      have ha := hd.ok _ (bP ⟨0, 0, []⟩ (show 0 < (r.cells.getD k []).length by omega))
      have hb := hv.ok _ (bP ⟨0, 0, []⟩ (show 0 < c.val.length by omega))
      rw [show ((r.cells.getD k []).length == 0) = false by simpa using h0, cond_false, show (((r.cells.getD k []).length : Int) != 1) = false by rw [Q5]; rfl, cond_false,
       O5 (ha.2.trans hb.2.symm) (Gp ha.1 ha.2) (Gp hb.1 hb.2)]
      have g1 : ∀ x y : Int, decide (cI x y < 0) = decide (x < y) := fun x y => decide_eq_decide.2 (Gz x y)
      have g2 : ∀ x y : Int, decide (cI x y <= 0) = decide (x <= y) := fun x y => decide_eq_decide.2 (Gy x y)
      have g3 : ∀ x y : Int, decide (cI x y > 0) = decide (x > y) := fun x y => decide_eq_decide.2 (by have := Gy x y; omega)
      have g4 : ∀ x y : Int, decide (cI x y >= 0) = decide (x >= y) := fun x y => decide_eq_decide.2 (by have := Gz x y; omega)
      rw [g1, g2, g3, g4]
      rfl
    ·rfl
   ·rfl
  ·rfl
 ·rfl
def jw (n : Int) : Int := [0, 2, 1, 6, 5, 4, 3, 7, 8].getD n.toNat 0
def nN (c : a6) : a6 := ⟨c.aG, jw c.func, c.val⟩
theorem Cy {n : Int} (h : 1 <= n /\ n <= 8) : n = 1 \/ n = 2 \/ n = 3 \/ n = 4 \/ n = 5 \/ n = 6 \/ n = 7 \/ n = 8 := af
theorem Ya {t : Tb} {c : a6} (h : fh t c) : fh t (nN c) := by
 have hf : 1 <= jw c.func /\ jw c.func <= 8 /\ (3 <= jw c.func /\ jw c.func <= 6 ↔ 3 <= c.func /\ c.func <= 6) := by
  rcases Cy h.i.f with e | e | e | e | e | e | e | e <;> rw [e] <;> decide
 have cL : bz (jw c.func) 3 6 = bz c.func 3 6 := by
  unfold bz
  rw [Bool.eq_iff_iff]
  simp only [Bool.and_eq_true, decide_eq_true_eq]
  exact hf.2.2
 refine ⟨⟨⟨hf.1, hf.2.1⟩, h.i.d, h.i.l, h.i.n⟩, ?_, ?_, ⟨h.m.n, ?_⟩, fun ho => h.o (hf.2.2.1 ho)⟩
 ·have := h.n
  unfold jv uR at this ⊢
  simp only [nN, cL]
  exact this
 ·have := h.s
  unfold eM at this ⊢
  simp only [nN, cL]
  exact this
 ·simp only [nN]
  by_cases yE : 3 <= c.func /\ c.func <= 6
  ·have := (h.o yE).1
   exact .inr (.inr (.inr (.inr (by intro e; rw [e] at this; simp at this))))
  ·have h2 : ¬ (3 <= jw c.func /\ jw c.func <= 6) := fun h => yE (hf.2.2.1 h)
   omega
theorem Ou {t : Tb} {r : Rw} {c : a6} (h : fh t c) (hf : c.func < 7) : (cN t r c && cN t r (nN c)) = false := by
 unfold cN nN
 simp only
 have Iz := h.i.f
 have : c.func = 1 \/ c.func = 2 \/ c.func = 3 \/ c.func = 4 \/ c.func = 5 \/ c.func = 6 := af
 cases h0 : ((dS t r c.aG).length == 0) <;> rcases this with e | e | e | e | e | e <;> rw [e] <;>
  simp [jw] <;> omega
theorem gO.X {t : Nat} (ht : t < 3) {c : a6} (h : gO (bA t) c) : fh (bA t) c := by
 have hG := iL ht
 have hu : bf (bA t) ld < 0 := by
  have : t = 0 \/ t = 1 \/ t = 2 := by omega
  rcases this with rfl | rfl | rfl <;> decide
 have Sq : ∀ c ∈ (bA t).aw, (c.kind = 1 -> c.max = 1) /\ c.name.length <= 40 := by
  have : t = 0 \/ t = 1 \/ t = 2 := by omega
  rcases this with rfl | rfl | rfl <;> decide
 have IS : ∀ {k : Int}, b7 k c.val -> 0 < c.val.length -> (c.val.getD 0 .zero).kind = k := fun hd hl => (hd.ok _ (bP At.zero hl)).2
 rcases h.aG with ⟨h1, h2, h3, h4⟩ | ⟨cc, dv, h1, h2, h3⟩
 ·have cL : bz c.func 3 6 = false := by unfold bz; simp; omega
  have hk := IS h2 (by omega)
  refine ⟨⟨h.fn, ⟨_, h2⟩, h.len, by rw [h1]; decide⟩, ?_, ?_, h.s, fun ho => absurd ho h4⟩
  ·unfold jv uR py
   rw [h1, decide_eq_false (show ¬ 0 <= bf (bA t) ld by omega), cond_false, show (ld == iq) = true by decide, cond_true, cL, hk, h3]
   rfl
  ·unfold eM
   simp only
   rw [h1, decide_eq_false (show ¬ 0 <= bf (bA t) ld by omega), cond_false, show (ld != iq) = false by decide, Bool.and_false, cond_false, cL, hk]
   simp
 ·obtain ⟨bm, dw⟩ := hG.pl cc dv
  have hm := Sq cc dv
  rw [<- h1] at bm dw
  have cL : bz c.func 3 6 = true -> cc.kind = 1 /\ c.val.length = 1 := fun hi => h3 (by unfold bz at hi; simpa using hi)
  have hk := fun hl => IS h2 hl
  have hv : (decide (0 < c.val.length) && (c.val.getD 0 .zero).kind != cc.kind) = false := by
   by_cases hl : 0 < c.val.length
   ·rw [hk hl]; simp
   ·simp [hl]
  have ho : (bz c.func 3 6 && (cc.kind != 1 || (cc.max != 1 || (c.val.length : Int) != 1))) = false := by
   cases hi : bz c.func 3 6
   ·rfl
   ·obtain ⟨e1, e2⟩ := cL hi
    rw [e1, hm.1 e1, e2]; rfl
  refine ⟨⟨h.fn, ⟨_, h2⟩, h.len, by rw [h1]; exact hm.2⟩, ?_, ?_, h.s, fun yE => ?_⟩
  ·unfold jv uR py
   rw [decide_eq_true bm, cond_true, dw]
   have Te : (decide ((c.val.length : Int) > 0) && (c.val.getD 0 .zero).kind != cc.kind) = false := by
    rw [<- hv]
    congr 1
    exact decide_eq_decide.2 (by omega)
   simp only [Te, ho]
   rfl
  ·unfold eM
   simp only
   rw [decide_eq_true bm, cond_true, decide_eq_false (show ¬ bf (bA t) c.aG < 0 by omega), Bool.false_and, cond_false, dw, hv, cond_false]
   have Db : (bz c.func 3 6 && (cc.kind != 1 || cc.max != 1 || c.val.length != 1)) = false := by
    cases hi : bz c.func 3 6
    ·rfl
    ·obtain ⟨e1, e2⟩ := cL hi
     rw [e1, hm.1 e1, e2]; rfl
   rw [Db]
   rfl
  ·obtain ⟨e1, e2⟩ := h3 yE
   rw [e1] at h2
   exact ⟨e2, h2, _, bm, rfl, by rw [dw]; exact e1, by rw [dw]; exact hm.1 e1⟩
abbrev mn : Nat := 129
abbrev yi : Nat := 62
abbrev qw : Nat := 47
abbrev af9 : Nat := 44
abbrev af7 : Nat := 53
def gN (t : Tb) : Option bM := some (aq t, af9)
def ig (r : Rw) : Option bM := some (av r, af7)
noncomputable def Ez : cP := fun f vs hp => match vs, hp with
 | [.agg [.str cn, .int _ fn, .dsl _ _ va], .ptr 0 0, .ptr 1 0], [some ([.str tn, .dsl _ _ cc, .dsl _ _ uu, .bool q], _), some ([.int _ d, .dsl _ _ cs], _)] => bif Nat.beq f mn then some ⟨!cN (bw tn cc uu q) ⟨d, ae a7 cs⟩ ⟨cn, fn, ae ak va⟩, fun y => ⟨.bool y, [gN (bw tn cc uu q), ig ⟨d, ae a7 cs⟩], []⟩⟩ else none
 | [.dsl _ _ ls, .fn g [.ptr 0 0, .ptr 1 0]], [some ([.str tn, .dsl _ _ cc, .dsl _ _ uu, .bool q], _), some ([.int _ d, .dsl _ _ cs], _)] =>
  bif Nat.beq f jL && Nat.beq g mn then some ⟨fidx (fun c : a6 => !cN (bw tn cc uu q) ⟨d, ae a7 cs⟩ c) (ae aH ls) 0, fun y => ⟨.int .i64 y, [gN (bw tn cc uu q), ig ⟨d, ae a7 cs⟩], []⟩⟩ else
  bif Nat.beq f sK && Nat.beq g mn then some ⟨(ae aH ls).any (fun c : a6 => !cN (bw tn cc uu q) ⟨d, ae a7 cs⟩ c), fun y => ⟨.bool y, [gN (bw tn cc uu q), ig ⟨d, ae a7 cs⟩], []⟩⟩ else none
 | [.agg [.str tn, .dsl _ _ cc, .dsl _ _ uu, .bool q], .agg [.int _ d, .dsl _ _ cs], .agg [.str cn, .int _ fn, .dsl _ _ va]], [] => bif Nat.beq f yk then some ⟨cN (bw tn cc uu q) ⟨d, ae a7 cs⟩ ⟨cn, fn, ae ak va⟩, fun y => ⟨.bool y, [], []⟩⟩ else none
 | [.agg [.str tn, .dsl _ _ cc, .dsl _ _ uu, .bool q], .agg [.int _ d, .dsl _ _ cs], .dsl _ _ ls], [] => bif Nat.beq f yi then some ⟨cE (bw tn cc uu q) ⟨d, ae a7 cs⟩ (ae aH ls), fun y => ⟨.bool y, [], []⟩⟩ else none
 | [.dsl _ _ ds, .agg [.str cn, .int _ fn, .dsl _ _ va]], [] => bif Nat.beq f B8 then some ⟨sB (ae ak ds) ⟨cn, fn, ae ak va⟩, fun y => ⟨.bool y, [], []⟩⟩ else mQ f vs hp
 | [.agg [.str tn, .dsl _ _ cc, .dsl _ _ uu, .bool q], .dsl _ _ rs, .dsl _ _ ls], [] => bif Nat.beq f qw then some ⟨bK (bw tn cc uu q) (ae av rs) (ae aH ls), fun y => ⟨ab aN y, [], []⟩⟩ else none
 | _, _ => mQ f vs hp
noncomputable def fj : Env := { P := Tryz.prog, vw := cq, res := Ez }
theorem VL (t : Tb) (r : Rw) (c : a6) : fnT fj 0 yk [.agg (aq t), .agg (av r), .agg (aH c)] [] = (
 let q := ah ak c.val;
 let q1 := ae ak q; .bind (dS (bw t.name (ah ba t.aw) (ah aN t.uniq) t.root) (Rw.mk r.id (ae a7 (ah a7 r.cells))) c.aG) fun y0 =>
 let q2 := ah ak y0;
 let q3 := decide (ae ak q2 = ae ak q);
 let q4 := ae ak q2; .ag [ao (Env.P fj) 125 [.agg (aq t), .agg (av r), .str c.aG] [] (aj.mk (ab ak y0) [] [])] (bif c.func == 1 then .bind q3 fun y1 => .ag [ao (Env.P fj) 126 [ab ak y0, ab ak c.val] []
  (aj.mk (.bool y1) [] [])] (.done (aj.mk (.bool y1) [] [])) else bif c.func == 2 then .bind q3 fun y2 => .ag [ao (Env.P fj) 126 [ab ak y0, ab ak c.val] [] (aj.mk (.bool y2) [] [])] (.done (aj.mk (.bool !y2) [] [])) else
  bif c.func == 7 then .bind (dr q1 q4) fun y3 => .ag [ao (Env.P fj) 127 [ab ak c.val, ab ak y0] [] (aj.mk (ab ak y3) [] [])] (.done (aj.mk (.bool ((↑y3.length : Int) == 0)) [] [])) else bif c.func == 8 then .bind
  (dr q1 q4) fun y4 => .ag [ao (Env.P fj) 127 [ab ak c.val, ab ak y0] [] (aj.mk (ab ak y4) [] [])] (.done (aj.mk (.bool ((↑y4.length : Int) == (↑c.val.length : Int))) [] [])) else .bind (sB q4 (a6.mk c.aG
  c.func q1)) fun y5 => .ag [ao (Env.P fj) 128 [ab ak y0, .agg (aH c)] [] (aj.mk (.bool y5) [] [])] (.done (aj.mk (.bool y5) [] []))) : T _) := (T.force_eq _).symm.trans (by kernel_rfl)
theorem VF (t : Tb) (r : Rw) (c : a6) : fnT fj 0 mn [.agg (aH c), .ptr 0 0, .ptr 1 0] [gN t, ig r] = (
 .bind (cN (bw t.name (ah ba t.aw) (ah aN t.uniq) t.root) (Rw.mk r.id (ae a7 (ah a7 r.cells))) (a6.mk c.aG c.func (ae ak (ah ak c.val)))) fun y0 => .ag [ao (Env.P fj) 61 [.agg (aq t),
  .agg (av r), .agg (aH c)] [] (aj.mk (.bool y0) [] [])] (.done (aj.mk (.bool !y0) [some ((aq t), 44), some ((av r), 53)] [])) : T _) := (T.force_eq _).symm.trans (by kernel_rfl)
def wK (t : Tb) (r : Rw) (l : List a6) (i : Int) : St := ⟨ai 19 [(0, ab aH l), (1, .fn mn [.ptr 0 0, .ptr 1 0]), (7, .int .i64 l.length), (8, .int .i64 i)], [gN t, ig r], []⟩
theorem TO (t : Tb) (r : Rw) (l : List a6) (i : Int) : bx fj 2 kW (lp Tryz.prog jL 0) (wK t r l i) = (
 let q := List.getD (ae aH (ah aH l)) i.toNat (a6.mk [] (0 : Int) []);
 let q1 : Hp := [some ((aq t), 44), some ((av r), 53)];
 let q2 := bw t.name (ah ba t.aw) (ah aN t.uniq) t.root;
 let q3 := Rw.mk r.id (ae a7 (ah a7 r.cells));
 let q4 := (↑l.length : Int); bif decide (i < q4) then .ag [0 <= i /\ i < q4, List.take 3 (List.drop (i.toNat * 3) (ah aH l)) = (aH q)] (.bind (!cN q2 q3 (a6.mk q.aG q.func (ae ak (ah ak q.val)))) fun y0 => .ag
  [ao (Env.P fj) 129 [.agg (aH q), .ptr 0 0, .ptr 1 0] q1 (aj.mk (.bool y0) [some ((aq q2), 44), some ((av q3), 53)] [])] (bif y0 then .done (Ex.ret, St.mk (ai 19 [(4, aa i)]) q1 []) else .done (Ex.normal, St.mk (ai 19
  [(0, ab aH l), (1, .fn 129 [.ptr 0 0, .ptr 1 0]), (7, aa q4), (8, aa (IntKind.i64.wrap (i + 1)))]) q1 []))) else .done (Ex.exit 0, St.mk (ai 19 []) q1 []) : T _) := by kernel_rfl
noncomputable def FO (t : Tb) (r : Rw) (l : List a6) : Env := { P := Tryz.prog, vw := cq, res := Ez, ls := fun id _ => match id with
 | 0 => some ⟨fidx (fun c : a6 => !cN t r c) l 0, fun y => .two { keep := [0, 1, 7, 8] } (wK t r l 0) (decide (y < 0)) (.exit 0) ⟨ai 19 [], [gN t, ig r], []⟩ .ret ⟨ai 19 [(4, .int .i64 y)], [gN t, ig r], []⟩⟩
 | _ => none }
theorem TP (t : Tb) (r : Rw) (l : List a6) : fnT (FO t r l) 0 jL [ab aH l, .fn mn [.ptr 0 0, .ptr 1 0]] [gN t, ig r] = (
 let q := ai 19 [(0, ab aH l), (1, .fn 129 [.ptr 0 0, .ptr 1 0]), (7, aa (↑l.length : Int)), (8, aa 0)];
 let q1 : Hp := [some ((aq t), 44), some ((av r), 53)]; .bind (fidx (fun c => !cN t r c) l 0) fun y0 => .ag [St.mk q q1 [] = St.mk q q1 []] (bif decide (y0 < 0) then .ag [aV Tryz.prog 2 (blk Tryz.prog jL 0) (St.mk q
  q1 []) (Ex.exit 0) (St.mk (ai 19 []) q1 [])] (.done (aj.mk (aa (-1 : Int)) q1 [])) else .ag [aV Tryz.prog 2 (blk Tryz.prog jL 0) (St.mk q q1 []) Ex.ret (St.mk (ai 19 [(4, aa y0)]) q1 [])] (.done (aj.mk (aa y0) q1
  []))) : T _) := (T.force_eq _).symm.trans (by kernel_rfl)
theorem TM (t : Tb) (r : Rw) (l : List a6) : fnT fj 0 sK [ab aH l, .fn mn [.ptr 0 0, .ptr 1 0]] [gN t, ig r] = (
 let q := bw t.name (ah ba t.aw) (ah aN t.uniq) t.root;
 let q1 := Rw.mk r.id (ae a7 (ah a7 r.cells));
 let q2 : Hp := [some ((aq t), 44), some ((av r), 53)]; .bind (fidx (fun c => !cN q q1 c) (ae aH (ah aH l)) 0) fun y0 => .ag [ao (Env.P fj) 187 [ab aH l, .fn 129 [.ptr 0 0, .ptr 1 0]] q2 (aj.mk (aa y0)
  [some ((aq q), 44), some ((av q1), 53)] [])] (.done (aj.mk (.bool (decide (y0 >= 0))) q2 [])) : T _) := (T.force_eq _).symm.trans (by kernel_rfl)
theorem VD (t : Tb) (r : Rw) (l : List a6) : fnT fj 0 yi [.agg (aq t), .agg (av r), ab aH l] [] = (
 let q := bw t.name (ah ba t.aw) (ah aN t.uniq) t.root;
 let q1 := Rw.mk r.id (ae a7 (ah a7 r.cells)); .bind (List.any (ae aH (ah aH l)) fun c => !cN q q1 c) fun y0 => .ag [ao (Env.P fj) 108 [ab aH l, .fn 129 [.ptr 0 0, .ptr 1 0]] [some ((aq t), 44),
  some ((av r), 53)] (aj.mk (.bool y0) [some ((aq q), 44), some ((av q1), 53)] [])] (.done (aj.mk (.bool !y0) [] [])) : T _) := (T.force_eq _).symm.trans (by kernel_rfl)
def Ae (t : Tb) (rows : List Rw) (l : List a6) (o : List Int) (i : Int) : St := ⟨ai 28 [(2, ab aH l), (3, .ptr 0 0), (7, .sl 1 0 o.length false), (11, ab av rows), (12, .int .i64 rows.length), (13, .int .i64 i)], [gN t, some ([.aJ (ah aN o)], mU)], []⟩
def WZ : Ex -> Kp := fun ex => match ex with
 | .normal => { keep := [2, 3, 7, 11, 12, 13] }
 | .ret => { keep := [] }
 | _ => { keep := [7] }
theorem MM (t : Tb) (rows : List Rw) (l : List a6) (o : List Int) (i : Int) : bx fj 0 WZ (lp Tryz.prog qw 0) (Ae t rows l o i) = (
 let q := List.getD (ae av (ah av rows)) i.toNat (Rw.mk (0 : Int) []);
 let q1 := (↑rows.length : Int);
 let q2 := IntKind.i64.wrap (i + 1);
 let q3 := ah aN o; bif decide (i < q1) then .ag [0 <= i /\ i < q1, List.take 2 (List.drop (i.toNat * 2) (ah av rows)) = (av q)] (.bind (cE (bw t.name (ah ba t.aw) (ah aN t.uniq) t.root) (Rw.mk q.id (ae
  a7 (ah a7 q.cells))) (ae aH (ah aH l))) fun y0 => .ag [ao (Env.P fj) 62 [.agg (aq t), .agg (av q), ab aH l] [] (aj.mk (.bool y0) [] [])] (bif y0 then .ag [0 = 0, q3.length = o.length * 1,
  o.length + 1 <= 9223372036854775807, (o.length + 1) * 8 <= 140737488355328] (.done (Ex.normal, St.mk (ai 28 [(2, ab aH l), (3, .ptr 0 0), (7, .sl 1 0 (o.length + 1) false), (11, ab av rows), (12, aa q1), (13, aa q2)]) [some
  ((aq t), 44), some ([.aJ (ah aN o ++ [aa q.id])], 3)] [])) else .done (Ex.normal, St.mk (ai 28 [(2, ab aH l), (3, .ptr 0 0), (7, .sl 1 0 o.length false), (11, ab av rows), (12, aa q1), (13, aa q2)]) [some
  ((aq t), 44), some ([.aJ q3], 3)] []))) else .done (Ex.exit 0, St.mk (ai 28 [(7, .sl 0 0 o.length false)]) [some ([.aJ q3], 3)] []) : T _) := by kernel_rfl
noncomputable def F5 (t : Tb) (rows : List Rw) (l : List a6) : Env := { P := Tryz.prog, vw := cq, res := Ez, ls := fun id _ => match id with
 | 0 => some ⟨bK t rows l, fun y => .one { keep := [2, 3, 7, 11, 12, 13], ic := [7] } (Ae t rows l [] 0) (.exit 0) ⟨ai 28 [(7, .sl 0 0 y.length false)], [some ([.aJ (ah aN y)], mU)], []⟩⟩
 | _ => none }
theorem ab9 (t : Tb) (rows : List Rw) (l : List a6) : fnT (F5 t rows l) 0 qw [.agg (aq t), ab av rows, ab aH l] [] = (
 let q := ai 28 [(2, ab aH l), (3, .ptr 0 0), (7, .sl 1 0 0 false), (11, ab av rows), (12, aa (↑rows.length : Int)), (13, aa 0)];
 let q1 : Hp := [some ((aq t), 44), some ([.aJ []], 3)]; .bind (bK t rows l) fun y0 => .ag [St.mk q q1 [] = St.mk q q1 [], aV Tryz.prog 0 (blk Tryz.prog qw 0) (St.mk q q1 []) (Ex.exit 0) (St.mk (ai 28 [(7, .sl 0 0
  y0.length false)]) [some ([.aJ (ah aN y0)], 3)] [])] (.done (aj.mk (ab aN y0) [] [])) : T _) := (T.force_eq _).symm.trans (by kernel_rfl)
theorem dh.rt {t : Tb} {r : Rw} (hG : kI t) (h : dh t r) : ji t r := ⟨h.s hG, h.n, Nat.le_trans hG.n af⟩
theorem JV {t : Tb} {r : Rw} {c : a6} (hG : kI t) (hr : dh t r) (hc : fh t c) : ao Tryz.prog yk [.agg (aq t), .agg (av r), .agg (aH c)] [] ⟨.bool (cN t r c), [], []⟩ := by
 rw [<- VM hc hr]
 have lD := ON (hr.rt hG) c.aG
 have bQ := (hr.rt hG).BE c.aG
 have fa := hc.i.l
 refine bh (E := fj) follows named (VL t r c) (by simp) ?_
 unfold Dz
 simp only [az, T.WP, All, aA, aD, aE, aF, bq.ae, bV.ae, cm]
 rintro y e
 have e : y = dS t r c.aG := e
 rw [<- e] at lD bQ ⊢
 refine ⟨lD, fun h1 => ?_, fun h1 => ⟨fun h2 => ?_, fun h2 => ⟨fun h7 => ?_, fun h7 => ⟨fun h8 => ?_, fun h8 => ?_⟩⟩⟩⟩
 ·rw [show (c.func == 1) = true by simpa using h1, cond_true]
  rintro z rfl
  exact ⟨HB _ _ bQ, aQ⟩
 ·rw [show (c.func == 1) = false by simpa using h1, cond_false, show (c.func == 2) = true by simpa using h2, cond_true]
  rintro z rfl
  exact ⟨HB _ _ bQ, aQ⟩
 ·rw [show (c.func == 1) = false by simpa using h1, cond_false, show (c.func == 2) = false by simpa using h2, cond_false, show (c.func == 7) = true by simpa using h7, cond_true]
  rintro z rfl
  refine ⟨JG _ _ af bQ, ?_, rfl, by simp⟩
  refine congrArg V.bool ?_
  rw [Bool.eq_iff_iff, beq_iff_eq, beq_iff_eq]
  omega
 ·rw [show (c.func == 1) = false by simpa using h1, cond_false, show (c.func == 2) = false by simpa using h2, cond_false, show (c.func == 7) = false by simpa using h7, cond_false, show (c.func == 8) = true by simpa using h8, cond_true]
  rintro z rfl
  refine ⟨JG _ _ af bQ, ?_, rfl, by simp⟩
  refine congrArg V.bool ?_
  rw [Bool.eq_iff_iff, beq_iff_eq, beq_iff_eq]
  omega
 ·rw [show (c.func == 1) = false by simpa using h1, cond_false, show (c.func == 2) = false by simpa using h2, cond_false, show (c.func == 7) = false by simpa using h7, cond_false, show (c.func == 8) = false by simpa using h8, cond_false]
  rintro z rfl
  have hf := hc.i.f
  exact ⟨Pn _ c (by have := (hc.o af).1; intro h0; rw [h0] at this; simp at this), aQ⟩
theorem VG {t : Tb} {r : Rw} {c : a6} (hG : kI t) (hr : dh t r) (hc : fh t c) : ao Tryz.prog mn [.agg (aH c), .ptr 0 0, .ptr 1 0] [gN t, ig r] ⟨.bool (!cN t r c), [gN t, ig r], []⟩ := by
 have hm := JV hG hr hc
 refine bh (E := fj) follows named (VF t r c) (by simp) ?_
 simp only [T.WP, All, aA, bq.ae, bV.ae, cm]
 rintro y rfl
 exact ⟨hm, aQ⟩
theorem TQ {t : Tb} {r : Rw} {l : List a6} (hG : kI t) (hr : dh t r) (hc : ∀ c ∈ l, fh t c) (h : l.length <= 1048576) :
  (fidx (fun c : a6 => !cN t r c) l 0 < 0 -> a8 Tryz.prog 2 (lp Tryz.prog jL 0) (wK t r l 0) (.exit 0) ⟨ai 19 [], [gN t, ig r], []⟩) /\
  (0 <= fidx (fun c : a6 => !cN t r c) l 0 -> a8 Tryz.prog 2 (lp Tryz.prog jL 0) (wK t r l 0) .ret ⟨ai 19 [(4, .int .i64 (fidx (fun c : a6 => !cN t r c) l 0))], [gN t, ig r], []⟩) := by
 refine lA (E := fj) (m := 2) (nf := kW) (st := fun i => wK t r l (i : Nat)) (sr := fun j => ⟨ai 19 [(4, .int .i64 j)], [gN t, ig r], []⟩) (fun c : a6 => !cN t r c) l ⟨[], 0, []⟩ follows named (by simp) (by simp) (fun i => TO t r l (i : Nat)) (fun i hi => ?_) ?_ l.length 0 (by simp)
 ·have aL := cg.at l ⟨[], 0, []⟩ i 3 hi rfl
  have hm := VG hG hr (hc _ (bP ⟨[], 0, []⟩ hi))
  simp only [az, T.WP, All, aB, aC, aA, Int.toNat_natCast, bq.ae, bV.ae, cg.ae, cm, bE (show i < 9223372036854775807 by omega)]
  refine ⟨fun _ => ⟨⟨aK, aL⟩, ?_⟩, fun h => by omega⟩
  rintro y e
  have e : y = !cN t r (l.getD i ⟨[], 0, []⟩) := e
  rw [<- e] at hm ⊢
  refine ⟨hm, fun h => ?_, fun h => ?_⟩
  ·rw [h]; rfl
  ·rw [h]; rfl
 ·simp only [az, T.WP, All, aB, aC, aA]
  exact ⟨fun h => by omega, fun _ => rfl⟩
theorem TR {t : Tb} {r : Rw} {l : List a6} (hG : kI t) (hr : dh t r) (hc : ∀ c ∈ l, fh t c) (h : l.length <= 1048576) : ao Tryz.prog jL [ab aH l, .fn mn [.ptr 0 0, .ptr 1 0]] [gN t, ig r] ⟨.int .i64 (fidx (fun c : a6 => !cN t r c) l 0), [gN t, ig r], []⟩ := by
 have hl := TQ hG hr hc h
 refine bh (E := FO t r l) follows named (TP t r l) (by simp) ?_
 simp only [az, T.WP, All, aB, aC, aA]
 rintro y e
 have e : y = fidx (fun c : a6 => !cN t r c) l 0 := e
 rw [<- e] at hl ⊢
 refine ⟨bn, fun h0 => ⟨.bg (hl.1 h0), ?_⟩, fun h0 => ⟨.bg (hl.2 af), aQ⟩⟩
 have e1 : y = -1 := by
  rcases jN (fun c : a6 => !cN t r c) l 0 with h2 | h2 <;> omega
 rw [e1]; exact aQ
theorem TN {t : Tb} {r : Rw} {l : List a6} (hG : kI t) (hr : dh t r) (hc : ∀ c ∈ l, fh t c) (h : l.length <= 1048576) : ao Tryz.prog sK [ab aH l, .fn mn [.ptr 0 0, .ptr 1 0]] [gN t, ig r] ⟨.bool (l.any fun c : a6 => !cN t r c), [gN t, ig r], []⟩ := by
 have hi := TR hG hr hc h
 refine bh (E := fj) follows named (TM t r l) (by simp) ?_
 simp only [T.WP, All, aA, bV.ae, cg.ae, cm]
 rintro y rfl
 refine ⟨hi, ?_, rfl, by simp⟩
 refine congrArg V.bool ?_
 rw [Bool.eq_iff_iff, decide_eq_true_eq, List.any_eq_true]
 exact s8 (p := fun c : a6 => !cN t r c)
theorem Gm {α : Type} (f : α -> Bool) : ∀ l : List α, (!l.any fun c => !f c) = l.all f
 | [] => rfl
 | x :: l => by rw [List.any_cons, List.all_cons, Bool.not_or, Gm f l, Bool.not_not]
theorem JT {t : Tb} {r : Rw} {l : List a6} (hG : kI t) (hr : dh t r) (hc : ∀ c ∈ l, fh t c) (h : l.length <= 1048576) : ao Tryz.prog yi [.agg (aq t), .agg (av r), ab aH l] [] ⟨.bool (cE t r l), [], []⟩ := by
 have hi := TN hG hr hc h
 refine bh (E := fj) follows named (VD t r l) (by simp) ?_
 simp only [T.WP, All, aA, bV.ae, cg.ae, cm]
 rintro y rfl
 refine ⟨hi, ?_, rfl, by simp⟩
 exact congrArg V.bool (Gm _ _)
theorem MN {t : Tb} {rows : List Rw} {l : List a6} (hG : kI t) (hr : ∀ r ∈ rows, dh t r) (hc : ∀ c ∈ l, fh t c) (hl : l.length <= 1048576) (hn : rows.length <= 1048576) : ∀ (m n : Nat), n + m = rows.length ->
  a8 Tryz.prog 0 (lp Tryz.prog qw 0) (Ae t rows l (bK t (rows.take n) l) n) (.exit 0) ⟨ai 28 [(7, .sl 0 0 (bK t rows l).length false)], [some ([.aJ (ah aN (bK t rows l))], mU)], []⟩
 | 0, n, hk => by
  have hk : n = rows.length := hk
  subst hk
  rw [List.take_length]
  refine bl (E := fj) follows named (MM t rows l (bK t rows l) (rows.length : Nat)) ?_
  simp only [az, T.WP, All, aB, aC, aA]
  exact ⟨fun h => by omega, fun _ => ⟨rfl, rfl⟩⟩
 | m + 1, n, hk => by
  have aL := bN.at rows ⟨0, []⟩ n 2 (by omega) rfl
  have ih := MN hG hr hc hl hn m (n + 1) (by omega)
  have w1 : IntKind.i64.wrap ((n : Int) + 1) = ((n + 1 : Nat) : Int) := bE (by omega)
  have cC := wm t (rows.take n) l
  rw [List.length_take] at cC
  have ha := JT hG (hr _ (bP ⟨0, []⟩ (show n < rows.length by omega))) hc hl
  rw [EJ t rows l n (by omega)] at ih
  refine bl (E := fj) follows named (MM t rows l (bK t (rows.take n) l) (n : Nat)) ?_
  simp only [az, T.WP, All, aB, aC, aA, w1, bN.ae, cg.ae, bV.ae, ej.length, cm, Int.toNat_natCast]
  refine ⟨fun _ => ⟨⟨aK, aL⟩, ?_⟩, fun h => by omega⟩
  rintro y rfl
  refine ⟨ha, fun h => ?_, fun h => ?_⟩
  ·rw [show cE t (rows.getD n ⟨0, []⟩) l = true from h, cond_true] at ih
   refine ⟨aK, ?_⟩
   simp only [Ae, dU, aN, List.length_append, List.length_singleton] at ih ⊢
   exact ih
  ·rw [show cE t (rows.getD n ⟨0, []⟩) l = false from h, cond_false, List.append_nil] at ih
   exact ih
theorem aa0 {t : Tb} {rows : List Rw} {l : List a6} (hG : kI t) (hr : ∀ r ∈ rows, dh t r) (hc : ∀ c ∈ l, fh t c) (hl : l.length <= 1048576) (hn : rows.length <= 1048576) : ao Tryz.prog qw [.agg (aq t), ab av rows, ab aH l] [] ⟨ab aN (bK t rows l), [], []⟩ := by
 have h := MN hG hr hc hl hn rows.length 0 af
 refine bh (E := F5 t rows l) follows named (ab9 t rows l) (by simp) ?_
 simp only [T.WP, All, aA]
 rintro y rfl
 exact ⟨⟨bn, .bg h⟩, aQ⟩
abbrev sZ : Nat := 274
abbrev yb : Nat := 241
abbrev sL : Nat := 190
abbrev ql : Nat := 114
abbrev m9 : Nat := 49
abbrev BW : Nat := 115
abbrev sH : Nat := 50
abbrev yn : Nat := 12
abbrev B6 : Nat := 10
noncomputable def rp : cP := fun f vs hp => match vs, hp with
 | [.int _ a, .int _ b, .int _ c], [] => bif Nat.beq f mm then some ⟨bz a b c, fun y => ⟨.bool y, [], []⟩⟩ else none
 | [.str _], [] => bif Nat.beq f sZ then some ⟨(), fun _ => ⟨.bool true, [], []⟩⟩ else none
 | [.agg [.int _ _, .int _ _, .str _]], [] => bif Nat.beq f yb then some ⟨(), fun _ => ⟨.bool true, [], []⟩⟩ else none
 | [.agg [.int _ k, .int _ n, .str t], .agg [.int _ k', .int _ n', .str t']], [] => bif Nat.beq f yl then some ⟨jI ⟨k, n, t⟩ ⟨k', n', t'⟩, fun y => ⟨.int .i64 y, [], []⟩⟩ else none
 | [.dsl _ _ _], [] => bif Nat.beq f sL then some ⟨(), fun _ => ⟨.bool true, [], []⟩⟩ else bif Nat.beq f sH then some ⟨(), fun _ => ⟨.bool true, [], []⟩⟩ else none
 | [.agg [.str _, .int _ _, .int _ _, .int _ _, .int _ _, .int _ _, .str _, .bool _], .dsl _ _ _], [] => bif Nat.beq f ng then some ⟨(), fun _ => ⟨.int .i64 0, [], []⟩⟩ else none
 | [.agg [.str _, .dsl _ _ _, .dsl _ _ _, .bool _], .agg [.int _ _, .dsl _ _ _]], [] => bif Nat.beq f ql then some ⟨(), fun _ => ⟨.bool true, [], []⟩⟩ else none
 | [.agg [.str _, .int _ _, .dsl _ _ _]], [] => bif Nat.beq f BW then some ⟨(), fun _ => ⟨.bool true, [], []⟩⟩ else none
 | [.agg [.dsl _ _ _], .agg [.dsl _ _ _, .int _ _]], [] => bif Nat.beq f m9 then some ⟨(), fun _ => ⟨.bool true, [], []⟩⟩ else none
 | [.agg [.dsl _ _ _]], [] => bif Nat.beq f HJ then some ⟨(), fun _ => ⟨.bool true, [], []⟩⟩ else none
 | [.agg [.str _, .dsl _ _ _, .dsl _ _ _, .bool _], .dsl _ _ _], [] => bif Nat.beq f na then some ⟨(), fun _ => ⟨.int .i64 0, [], []⟩⟩ else none
 | [.agg [.str tn, .dsl _ _ cc, .dsl _ _ uu, .bool q], .dsl _ _ rs, .dsl _ _ ls], [] => bif Nat.beq f qv then some ⟨bK (bw tn cc uu q) (ae av rs) (ae aH ls), fun y => ⟨ab aN y, [], []⟩⟩ else none
 | _, _ => none
noncomputable def EK : Env := { P := Tryz.prog, vw := cq, res := rp }
def Fi (t : List UInt8) (i : Int) : St := ⟨ai 23 [(0, .str t), (3, .int .i64 i)], [], []⟩
def DV : Ex -> Kp := fun ex => match ex with
 | .normal => { keep := [0, 3] }
 | .ret => { keep := [2] }
 | _ => { keep := [0] }
theorem Nf (t : List UInt8) (i : Int) : bx EK 0 DV (lp Tryz.prog sZ 0) (Fi t i) = (
 let q := (↑(UInt8.toNat (List.getD t i.toNat (0 : UInt8))) : Int);
 let q1 := (↑t.length : Int);
 let q2 := ai 23 [(2, .bool false)]; bif decide (i < q1) then .ag [0 <= i /\ i < q1] (bif decide (q < 32) then .done (Ex.ret, St.mk q2 [] []) else .ag [0 <= i /\ i < q1] (bif decide (q > 126) then .done (Ex.ret, St.mk q2 [] []) else
  .done (Ex.normal, St.mk (ai 23 [(0, .str t), (3, aa (IntKind.i64.wrap (i + 1)))]) [] []))) else .done (Ex.exit 0, St.mk (ai 23 [(0, .str t)]) [] []) : T _) := by kernel_rfl
noncomputable def A6 : Env := { P := Tryz.prog, vw := cq, res := rp, ls := fun id s => match id, s.tm.get 0 with
 | 0, .str t => some ⟨(), fun _ => .one { keep := [0, 3] } (Fi t 0) (.exit 0) ⟨ai 23 [(0, .str t)], [], []⟩⟩
 | _, _ => none }
theorem tqT (t : List UInt8) : fnT A6 0 sZ [.str t] [] = (
 let q := ai 23 [(0, .str t), (3, aa 0)]; .bind PUnit.unit fun _ => .ag [St.mk q [] [] = St.mk q [] [], aV (Env.P A6) 0 (blk Tryz.prog sZ 0) (St.mk q [] []) (Ex.exit 0) (St.mk (ai 23 [(0, .str t)]) [] [])] (.done (aj.mk
  (.bool (decide ((↑t.length : Int) <= 200))) [] [])) : T _) := (T.force_eq _).symm.trans (by kernel_rfl)
theorem xZ (k n : Int) (t : List UInt8) : fnT EK 0 yb [.agg [.int .i64 k, .int .i64 n, .str t]] [] = (
 let q := aj.mk (.bool false) [] [];
 let q1 := aj.mk (.bool (t == [])) [] [];
 let q2 := aj.mk (.bool true) [] []; bif k == 1 then .bind (bz n (-1000000000 : Int) (1000000000 : Int)) fun y0 => .ag [ao (Env.P EK) 51 [aa n, aa (-1000000000 : Int), aa 1000000000] [] (aj.mk (.bool y0) [] [])] (bif y0 then
  .done q1 else .done q) else bif k == 2 then bif n == 0 then .bind PUnit.unit fun _ => .ag [ao (Env.P EK) 274 [.str t] [] q2] (.done q2) else .done q else bif k == 3 then .bind (bz n (0 : Int) (1 : Int)) fun y2 => .ag [ao
  (Env.P EK) 51 [aa n, aa 0, aa 1] [] (aj.mk (.bool y2) [] [])] (bif y2 then .done q1 else .done q) else bif k == 4 then .bind (bz n (1 : Int) (1000000 : Int)) fun y3 => .ag [ao (Env.P EK) 51 [aa n, aa 1, aa 1000000] []
  (aj.mk (.bool y3) [] [])] (bif y3 then .done q1 else .done q) else .done q : T _) := by kernel_rfl
def EX (d : aU) (i : Int) : St := ⟨ai 51 [(0, ab ak d), (3, .int .i64 i)], [], []⟩
theorem Hj (d : aU) (i : Int) : bx EK 0 DV (lp Tryz.prog sL 0) (EX d i) = (
 let q7 := ah ak d;
 let q5 := ae ak q7;
 let q3 := At.mk (0 : Int) (0 : Int) [];
 let q := List.getD q5 i.toNat q3;
 let q8 := IntKind.i64.wrap (i - 1);
 let q1 := List.getD q5 q8.toNat q3;
 let q6 := (↑d.length : Int);
 let q2 : List Prop := [0 <= i /\ i < q6, List.take 3 (List.drop (i.toNat * 3) q7) = ak q];
 let q4 := ai 51 [(0, ab ak d), (3, aa (IntKind.i64.wrap (i + 1)))];
 let q9 := ai 51 [(2, .bool false)]; bif decide (i < q6) then .ag q2 (.bind PUnit.unit fun _ => .ag [ao (Env.P EK) 241 [.agg (ak q)] [] (aj.mk (.bool true) [] [])] (.ag q2 (.ag [(0 : Int) <= 0 /\ (0 : Int) < q6, List.take 3
  (List.drop 0 q7) = ak (List.getD q5 0 q3)] (bif q.kind != At.kind (List.getD q5 0 q3) then .done (Ex.ret, St.mk q9 [] []) else bif decide (i > 0) then .ag [0 <= IntKind.i64.wrap (i - 1) /\ IntKind.i64.wrap (i - 1) < q6, List.take 3
  (List.drop (q8.toNat * 3) q7) = ak q1] (.ag q2 (.bind (jI (At.mk q1.kind q1.n q1.t) (At.mk q.kind q.n q.t)) fun y1 => .ag [ao (Env.P EK) 239 [.agg (ak q1), .agg (ak q)] [] (aj.mk (aa y1) [] [])] (bif decide (y1 >= 0)
  then .done (Ex.ret, St.mk q9 [] []) else .done (Ex.normal, St.mk q4 [] [])))) else .done (Ex.normal, St.mk q4 [] []))))) else .done (Ex.exit 0, St.mk (ai 51 [(0, ab ak d)]) [] []) : T _) := by kernel_rfl
noncomputable def AN : Env := { P := Tryz.prog, vw := cq, res := rp, ls := fun id s => match id, s.tm.get 0 with
 | 0, .dsl _ _ cs => some ⟨(), fun _ => .one { keep := [0, 3] } (EX (ae ak cs) 0) (.exit 0) ⟨ai 51 [(0, ab ak (ae ak cs))], [], []⟩⟩
 | _, _ => none }
theorem P3 (d : aU) : fnT AN 0 sL [ab ak d] [] = (
 let q := ae ak (ah ak d);
 let q1 := ai 51 [(0, ab ak q), (3, aa 0)]; bif decide ((↑d.length : Int) > 4096) then .done (aj.mk (.bool false) [] []) else .bind PUnit.unit fun _ => .ag [St.mk (ai 51 [(0, ab ak d), (3, aa 0)]) [] [] = St.mk q1 [] [],
  aV (Env.P AN) 0 (blk Tryz.prog sL 0) (St.mk q1 [] []) (Ex.exit 0) (St.mk (ai 51 [(0, ab ak q)]) [] [])] (.done (aj.mk (.bool (decide ((↑q.length : Int) <= 8))) [] [])) : T _) := by kernel_rfl
def Fc (t : Tb) (r : Rw) (i : Int) : St := ⟨ai 47 [(2, .ptr 0 0), (3, .ptr 1 0), (5, .int .i64 i)], [some (aq t, fO), some (av r, dy)], []⟩
def WS : Ex -> Kp := fun ex => match ex with
 | .normal => { keep := [2, 3, 5] }
 | .ret => { keep := [4] }
 | _ => { keep := [] }
theorem Mf (t : Tb) (r : Rw) (i : Int) : bx EK 0 WS (lp Tryz.prog ql 0) (Fc t r i) = (
 let q4 := ah a7 r.cells;
 let q := List.getD (ae a7 q4) i.toNat [];
 let q1 := List.getD (ae ba (ah ba t.aw)) i.toNat (bt.mk [] (0 : Int) (0 : Int) (0 : Int) (0 : Int) (0 : Int) [] false);
 let q3 := (↑r.cells.length : Int);
 let q2 : List Prop := [0 <= i /\ i < q3, List.take 1 (List.drop (i.toNat * 1) q4) = [ab ak q]]; bif decide (i < q3) then .ag q2 (.bind PUnit.unit fun _ => .ag [ao (Env.P EK) 190 [ab ak q] [] (aj.mk (.bool true) [] [])]
  (.ag [0 <= i /\ i < (↑t.aw.length : Int), List.take 8 (List.drop (i.toNat * 8) (ah ba t.aw)) = ba q1] (.ag q2 (.bind PUnit.unit fun _ => .ag [ao (Env.P EK) 191 [.agg (ba q1), ab ak q] [] (aj.mk (aa 0) []
  [])] (.done (Ex.normal, St.mk (ai 47 [(2, .ptr 0 0), (3, .ptr 1 0), (5, aa (IntKind.i64.wrap (i + 1)))]) [some ((aq t), 44), some ((av r), 53)] [])))))) else .done (Ex.exit 0, St.mk (ai 47 []) [] []) : T _) := by kernel_rfl
noncomputable def FY (t : Tb) (r : Rw) : Env := { P := Tryz.prog, vw := cq, res := rp, ls := fun id _ => match id with
 | 0 => some ⟨(), fun _ => .one { keep := [2, 3, 5] } (Fc t r 0) (.exit 0) ⟨ai 47 [], [], []⟩⟩
 | _ => none }
theorem ZD (t : Tb) (r : Rw) : fnT (FY t r) 0 ql [.agg (aq t), .agg (av r)] [] = (
 let q := ai 47 [(2, .ptr 0 0), (3, .ptr 1 0), (5, aa 0)];
 let q1 : Hp := [some ((aq t), 44), some ((av r), 53)];
 let q2 := aj.mk (.bool false) [] []; .bind (bz r.id (1 : Int) (1000000 : Int)) fun y0 => .ag [ao Tryz.prog 51 [aa r.id, aa 1, aa 1000000] [] (aj.mk (.bool y0) [] [])] (bif !y0 then .done q2 else bif (↑r.cells.length : Int) !=
  (↑t.aw.length : Int) then .done q2 else .bind PUnit.unit fun _ => .ag [St.mk q q1 [] = St.mk q q1 [], aV Tryz.prog 0 (blk Tryz.prog ql 0) (St.mk q q1 []) (Ex.exit 0) (St.mk (ai 47 []) [] [])] (.done (aj.mk (.bool true)
  [] []))) : T _) := (T.force_eq _).symm.trans (by kernel_rfl)
def kB (S : aS) : Option bM := some ([ab aq S], 25)
def MT (x : aM) : Option bM := some (aP x, 29)
def E3 (S : aS) (x : aM) (i k : Int) : St := ⟨ai 87 [(2, .ptr 0 0), (3, .ptr 1 0), (5, .int .i64 i), (6, .int .i64 k)], [kB S, MT x], []⟩
def Wv : Ex -> Kp := fun ex => match ex with
 | .normal => { keep := [2, 3, 5, 6] }
 | .ret => { keep := [4] }
 | _ => { keep := [2, 3, 5] }
def wD (S : aS) (x : aM) (i : Int) : St := ⟨ai 87 [(2, .ptr 0 0), (3, .ptr 1 0), (5, .int .i64 i)], [kB S, MT x], []⟩
def Wu : Ex -> Kp := fun ex => match ex with
 | .normal => { keep := [2, 3, 5] }
 | .ret => { keep := [4] }
 | _ => { keep := [] }
theorem H5 (S : aS) (x : aM) (i k : Int) : bx EK 0 Wv (lp Tryz.prog m9 2) (E3 S x i k) = (
 let q := List.getD (ae aI (ah aI x.ar)) i.toNat [];
 let q8 := ah av q;
 let q1 := List.getD (ae av q8) k.toNat (Rw.mk (0 : Int) []);
 let q2 : List Prop := [0 <= i /\ i < (↑x.ar.length : Int), List.take 1 (List.drop (i.toNat * 1) (ah aI x.ar)) = [ab av q]];
 let q9 := IntKind.i64.wrap (k - 1);
 let q3 := List.getD (ae av q8) q9.toNat (Rw.mk (0 : Int) []);
 let q4 := ai 87 [(2, .ptr 0 0), (3, .ptr 1 0), (5, aa i), (6, aa (IntKind.i64.wrap (k + 1)))];
 let q5 := List.getD (ae aq (ah aq S)) i.toNat (Tb.mk [] [] [] false);
 let q6 := (↑q.length : Int);
 let q7 : List V := [aa q1.id, ab a7 q1.cells]; .ag q2 (bif decide (k < q6) then .ag q2 (.ag [0 <= k /\ k < q6, List.take 2 (List.drop (k.toNat * 2) q8) = q7] (.ag [0 <= i /\ i < (↑S.length : Int), List.take 4 (List.drop
  (i.toNat * 4) (ah aq S)) = aq q5] (.bind PUnit.unit fun _ => .ag [ao (Env.P EK) 114 [.agg (aq q5), .agg q7] [] (aj.mk (.bool true) [] [])] (bif decide (q1.id >= x.next) then .done (Ex.ret, St.mk (ai 87 [(4, .bool
  false)]) [] []) else bif decide (k > 0) then .ag q2 (.ag [0 <= IntKind.i64.wrap (k - 1) /\ IntKind.i64.wrap (k - 1) < q6, List.take 2 (List.drop (q9.toNat * 2) q8) = [aa q3.id, ab a7 q3.cells]] (bif decide (q3.id >= q1.id) then
  .done (Ex.ret, St.mk (ai 87 [(4, .bool false)]) [] []) else .done (Ex.normal, St.mk q4 [kB S, some ((aP x), 29)] []))) else .done (Ex.normal, St.mk q4 [kB S, some ((aP x), 29)] []))))) else .done (Ex.exit 2, St.mk (ai 87
  [(2, .ptr 0 0), (3, .ptr 1 0), (5, aa i)]) [kB S, some ((aP x), 29)] [])) : T _) := (T.force_eq _).symm.trans (by kernel_rfl)
noncomputable def AO (S : aS) (x : aM) : Env := { P := Tryz.prog, vw := cq, res := rp, ls := fun id s => match id, s.tm.get 5 with
 | 2, .int _ i => some ⟨(), fun _ => .one { keep := [2, 3, 5, 6] } (E3 S x i 0) (.exit 2) (wD S x i)⟩
 | _, _ => none }
theorem HV (S : aS) (x : aM) (i : Int) : bx (AO S x) 0 Wu (lp Tryz.prog m9 0) (wD S x i) = (
 let q := ai 87 [(2, .ptr 0 0), (3, .ptr 1 0), (5, aa i), (6, aa 0)];
 let q3 := ah aI x.ar;
 let q1 := List.getD (ae aI q3) i.toNat [];
 let q2 := (↑x.ar.length : Int); bif decide (i < q2) then .ag [0 <= i /\ i < q2, List.take 1 (List.drop (i.toNat * 1) q3) = [ab av q1]] (bif decide ((↑q1.length : Int) > 12) then .done (Ex.ret, St.mk (ai 87 [(4, .bool false)]) []
  []) else .bind PUnit.unit fun _ => .ag [St.mk q [kB S, some ((aP x), 29)] [] = St.mk q [kB S, some ((aP x), 29)] [], aV Tryz.prog 0 (blk Tryz.prog m9 2) (St.mk q [kB S, some ((aP x), 29)] []) (Ex.exit 2)
  (St.mk (ai 87 [(2, .ptr 0 0), (3, .ptr 1 0), (5, aa i)]) [kB S, some ((aP x), 29)] [])] (.done (Ex.normal, St.mk (ai 87 [(2, .ptr 0 0), (3, .ptr 1 0), (5, aa (IntKind.i64.wrap (i + 1)))]) [kB S, some ((aP x), 29)] [])))
  else .done (Ex.exit 0, St.mk (ai 87 []) [] []) : T _) := by kernel_rfl
noncomputable def FN (S : aS) (x : aM) : Env := { P := Tryz.prog, vw := cq, res := rp, ls := fun id _ => match id with
 | 0 => some ⟨(), fun _ => .one { keep := [2, 3, 5] } (wD S x 0) (.exit 0) ⟨ai 87 [], [], []⟩⟩
 | _ => none }
theorem QE (S : aS) (x : aM) : fnT (FN S x) 0 m9 [.agg [ab aq S], .agg (aP x)] [] = (
 let q := ai 87 [(2, .ptr 0 0), (3, .ptr 1 0), (5, aa 0)];
 let q1 := aj.mk (.bool false) [] []; bif (↑x.ar.length : Int) != (↑S.length : Int) then .done q1 else .bind (bz x.next (1 : Int) (1000000 : Int)) fun y0 => .ag [ao Tryz.prog 51 [aa x.next, aa 1, aa 1000000] [] (aj.mk (.bool
  y0) [] [])] (bif !y0 then .done q1 else .bind PUnit.unit fun _ => .ag [St.mk q [kB S, some ((aP x), 29)] [] = St.mk q [kB S, some ((aP x), 29)] [], aV Tryz.prog 0 (blk Tryz.prog m9 0) (St.mk q [kB S, some
  ((aP x), 29)] []) (Ex.exit 0) (St.mk (ai 87 []) [] [])] (.done (aj.mk (.bool true) [] []))) : T _) := by kernel_rfl
theorem XA (c : a6) : fnT EK 0 BW [.agg (aH c)] [] = (
 .bind (bz c.func (1 : Int) (8 : Int)) fun y0 => .ag [ao (Env.P EK) 51 [aa c.func, aa 1, aa 8] [] (aj.mk (.bool y0) [] [])] (bif y0 then .bind PUnit.unit fun _ => .ag [ao (Env.P EK) 190 [ab ak c.val] [] (aj.mk (.bool
  true) [] [])] (.done (aj.mk (.bool (decide ((↑c.aG.length : Int) <= 40))) [] [])) else .done (aj.mk (.bool false) [] [])) : T _) := (T.force_eq _).symm.trans (by kernel_rfl)
def E6 (l : List a6) (i : Int) : St := ⟨ai 19 [(0, ab aH l), (3, .int .i64 i)], [], []⟩
theorem JK (l : List a6) (i : Int) : bx EK 0 DV (lp Tryz.prog sH 0) (E6 l i) = (
 let q := List.getD (ae aH (ah aH l)) i.toNat (a6.mk [] (0 : Int) []); bif decide (i < (↑l.length : Int)) then .ag [0 <= i /\ i < (↑l.length : Int), List.take 3 (List.drop (i.toNat * 3) (ah aH l)) = aH q] (.bind
  PUnit.unit fun _ => .ag [ao (Env.P EK) 115 [.agg (aH q)] [] (aj.mk (.bool true) [] [])] (.done (Ex.normal, St.mk (ai 19 [(0, ab aH l), (3, aa (IntKind.i64.wrap (i + 1)))]) [] []))) else .done (Ex.exit 0, St.mk (ai
  19 [(0, ab aH l)]) [] []) : T _) := by kernel_rfl
noncomputable def AU : Env := { P := Tryz.prog, vw := cq, res := rp, ls := fun id s => match id, s.tm.get 0 with
 | 0, .dsl _ _ cs => some ⟨(), fun _ => .one { keep := [0, 3] } (E6 (ae aH cs) 0) (.exit 0) ⟨ai 19 [(0, ab aH (ae aH cs))], [], []⟩⟩
 | _, _ => none }
theorem Uw (l : List a6) : fnT AU 0 sH [ab aH l] [] = (
 let q := ae aH (ah aH l);
 let q1 := ai 19 [(0, ab aH q), (3, aa 0)]; .bind PUnit.unit fun _ => .ag [St.mk (ai 19 [(0, ab aH l), (3, aa 0)]) [] [] = St.mk q1 [] [], aV (Env.P AU) 0 (blk Tryz.prog sH 0) (St.mk q1 [] []) (Ex.exit 0)
  (St.mk (ai 19 [(0, ab aH q)]) [] [])] (.done (aj.mk (.bool (decide ((↑q.length : Int) <= 8))) [] [])) : T _) := (T.force_eq _).symm.trans (by kernel_rfl)
theorem aa3 (S : aS) (x : aM) (t : Int) (l : List a6) : fnT EK 0 yn [.agg [ab aq S], .agg (aP x), .int .i64 t, ab aH l] [] = (
 let q := List.getD (ae aq (ah aq S)) t.toNat (Tb.mk [] [] [] false);
 let q5 := ah aI x.ar;
 let q1 := List.getD (ae aI q5) t.toNat [];
 let q2 : List Prop := [0 <= t /\ t < (↑S.length : Int), List.take 4 (List.drop (t.toNat * 4) (ah aq S)) = aq q];
 let q3 := aj.mk (.bool true) [] [];
 let q4 := IntKind.i64.wrap ((↑S.length : Int) - 1); bif decide ((↑l.length : Int) > 4096) then .done (aj.mk (.tup [.dsl 0 false [], aa 2]) [] []) else .bind PUnit.unit fun _ => .ag [ao (Env.P EK) 48 [.agg [ab aq S]] [] q3]
  (.bind PUnit.unit fun _ => .ag [ao (Env.P EK) 49 [.agg [ab aq S], .agg (aP x)] [] q3] (.bind PUnit.unit fun _ => .ag [ao (Env.P EK) 50 [ab aH l] [] q3] (.bind (bz t (0 : Int) q4) fun y3 => .ag [ao (Env.P EK)
  51 [aa t, aa 0, aa q4] [] (aj.mk (.bool y3) [] [])] (bif !y3 then .done (aj.mk (.tup [.dsl 0 false [], aa 10]) [] []) else .ag q2 (.bind PUnit.unit fun _ => .ag [ao (Env.P EK) 52 [.agg (aq q), ab aH l] [] (aj.mk
  (aa 0) [] [])] (.ag q2 (.ag [0 <= t /\ t < (↑x.ar.length : Int), List.take 1 (List.drop (t.toNat * 1) q5) = [ab av q1]] (.bind (bK (bw q.name (ah ba q.aw) (ah aN q.uniq) q.root) (ae av (ah av q1))
  (ae aH (ah aH l))) fun y5 => .ag [ao (Env.P EK) 53 [.agg (aq q), ab av q1, ab aH l] [] (aj.mk (ab aN y5) [] [])] (.done (aj.mk (.tup [ab aN y5, aa 0]) [] [])))))))))) : T _) := by kernel_rfl
theorem LG {α : Type} {R : α -> α -> Prop} {l : List α} (h : l.Pairwise R) (d : α) {i : Nat} (h1 : 1 <= i) (h2 : i < l.length) : R (l.getD (i - 1) d) (l.getD i d) := by
 have := List.pairwise_iff_getElem.1 h (i - 1) i (by omega) h2 (by omega)
 rw [List.getD_eq_getElem?_getD, List.getD_eq_getElem?_getD, List.getElem?_eq_getElem h2, List.getElem?_eq_getElem (show i - 1 < l.length by omega)]
 exact this
theorem Ng (t : List UInt8) (ht : t.length <= 4294967296) (hp : ∀ i, i < t.length -> Eo (t.getD i 0) = true) : ∀ (m i : Nat), i + m = t.length ->
  a8 Tryz.prog 0 (lp Tryz.prog sZ 0) (Fi t i) (.exit 0) ⟨ai 23 [(0, .str t)], [], []⟩
 | 0, i, h => by
  have h : i = t.length := h
  subst h
  refine bl (E := EK) follows named (Nf t (t.length : Nat)) ?_
  simp only [az, T.WP, All, aB, aC, aA]
  exact ⟨fun h => by omega, fun _ => ⟨rfl, rfl⟩⟩
 | m + 1, i, h => by
  have ih := Ng t ht hp m (i + 1) (by omega)
  have hc := hp i (by omega)
  have hb : 32 <= (t.getD i 0).toNat /\ (t.getD i 0).toNat <= 126 := by
   unfold Eo at hc
   rw [Bool.and_eq_true, decide_eq_true_eq, decide_eq_true_eq] at hc
   exact hc
  refine bl (E := EK) follows named (Nf t (i : Nat)) ?_
  simp only [az, T.WP, All, aB, aC, aA, Int.toNat_natCast, bE (show i < 9223372036854775807 by omega)]
  exact ⟨fun _ => ⟨by omega, fun h => by omega, fun _ => ⟨by omega, fun h => by omega, fun _ => ih⟩⟩, fun h => by omega⟩
theorem ah4 {t : List UInt8} (h : pC t = true) : ao Tryz.prog sZ [.str t] [] ⟨.bool true, [], []⟩ := by
 have e : pC t = (t.all Eo && decide (t.length <= 200)) := rfl
 rw [e, Bool.and_eq_true, List.all_eq_true, decide_eq_true_eq] at h
 have hl := Ng t (by omega) (fun i hi => h.1 _ (bP 0 hi)) t.length 0 (by omega)
 refine bh (E := A6) follows named (tqT t) (by simp) ?_
 simp only [T.WP, All, aA]
 rintro _ -
 refine ⟨⟨bn, .bg hl⟩, ?_⟩
 rw [decide_eq_true (show (t.length : Int) <= 200 by omega)]
 exact ⟨rfl, rfl, by simp⟩
theorem Oj {a : At} (h : fk a = true) : ao Tryz.prog yb [.agg (ak a)] [] ⟨.bool true, [], []⟩ := by
 obtain ⟨k, n, t⟩ := a
 show ao Tryz.prog yb [.agg [.int .i64 k, .int .i64 n, .str t]] [] _
 unfold fk at h
 simp only at h
 by_cases k1 : k = 1
 ·subst k1
  rw [show ((1 : Int) == 1) = true by decide, cond_true, Bool.and_eq_true, List.isEmpty_iff] at h
  obtain ⟨hn, rfl⟩ := h
  refine bh (E := EK) follows named (xZ 1 n []) (by simp) ?_
  simp only [az, T.WP, All, aA, aD, aE, aF]
  refine ⟨fun _ => ?_, fun h => absurd trivial h⟩
  rintro y e
  have hy : y = true := by rw [e]; exact hn
  exact ⟨by rw [e]; exact ja _ _ _, fun _ => aQ, fun h => by rw [hy] at h; cases h⟩
 ·rw [show (k == 1) = false by simpa using k1, cond_false] at h
  by_cases k2 : k = 2
  ·subst k2
   rw [show ((2 : Int) == 2) = true by decide, cond_true, Bool.and_eq_true, beq_iff_eq] at h
   obtain ⟨rfl, ht⟩ := h
   refine bh (E := EK) follows named (xZ 2 0 t) (by simp) ?_
   simp only [az, T.WP, All, aA, aD, aE, aF]
   refine ⟨fun h => absurd h (by decide), fun _ => ⟨fun _ => ⟨fun _ => ?_, fun h => absurd trivial h⟩, fun h => absurd trivial h⟩⟩
   rintro _ -
   exact ⟨ah4 ht, aQ⟩
  ·rw [show (k == 2) = false by simpa using k2, cond_false] at h
   by_cases k3 : k = 3
   ·subst k3
    rw [show ((3 : Int) == 3) = true by decide, cond_true, Bool.and_eq_true, List.isEmpty_iff] at h
    obtain ⟨hn, rfl⟩ := h
    refine bh (E := EK) follows named (xZ 3 n []) (by simp) ?_
    simp only [az, T.WP, All, aA, aD, aE, aF]
    refine ⟨fun h => absurd h (by decide), fun _ => ⟨fun h => absurd h (by decide), fun _ => ⟨fun _ => ?_, fun h => absurd trivial h⟩⟩⟩
    rintro y e
    have hy : y = true := by rw [e]; exact hn
    exact ⟨by rw [e]; exact ja _ _ _, fun _ => aQ, fun h => by rw [hy] at h; cases h⟩
   ·rw [show (k == 3) = false by simpa using k3, cond_false] at h
    by_cases k4 : k = 4
    ·subst k4
     rw [show ((4 : Int) == 4) = true by decide, cond_true, Bool.and_eq_true, List.isEmpty_iff] at h
     obtain ⟨hn, rfl⟩ := h
     refine bh (E := EK) follows named (xZ 4 n []) (by simp) ?_
     simp only [az, T.WP, All, aA, aD, aE, aF]
     refine ⟨fun h => absurd h (by decide), fun _ => ⟨fun h => absurd h (by decide), fun _ => ⟨fun h => absurd h (by decide), fun _ => ⟨fun _ => ?_, fun h => absurd trivial h⟩⟩⟩⟩
     rintro y e
     have hy : y = true := by rw [e]; exact hn
     exact ⟨by rw [e]; exact ja _ _ _, fun _ => aQ, fun h => by rw [hy] at h; cases h⟩
    ·rw [show (k == 4) = false by simpa using k4, cond_false] at h
     cases h
theorem Hk {k : Int} {d : aU} (h : b7 k d) (hl : d.length <= 1048576) : ∀ (m i : Nat), i + m = d.length -> a8 Tryz.prog 0 (lp Tryz.prog sL 0) (EX d i) (.exit 0) ⟨ai 51 [(0, ab ak d)], [], []⟩
 | 0, i, hi => by
  have hi : i = d.length := hi
  subst hi
  refine bl (E := EK) follows named (Hj d (d.length : Nat)) ?_
  simp only [az, T.WP, All, aB, aC, aA]
  exact ⟨fun h => by omega, fun _ => ⟨rfl, rfl⟩⟩
 | m + 1, i, hi => by
  have bH : i < d.length := by omega
  have aL := bq.at d ⟨0, 0, []⟩ i 3 bH rfl
  have vg := bq.at d ⟨0, 0, []⟩ 0 3 (by omega) rfl
  have eP := h.ok _ (bP ⟨0, 0, []⟩ bH)
  have De := h.ok _ (bP ⟨0, 0, []⟩ (show 0 < d.length by omega))
  have w1 : IntKind.i64.wrap ((i : Int) + 1) = ((i + 1 : Nat) : Int) := bE (by omega)
  have ih := Hk h hl m (i + 1) (by omega)
  rw [Nat.zero_mul] at vg
  refine bl (E := EK) follows named (Hj d (i : Nat)) ?_
  simp only [az, T.WP, All, aB, aC, aA, w1, bq.ae, Int.toNat_natCast]
  refine ⟨fun _ => ⟨⟨aK, aL⟩, ?_⟩, fun h => by omega⟩
  rintro _ -
  refine ⟨Oj eP.1, ⟨aK, aL⟩, ⟨aK, vg⟩, fun hn => ?_, fun _ => ⟨fun hp => ?_, fun _ => ih⟩⟩
  ·exfalso
   rw [eP.2, De.2] at hn
   simp at hn
  ·have IH : 1 <= i := by omega
   have w2 : IntKind.i64.wrap ((i : Int) - 1) = ((i - 1 : Nat) : Int) := by rw [cQ (by omega)]; omega
   have cA := bq.at d ⟨0, 0, []⟩ (i - 1) 3 (by omega) rfl
   have bO := (Br _ _).1.2 (LG h.pw ⟨0, 0, []⟩ IH bH)
   rw [w2]
   simp only [Int.toNat_natCast]
   refine ⟨⟨by omega, cA⟩, ⟨aK, aL⟩, ?_⟩
   rintro y e
   have e : y = jI (d.getD (i - 1) ⟨0, 0, []⟩) (d.getD i ⟨0, 0, []⟩) := e
   rw [<- e] at bO
   exact ⟨by rw [e]; exact K6 _ _, fun h => by omega, fun _ => ih⟩
theorem Hd {k : Int} {d : aU} (h : b7 k d) (hl : d.length <= 8) : ao Tryz.prog sL [ab ak d] [] ⟨.bool true, [], []⟩ := by
 have gY := Hk h (by omega) d.length 0 (by omega)
 refine bh (E := AN) follows named (P3 d) (by simp) ?_
 simp only [az, T.WP, All, aB, aC, aA, bq.ae]
 refine ⟨fun h => by omega, fun _ => ?_⟩
 rintro _ -
 refine ⟨⟨bn, .bg gY⟩, ?_⟩
 rw [decide_eq_true (show (d.length : Int) <= 8 by omega)]
 exact ⟨rfl, rfl, by simp⟩
theorem Mg {t : Tb} {r : Rw} (hr : dh t r) (hn : t.aw.length <= 1048576) (hm : ∀ c ∈ t.aw, c.max <= 8) : ∀ (k i : Nat), i + k = r.cells.length -> a8 Tryz.prog 0 (lp Tryz.prog ql 0) (Fc t r i) (.exit 0) ⟨ai 47 [], [], []⟩
 | 0, i, hi => by
  have hi : i = r.cells.length := hi
  subst hi
  refine bl (E := EK) follows named (Mf t r (r.cells.length : Nat)) ?_
  simp only [az, T.WP, All, aB, aC, aA]
  exact ⟨fun h => af, fun _ => ⟨rfl, rfl⟩⟩
 | k + 1, i, hi => by
  have bH : i < r.cells.length := af
  have qM : i < t.aw.length := by rw [<- hr.n]; exact bH
  have aL := bV.at r.cells [] i 1 bH rfl
  have qE := cR.at t.aw ⟨[], 0, 0, 0, 0, 0, [], false⟩ i 8 qM rfl
  have w1 : IntKind.i64.wrap ((i : Int) + 1) = ((i + 1 : Nat) : Int) := bE (by rw [hr.n] at bH; omega)
  have ih := Mg hr hn hm k (i + 1) af
  obtain ⟨hd, hf⟩ := hr.d i qM
  have hlen : (r.cells.getD i []).length <= 8 := by
   have h1 := (u0 hf).2
   have h2 := hm _ (bP bt.zero qM)
   omega
  have iE := Cr (t.aw.getD i bt.zero) (r.cells.getD i []) af
  rw [hf] at iE
  refine bl (E := EK) follows named (Mf t r (i : Nat)) ?_
  simp only [az, T.WP, All, aB, aC, aA, w1, bV.ae, cR.ae, Int.toNat_natCast]
  refine ⟨fun _ => ⟨⟨aK, aL⟩, ?_⟩, fun h => af⟩
  rintro _ -
  refine ⟨Hd hd hlen, ⟨aK, qE⟩, ⟨aK, aL⟩, ?_⟩
  rintro _ -
  exact ⟨iE, ih⟩
theorem Zy {t : Tb} {r : Rw} (hr : dh t r) (hn : t.aw.length <= 1048576) (hm : ∀ c ∈ t.aw, c.max <= 8) (hi : 1 <= r.id /\ r.id <= 1000000) : ao Tryz.prog ql [.agg (aq t), .agg (av r)] [] ⟨.bool true, [], []⟩ := by
 refine bh (E := FY t r) follows named (ZD t r) (by simp) ?_
 simp only [az, T.WP, All, aA]
 rintro y e
 have hy : y = true := by rw [e]; unfold bz; rw [Bool.and_eq_true, decide_eq_true_eq, decide_eq_true_eq]; exact hi
 refine ⟨by rw [e]; exact ja _ _ _, fun h => by rw [hy] at h; simp at h, fun _ => ⟨fun h => by rw [hr.n] at h; simp at h, fun _ => ?_⟩⟩
 rintro _ -
 exact ⟨⟨bn, .bg (Mg hr hn hm r.cells.length 0 af)⟩, aQ⟩
theorem H6 {S : aS} {x : aM} {i : Nat} (vu : i < S.length) (bH : i < x.ar.length) (hx : x.next <= 1000000) (hp : m4 (x.ar.getD i [])) (hr : ∀ r ∈ x.ar.getD i [], 1 <= r.id /\ r.id < x.next) (hc : ∀ r ∈ x.ar.getD i [], ao Tryz.prog ql [.agg (aq (S.getD i .zero)), .agg (av r)] [] ⟨.bool true, [], []⟩) (hl : (x.ar.getD i []).length <= 1048576) : ∀ (k j : Nat), j + k = (x.ar.getD i []).length ->
  a8 Tryz.prog 0 (lp Tryz.prog m9 2) (E3 S x i j) (.exit 2) (wD S x i)
 | 0, j, hj => by
  have hj : j = (x.ar.getD i []).length := hj
  subst hj
  have gT := bB.at x.ar [] i 1 bH rfl
  refine bl (E := EK) follows named (H5 S x (i : Nat) ((x.ar.getD i []).length : Nat)) ?_
  simp only [az, T.WP, All, aB, aC, aA, bB.ae, Int.toNat_natCast]
  exact ⟨⟨aK, gT⟩, fun h => af, fun _ => ⟨rfl, rfl⟩⟩
 | k + 1, j, hj => by
  have fW : j < (x.ar.getD i []).length := af
  have gT := bB.at x.ar [] i 1 bH rfl
  have aL := bN.at (x.ar.getD i []) ⟨0, []⟩ j 2 fW rfl
  have dC := bJ.at S ⟨[], [], [], false⟩ i 4 vu rfl
  have w1 : IntKind.i64.wrap ((j : Int) + 1) = ((j + 1 : Nat) : Int) := bE af
  have hm := bP (⟨0, []⟩ : Rw) fW
  have qS := hr _ hm
  have ih := H6 vu bH hx hp hr hc hl k (j + 1) af
  refine bl (E := EK) follows named (H5 S x (i : Nat) (j : Nat)) ?_
  simp only [az, T.WP, All, aB, aC, aA, w1, bB.ae, bN.ae, bJ.ae, Int.toNat_natCast]
  refine ⟨⟨aK, gT⟩, fun _ => ⟨⟨aK, gT⟩, ⟨aK, aL⟩, ⟨aK, dC⟩, ?_⟩, fun h => af⟩
  rintro _ -
  refine ⟨hc _ hm, fun h => af, fun _ => ⟨fun aZ => ?_, fun _ => ih⟩⟩
  have R8 : 1 <= j := af
  have w2 : IntKind.i64.wrap ((j : Int) - 1) = ((j - 1 : Nat) : Int) := by rw [cQ af]; omega
  have cA := bN.at (x.ar.getD i []) ⟨0, []⟩ (j - 1) 2 af rfl
  have bO := LG hp ⟨0, []⟩ R8 fW
  rw [w2]
  simp only [Int.toNat_natCast]
  exact ⟨⟨aK, gT⟩, ⟨af, cA⟩, fun h => af, fun _ => ih⟩
theorem HW {x : aM} (hx : gP x) (hn : x.next <= 1000000) : ∀ (k j : Nat), j + k = 3 -> a8 Tryz.prog 0 (lp Tryz.prog m9 0) (wD aO x j) (.exit 0) ⟨ai 87 [], [], []⟩
 | 0, j, hj => by
  have h3 := hx.2.n
  have hj : j = 3 := hj
  subst hj
  refine bl (E := AO aO x) follows named (HV aO x ((3 : Nat) : Int)) ?_
  simp only [az, T.WP, All, aB, aC, aA, h3]
  exact ⟨fun h => by omega, fun _ => ⟨rfl, rfl⟩⟩
 | k + 1, j, hj => by
  have h3 := hx.2.n
  have fW : j < x.ar.length := by omega
  have hR := hx.2.r j (by omega)
  have aL := bB.at x.ar [] j 1 fW rfl
  have w1 : IntKind.i64.wrap ((j : Int) + 1) = ((j + 1 : Nat) : Int) := bE (by omega)
  have ih := HW hx hn k (j + 1) (by omega)
  have hG := iL (show j < 3 by omega)
  have vE := hR.n
  have cL := H6 (S := aO) (x := x) (i := j) (by show j < 3; omega) fW hn hR.p hR.i (fun r hr => Zy (hR.c r hr) (Nat.le_trans hG.n (by omega)) hG.mx (by have := hR.i r hr; omega)) (by omega) (x.ar.getD j []).length 0 (by omega)
  refine bl (E := AO aO x) follows named (HV aO x (j : Nat)) ?_
  simp only [az, T.WP, All, aB, aC, aA, w1, bB.ae, Int.toNat_natCast]
  refine ⟨fun _ => ⟨⟨aK, aL⟩, fun h => by omega, fun _ => ?_⟩, fun h => by omega⟩
  rintro _ -
  exact ⟨⟨bn, .bg cL⟩, ih⟩
theorem QJ {x : aM} (hx : gP x) (hn : x.next <= 1000000) : ao Tryz.prog m9 [.agg [ab aq aO], .agg (aP x)] [] ⟨.bool true, [], []⟩ := by
 have h3 := hx.2.n
 have h1 := hx.1
 refine bh (E := FN aO x) follows named (QE aO x) (by simp) ?_
 simp only [az, T.WP, All, aA]
 refine ⟨fun h => by rw [h3] at h; exact absurd h (by decide), fun _ => ?_⟩
 rintro y e
 have hy : y = true := by rw [e]; unfold bz; rw [Bool.and_eq_true, decide_eq_true_eq, decide_eq_true_eq]; omega
 refine ⟨by rw [e]; exact ja _ _ _, fun h => by rw [hy] at h; simp at h, fun _ => ?_⟩
 rintro _ -
 exact ⟨⟨bn, .bg (HW hx hn 3 0 rfl)⟩, aQ⟩
theorem Xz {c : a6} (h : nY c) : ao Tryz.prog BW [.agg (aH c)] [] ⟨.bool true, [], []⟩ := by
 obtain ⟨k, hd⟩ := h.d
 refine bh (E := EK) follows named (XA c) (by simp) ?_
 simp only [az, T.WP, All, aA]
 rintro y e
 have hy : y = true := by rw [e]; unfold bz; rw [Bool.and_eq_true, decide_eq_true_eq, decide_eq_true_eq]; exact h.f
 refine ⟨by rw [e]; exact ja _ _ _, fun _ => ?_, fun h => by rw [hy] at h; cases h⟩
 rintro _ -
 refine ⟨Hd hd h.l, ?_⟩
 rw [decide_eq_true (show (c.aG.length : Int) <= 40 by have := h.n; omega)]
 exact aQ
theorem JL (l : List a6) (hc : ∀ c ∈ l, nY c) (hl : l.length <= 1048576) : ∀ (k i : Nat), i + k = l.length -> a8 Tryz.prog 0 (lp Tryz.prog sH 0) (E6 l i) (.exit 0) ⟨ai 19 [(0, ab aH l)], [], []⟩
 | 0, i, hi => by
  have hi : i = l.length := hi
  subst hi
  refine bl (E := EK) follows named (JK l (l.length : Nat)) ?_
  simp only [az, T.WP, All, aB, aC, aA]
  exact ⟨fun h => af, fun _ => ⟨rfl, rfl⟩⟩
 | k + 1, i, hi => by
  have bH : i < l.length := af
  have aL := cg.at l ⟨[], 0, []⟩ i 3 bH rfl
  have w1 : IntKind.i64.wrap ((i : Int) + 1) = ((i + 1 : Nat) : Int) := bE af
  have ih := JL l hc hl k (i + 1) af
  refine bl (E := EK) follows named (JK l (i : Nat)) ?_
  simp only [az, T.WP, All, aB, aC, aA, w1, cg.ae, Int.toNat_natCast]
  refine ⟨fun _ => ⟨⟨aK, aL⟩, ?_⟩, fun h => af⟩
  rintro _ -
  exact ⟨Xz (hc _ (bP _ bH)), ih⟩
theorem Us {l : List a6} (hc : ∀ c ∈ l, nY c) (hl : l.length <= 8) : ao Tryz.prog sH [ab aH l] [] ⟨.bool true, [], []⟩ := by
 have gY := JL l hc (by omega) l.length 0 (by omega)
 refine bh (E := AU) follows named (Uw l) (by simp) ?_
 simp only [T.WP, All, aA, cg.ae]
 rintro _ -
 refine ⟨⟨bn, .bg gY⟩, ?_⟩
 rw [decide_eq_true (show (l.length : Int) <= 8 by omega)]
 exact ⟨rfl, rfl, by simp⟩
theorem yw {α : Type} {f : α -> Int} : ∀ {l : List α}, (∀ x ∈ l, f x = 0) -> firstC f l = 0
 | [], _ => rfl
 | x :: l, h => by
  rw [firstC, h x (by simp)]
  exact yw fun y hy => h y (by simp [hy])
theorem aa4 {x : aM} {t : Nat} {l : List a6} (hx : gP x) (hn : x.next <= 1000000) (ht : t < 3) (hc : ∀ c ∈ l, fh (bA t) c) (hl : l.length <= 8) :
  ao Tryz.prog yn [.agg [ab aq aO], .agg (aP x), .int .i64 t, ab aH l] [] ⟨.tup [ab aN (bK (bA t) (x.ar.getD t []) l), .int .i64 0], [], []⟩ := by
 have h3 := hx.2.n
 have hR := hx.2.r t ht
 have vE := hR.n
 have hG := iL ht
 have dC := bJ.at aO ⟨[], [], [], false⟩ t 4 (by show t < 3; omega) rfl
 have gT := bB.at x.ar [] t 1 af rfl
 have dv := GG (bA t) l (Nat.le_trans hG.n af) af
 rw [yw fun c bQ => (hc c bQ).s] at dv
 have vN := My (t := bA t) (rows := x.ar.getD t []) (l := l) (fun r hr => ⟨(hR.c r hr).s hG, (hR.c r hr).n, Nat.le_trans hG.n af⟩) (fun c bQ => (hc c bQ).m) af af
 have w1 : IntKind.i64.wrap (((aO.length : Nat) : Int) - 1) = 2 := by decide
 refine bh (E := EK) follows named (aa3 aO x (t : Nat) l) (by simp) ?_
 simp only [az, T.WP, All, aB, aC, aA, w1, bJ.ae, bB.ae, bN.ae, cg.ae, cm, Int.toNat_natCast]
 refine ⟨fun h => af, fun _ => ?_⟩
 rintro _ -
 refine ⟨Z0, ?_⟩
 rintro _ -
 refine ⟨QJ hx hn, ?_⟩
 rintro _ -
 refine ⟨Us (fun c bQ => (hc c bQ).i) hl, ?_⟩
 rintro y e
 have hy : y = true := by rw [e]; unfold bz; rw [Bool.and_eq_true, decide_eq_true_eq, decide_eq_true_eq]; omega
 refine ⟨by rw [e]; exact ja _ _ _, fun h => by rw [hy] at h; simp at h, fun _ => ⟨⟨⟨af, by show (t : Int) < 3; omega⟩, dC⟩, ?_⟩⟩
 rintro _ -
 refine ⟨dv, ⟨⟨af, by show (t : Int) < 3; omega⟩, dC⟩, ⟨⟨af, af⟩, gT⟩, ?_⟩
 rintro y2 rfl
 exact ⟨vN, aQ⟩
abbrev BX : Nat := 9
abbrev s4 : Nat := 14
theorem Oh (l : List UInt8) (i n : Int) : fnT E0 0 BX [ab aR l, .int .i64 i, .int .i64 n] [] = (
 let q := (↑l.length : Int);
 let q4 := ah aR l;
 let q3 := IntKind.i64.wrap (i + 1);
 let q1 := (↑(UInt8.toNat (List.getD (ae aR q4) (Int.toNat (Int.tmod q3 q)) (0 : UInt8))) : Int);
 let q2 := (↑(UInt8.toNat (List.getD (ae aR q4) (Int.toNat (Int.tmod i q)) (0 : UInt8))) : Int); bif decide (n <= 1) then .done (aj.mk (aa 0) [] []) else bif q == 0 then .ag [n ≠ (0 : Int)] (.done (aj.mk (aa (Int.tmod
  (IntKind.i64.wrap (i * 7)) n)) [] [])) else .ag [q ≠ (0 : Int)] (.ag [0 <= Int.tmod i q /\ Int.tmod i q < q, List.take 1 (List.drop (Int.toNat (Int.tmod i q) * 1) q4) = [.int .u8 q2]] (.ag [q ≠ (0 : Int)] (.ag [0 <= Int.tmod q3 q
  /\ Int.tmod q3 q < q, List.take 1 (List.drop (Int.toNat (Int.tmod q3 q) * 1) q4) = [.int .u8 q1]] (.ag [q ≠ (0 : Int)] (.ag [n ≠ (0 : Int)] (.done (aj.mk (aa (Int.tmod (IntKind.i64.wrap (IntKind.i64.wrap (IntKind.i64.wrap
  (IntKind.i64.wrap q2 * 31) + IntKind.i64.wrap q1) + IntKind.i64.wrap (Int.tdiv i q))) n)) [] []))))))) : T _) := by kernel_rfl
def Fe (A B : List Int) (i : Int) : St := ⟨ai 26 [(0, ab aN A), (1, ab aN B), (5, .int .i64 i)], [], []⟩
def WT : Ex -> Kp := fun ex => match ex with
 | .normal => { keep := [0, 1, 5] }
 | .ret => { keep := [4] }
 | .exit _ => { keep := [] }
theorem Mk (A B : List Int) (i : Int) : bx E0 0 WT (lp Tryz.prog s4 0) (Fe A B i) = (
 let q := ae aN (ah aN A);
 let q1 := ae aN (ah aN B); bif decide (i < (↑A.length : Int)) then .ag [0 <= i /\ i < (↑A.length : Int), List.take 1 (List.drop (i.toNat * 1) (ah aN A)) = [aa (List.getD q i.toNat (0 : Int))]] (.ag [0 <= i /\ i <
  (↑B.length : Int), List.take 1 (List.drop (i.toNat * 1) (ah aN B)) = [aa (List.getD q1 i.toNat (0 : Int))]] (bif List.getD q i.toNat (0 : Int) != List.getD q1 i.toNat (0 : Int) then .done (Ex.ret, St.mk (ai 26 [(4, .bool
  false)]) [] []) else .done (Ex.normal, St.mk (ai 26 [(0, ab aN A), (1, ab aN B), (5, aa (IntKind.i64.wrap (i + 1)))]) [] []))) else .done (Ex.exit 0, St.mk (ai 26 []) [] []) : T _) := by kernel_rfl
noncomputable def A3 : Env := { P := Tryz.prog, vw := cq, res := fun _ _ _ => none, ls := fun id s => match id, s.tm.get 0, s.tm.get 1 with
 | 0, .dsl _ _ cs, .dsl _ _ ds => some ⟨(), fun _ => .one { keep := [0, 1, 5] } (Fe (ae aN cs) (ae aN ds) 0) (.exit 0) ⟨ai 26 [], [], []⟩⟩
 | _, _, _ => none }
theorem ZH (A B : List Int) : fnT A3 0 s4 [ab aN A, ab aN B] [] = (
 let q := ai 26 [(0, ab aN (ae aN (ah aN A))), (1, ab aN (ae aN (ah aN B))), (5, aa 0)]; bif (↑A.length : Int) != (↑B.length : Int) then .done (aj.mk (.bool false) [] []) else .bind PUnit.unit fun _
  => .ag [St.mk (ai 26 [(0, ab aN A), (1, ab aN B), (5, aa 0)]) [] [] = St.mk q [] [], aV (Env.P A3) 0 (blk Tryz.prog s4 0) (St.mk q [] []) (Ex.exit 0) (St.mk (ai 26 []) [] [])] (.done (aj.mk (.bool true) []
  [])) : T _) := by kernel_rfl
def sv (l : List UInt8) (i : Nat) : Nat := if l.length = 0 then i * 7 else (l.getD (i % l.length) 0).toNat * 31 + (l.getD ((i + 1) % l.length) 0).toNat + i / l.length
def lu (l : List UInt8) (i : Nat) (n : Int) : Int := if n <= 1 then 0 else ((sv l i % n.toNat : Nat) : Int)
theorem Oc (l : List UInt8) (i : Nat) {n : Int} (h : 1 <= n) : 0 <= lu l i n /\ lu l i n < n := by
 unfold lu
 split
 ·omega
 ·have := Nat.mod_lt (sv l i) (show 0 < n.toNat by omega)
  omega
theorem Of (l : List UInt8) (i : Nat) (hi : i <= 1000) : sv l i <= 100000 := by
 unfold sv
 split
 ·omega
 ·have h1 := (l.getD (i % l.length) 0).toNat_lt
  have h2 := (l.getD ((i + 1) % l.length) 0).toNat_lt
  have h3 := Nat.div_le_self i l.length
  omega
theorem Nd (a : Nat) {n : Int} (h : 1 <= n) : (a : Int).tmod n = ((a % n.toNat : Nat) : Int) := by
 have : n = ((n.toNat : Nat) : Int) := af
 rw [this, Int.ofNat_tmod]; simp
theorem Oi (l : List UInt8) (i : Nat) (hi : i <= 1000) (n : Int) (hn : 1 <= n) : ao Tryz.prog BX [ab aR l, .int .i64 i, .int .i64 n] [] ⟨.int .i64 (lu l i n), [], []⟩ := by
 refine bh (E := E0) follows named (Oh l i n) (by simp) ?_
 have hb := Of l i hi
 simp only [az, T.WP, All, aB, aC, aA, aD, aE, aF, lP.ae]
 refine ⟨fun h => ⟨?_, rfl, by simp⟩, fun h => ⟨fun h0 => ⟨by omega, ?_, rfl, by simp⟩, fun h0 => ?_⟩⟩
 ·show V.int _ _ = V.int _ _
  rw [lu, if_pos h]
 ·show V.int _ _ = V.int _ _
  have CE : l.length = 0 := by omega
  rw [lu, if_neg h, sv, if_pos CE, cQ (by omega), show (i : Int) * 7 = ((i * 7 : Nat) : Int) by omega, Nd _ hn]
 ·have CE : ¬ l.length = 0 := by omega
  have m1 := Nat.mod_lt i (show 0 < l.length by omega)
  have m2 := Nat.mod_lt (i + 1) (show 0 < l.length by omega)
  have a1 := lP.at l 0 (i % l.length) 1 m1 rfl
  have a2 := lP.at l 0 ((i + 1) % l.length) 1 m2 rfl
  have c1 := (l.getD (i % l.length) 0).toNat_lt
  have c2 := (l.getD ((i + 1) % l.length) 0).toNat_lt
  have c3 := Nat.div_le_self i l.length
  rw [cQ (show -9223372036854775808 <= (i : Int) + 1 /\ (i : Int) + 1 <= 9223372036854775807 by omega), show (i : Int) + 1 = ((i + 1 : Nat) : Int) by omega, <- Int.ofNat_tmod, <- Int.ofNat_tmod, <- Int.ofNat_tdiv]
  simp only [Int.toNat_natCast]
  refine ⟨h0, ⟨by omega, a1⟩, h0, ⟨by omega, a2⟩, h0, by omega, ?_, rfl, by simp⟩
  show V.int _ _ = V.int _ _
  rw [lu, if_neg h, sv, if_neg CE]
  generalize (l.getD (i % l.length) 0).toNat = u at *
  generalize (l.getD ((i + 1) % l.length) 0).toNat = v at *
  generalize i / l.length = w at *
  rw [cQ (n := (u : Int)) (by omega), cQ (n := (v : Int)) (by omega), cQ (n := (w : Int)) (by omega), cQ (n := (u : Int) * 31) (by omega), cQ (n := (u : Int) * 31 + v) (by omega), cQ (n := (u : Int) * 31 + v + w) (by omega), <- Nd _ hn]
  congr 1
theorem Ml (A : List Int) (hl : A.length <= 4294967296) : ∀ (m i : Nat), i + m = A.length -> a8 Tryz.prog 0 (lp Tryz.prog s4 0) (Fe A A i) (.exit 0) ⟨ai 26 [], [], []⟩
 | 0, i, h => by
  have h : i = A.length := h
  subst h
  refine bl (E := E0) follows named (Mk A A (A.length : Nat)) ?_
  simp only [az, T.WP, All, aB, aC, aA]
  exact ⟨fun h => af, fun _ => ⟨rfl, rfl⟩⟩
 | m + 1, i, h => by
  have bH : i < A.length := af
  have aL := ej.at A 0 i 1 bH rfl
  have ih := Ml A hl m (i + 1) af
  have w1 : IntKind.i64.wrap ((i : Int) + 1) = ((i + 1 : Nat) : Int) := bE af
  refine bl (E := E0) follows named (Mk A A (i : Nat)) ?_
  simp only [az, T.WP, All, aB, aC, aA, w1, Int.toNat_natCast, ej.ae]
  exact ⟨fun _ => ⟨⟨aK, aL⟩, ⟨aK, aL⟩, fun h => by simp at h, fun _ => ih⟩, fun h => af⟩
theorem ZI (A : List Int) (hl : A.length <= 4294967296) : ao Tryz.prog s4 [ab aN A, ab aN A] [] ⟨.bool true, [], []⟩ := by
 have h := Ml A hl A.length 0 af
 refine bh (E := A3) follows named (ZH A A) (by simp) ?_
 simp only [az, T.WP, All, aA, ej.ae]
 refine ⟨fun h => by simp at h, fun _ => ?_⟩
 rintro _ -
 exact ⟨⟨bn, .bg h⟩, aQ⟩
abbrev Cf : Nat := 42
abbrev s5 : Nat := 11
abbrev B5 : Nat := 13
abbrev Cj : Nat := 17
abbrev yj : Nat := 18
abbrev HK : Nat := 16
abbrev HH : Nat := 15
noncomputable def Zd : cP := fun f vs hp => match vs, hp with
 | [.dsl _ _ cs], [] => bif Nat.beq f Cf then some ⟨(), fun _ => ⟨.bool true, [], []⟩⟩ else bif Nat.beq f ye then some ⟨(), fun _ => ⟨.bool true, [], []⟩⟩ else bif Nat.beq f yp then some ⟨gL (ae aR cs), fun y => ⟨.ptr 0 0, [au y], []⟩⟩ else none
 | [.ptr 0 0, .int _ n], [some ([.dsl _ _ cs, .int _ k, .int _ s], _)] => bif Nat.beq f oD then some ⟨fS (bc cs k s) n, fun y => ⟨.agg (aH y.1), [au y.2], [0]⟩⟩ else none
 | [.agg [.dsl _ _ _], .agg [.dsl _ _ _, .int _ _]], [] => bif Nat.beq f nk then some ⟨(), fun _ => ⟨.bool true, [], []⟩⟩ else none
 | [.int _ a, .int _ b, .int _ c], [] => bif Nat.beq f yr then some ⟨bz a b c, fun y => ⟨.bool y, [], []⟩⟩ else none
 | [.agg [.str _, .dsl _ _ _, .dsl _ _ _, .bool _], .dsl _ _ _], [] => bif Nat.beq f qp then some ⟨(), fun _ => ⟨.int .i64 0, [], []⟩⟩ else none
 | [.agg [.str _, .dsl _ _ _, .dsl _ _ _, .bool _], .agg [.str _, .int _ _, .dsl _ _ _]], [] => bif Nat.beq f yc then some ⟨(), fun _ => ⟨.int .i64 0, [], []⟩⟩ else none
 | [.agg [.str tn, .dsl _ _ cc, .dsl _ _ uu, .bool q], .dsl _ _ rs, .dsl _ _ ls], [] => bif Nat.beq f qw then some ⟨bK (bw tn cc uu q) (ae av rs) (ae aH ls), fun y => ⟨ab aN y, [], []⟩⟩ else none
 | [.agg [.str _, .int _ _, .dsl _ _ _]], [] => bif Nat.beq f yd then some ⟨(), fun _ => ⟨.bool true, [], []⟩⟩ else none
 | [.agg [.str _, .dsl _ _ _, .dsl _ _ _, .bool _], .agg [.int _ _, .dsl _ _ _]], [] => bif Nat.beq f ym then some ⟨(), fun _ => ⟨.bool true, [], []⟩⟩ else none
 | [.agg [.str _, .dsl _ _ _, .dsl _ _ _, .bool _]], [] => bif Nat.beq f yq then some ⟨(), fun _ => ⟨.bool true, [], []⟩⟩ else none
 | [.agg [.str tn, .dsl _ _ cc, .dsl _ _ uu, .bool q], .agg [.int _ d, .dsl _ _ cs], .agg [.str cn, .int _ fn, .dsl _ _ va]], [] => bif Nat.beq f yk then some ⟨cN (bw tn cc uu q) ⟨d, ae a7 cs⟩ ⟨cn, fn, ae ak va⟩, fun y => ⟨.bool y, [], []⟩⟩ else none
 | [.agg [.str tn, .dsl _ _ cc, .dsl _ _ uu, .bool q], .agg [.int _ d, .dsl _ _ cs], .dsl _ _ ls], [] => bif Nat.beq f yi then some ⟨cE (bw tn cc uu q) ⟨d, ae a7 cs⟩ (ae aH ls), fun y => ⟨.bool y, [], []⟩⟩ else none
 | _, _ => none
noncomputable def EO : Env := { P := Tryz.prog, vw := cq, res := Zd }
theorem isLT (l : List a6) : fnT EO 0 Cf [ab aH l] [] = (
 .done (aj.mk (.bool (decide ((↑l.length : Int) <= 4096))) [] []) : T _) := (T.force_eq _).symm.trans (by kernel_rfl)
theorem aa1 (S : aS) (x : aM) (t : Int) (l : List a6) : fnT EO 0 s5 [.agg [ab aq S], .agg (aP x), .int .i64 t, ab aH l] [] = (
 let q := List.getD (ae aq (ah aq S)) t.toNat (Tb.mk [] [] [] false);
 let q6 := ah aI x.ar;
 let q1 := List.getD (ae aI q6) t.toNat [];
 let q2 : List Prop := [0 <= t /\ t < (↑S.length : Int), List.take 4 (List.drop (t.toNat * 4) (ah aq S)) = (aq q)];
 let q3 := (↑x.ar.length : Int);
 let q4 := aj.mk (.bool true) [] [];
 let q5 := IntKind.i64.wrap (q3 - 1); .bind PUnit.unit fun _ => .ag [ao (Env.P EO) 42 [ab aH l] [] q4] (.bind PUnit.unit fun _ => .ag [ao (Env.P EO) 43 [ab aH l] [] q4] (.bind PUnit.unit fun _ => .ag [ao (Env.P
  EO) 44 [.agg [ab aq S], .agg (aP x)] [] q4] (.bind (bz t (0 : Int) q5) fun y3 => .ag [ao (Env.P EO) 45 [aa t, aa 0, aa q5] [] (aj.mk (.bool y3) [] [])] (bif !y3 then .done (aj.mk (.tup [.dsl 0 false [], aa 10]) []
  []) else .ag q2 (.bind PUnit.unit fun _ => .ag [ao (Env.P EO) 46 [.agg (aq q), ab aH l] [] (aj.mk (aa 0) [] [])] (.ag q2 (.ag [0 <= t /\ t < q3, List.take 1 (List.drop (t.toNat * 1) q6) = [ab av q1]] (.bind (bK
  (bw q.name (ah ba q.aw) (ah aN q.uniq) q.root) (ae av (ah av q1)) (ae aH (ah aH l))) fun y5 => .ag [ao (Env.P EO) 47 [.agg (aq q), ab av q1, ab aH l] [] (aj.mk (ab aN y5) []
  [])] (.done (aj.mk (.tup [ab aN y5, aa 0]) [] [])))))))))) : T _) := (T.force_eq _).symm.trans (by kernel_rfl)
theorem Pb (t : Tb) (c : a6) : fnT EO 0 B5 [.agg (aq t), .agg (aH c)] [] = (
 let q := aj.mk (.bool true) [] []; .bind PUnit.unit fun _ => .ag [ao (Env.P EO) 54 [.agg (aq t)] [] q] (.bind PUnit.unit fun _ => .ag [ao (Env.P EO) 55 [.agg (aH c)] [] q] (.bind PUnit.unit fun _ => .ag [ao (Env.P
  EO) 56 [.agg (aq t), .agg (aH c)] [] (aj.mk (aa 0) [] [])] (.done (aj.mk (.tup [aa 0, aa 0]) [] [])))) : T _) := (T.force_eq _).symm.trans (by kernel_rfl)
theorem VJ (t : Tb) (r : Rw) (c : a6) : fnT EO 0 Cj [.agg (aq t), .agg (av r), .agg (aH c)] [] = (
 let q := aj.mk (.bool true) [] []; .bind PUnit.unit fun _ => .ag [ao (Env.P EO) 55 [.agg (aH c)] [] q] (.bind PUnit.unit fun _ => .ag [ao (Env.P EO) 60 [.agg (aq t), .agg (av r)] [] q] (.bind PUnit.unit fun _ =>
  .ag [ao (Env.P EO) 56 [.agg (aq t), .agg (aH c)] [] (aj.mk (aa 0) [] [])] (.bind (cN (bw t.name (ah ba t.aw) (ah aN t.uniq) t.root) (Rw.mk r.id (ae a7 (ah a7 r.cells))) (a6.mk c.aG c.func
  (ae ak (ah ak c.val)))) fun y3 => .ag [ao (Env.P EO) 61 [.agg (aq t), .agg (av r), .agg (aH c)] [] (aj.mk (.bool y3) [] [])] (.done (aj.mk (.tup [.bool y3, aa 0]) [] []))))) : T _) := (T.force_eq _).symm.trans (by kernel_rfl)
theorem VB (t : Tb) (r : Rw) (l : List a6) : fnT EO 0 yj [.agg (aq t), .agg (av r), ab aH l] [] = (
 let q := aj.mk (.bool true) [] []; .bind PUnit.unit fun _ => .ag [ao (Env.P EO) 42 [ab aH l] [] q] (.bind PUnit.unit fun _ => .ag [ao (Env.P EO) 43 [ab aH l] [] q] (.bind PUnit.unit fun _ => .ag [ao (Env.P EO)
  60 [.agg (aq t), .agg (av r)] [] q] (.bind PUnit.unit fun _ => .ag [ao (Env.P EO) 46 [.agg (aq t), ab aH l] [] (aj.mk (aa 0) [] [])] (.bind (cE (bw t.name (ah ba t.aw) (ah aN t.uniq) t.root)
  (Rw.mk r.id (ae a7 (ah a7 r.cells))) (ae aH (ah aH l))) fun y4 => .ag [ao (Env.P EO) 62 [.agg (aq t), .agg (av r), ab aH l] [] (aj.mk (.bool y4) [] [])] (.done (aj.mk (.tup [.bool y4, aa 0]) []
  [])))))) : T _) := (T.force_eq _).symm.trans (by kernel_rfl)
theorem OH (l : List UInt8) (t : Int) : fnT EO 0 B6 [ab aR l, .int .i64 t] [] = (
 .bind (gL (ae aR (ah aR l))) fun y0 =>
 let q : Hp := [some ([ab aR y0.l, aa (↑y0.k : Int), aa y0.s], 138)]; .ag [ao (Env.P EO) 39 [ab aR l] [] (aj.mk (.ptr 0 0) q [])] (.bind (fS (bc (ah aR y0.l) (↑y0.k : Int) y0.s) t) fun y1 => .ag [ao
  (Env.P EO) 41 [.ptr 0 0, aa t] q (aj.mk (.agg (aH y1.1)) [some ([ab aR y1.2.l, aa (↑y1.2.k : Int), aa y1.2.s], 138)] [0])] (.done (aj.mk (.agg (aH y1.1)) [] []))) : T _) := (T.force_eq _).symm.trans (by kernel_rfl)
theorem Jv (l : List a6) (h : l.length <= 8) : ao Tryz.prog Cf [ab aH l] [] ⟨.bool true, [], []⟩ := by
 refine bh (E := EO) follows named (isLT l) (by simp) ?_
 simp only [T.WP]
 rw [decide_eq_true (show (l.length : Int) <= 4096 by omega)]
 exact ⟨rfl, rfl, by simp⟩
theorem Mx {x : aM} {t : Nat} {l : List a6} (hx : gP x) (hn : x.next <= 1000000) (ht : t < 3) (hc : ∀ c ∈ l, fh (bA t) c) (hl : l.length <= 8) :
  ao Tryz.prog s5 [.agg [ab aq aO], .agg (aP x), .int .i64 t, ab aH l] [] ⟨.tup [ab aN (bK (bA t) (x.ar.getD t []) l), .int .i64 0], [], []⟩ := by
 have h3 := hx.2.n
 have hR := hx.2.r t ht
 have vE := hR.n
 have hG := iL ht
 have dC := bJ.at aO ⟨[], [], [], false⟩ t 4 (by show t < 3; omega) rfl
 have gT := bB.at x.ar [] t 1 af rfl
 have dv := G8 (bA t) l (Nat.le_trans hG.n af) af
 rw [yw fun c bQ => (hc c bQ).n] at dv
 have vN := aa0 hG hR.c hc af af
 have w1 : IntKind.i64.wrap ((x.ar.length : Int) - 1) = 2 := by rw [h3]; decide
 refine bh (E := EO) follows named (aa1 aO x (t : Nat) l) (by simp) ?_
 simp only [az, T.WP, All, aA, w1, bJ.ae, bB.ae, bN.ae, cg.ae, cm, Int.toNat_natCast]
 rintro _ -
 refine ⟨Jv l hl, ?_⟩
 rintro _ -
 refine ⟨G9 (fun c bQ => (hc c bQ).i) hl, ?_⟩
 rintro _ -
 refine ⟨Qt hx hn, ?_⟩
 rintro y e
 have hy : y = true := by rw [e]; unfold bz; rw [Bool.and_eq_true, decide_eq_true_eq, decide_eq_true_eq]; omega
 refine ⟨by rw [e]; exact nW _ _ _, fun h => by rw [hy] at h; simp at h, fun _ => ⟨⟨⟨af, by show (t : Int) < 3; omega⟩, dC⟩, ?_⟩⟩
 rintro _ -
 refine ⟨dv, ⟨⟨af, by show (t : Int) < 3; omega⟩, dC⟩, ⟨⟨af, af⟩, gT⟩, ?_⟩
 rintro y2 rfl
 exact ⟨vN, aQ⟩
theorem Pc {t : Nat} {c : a6} (ht : t < 3) (hc : fh (bA t) c) : ao Tryz.prog B5 [.agg (aq (bA t)), .agg (aH c)] [] ⟨.tup [.int .i64 0, .int .i64 0], [], []⟩ := by
 have hG := iL ht
 have h := BH (bA t) c (Nat.le_trans hG.n af)
 rw [hc.n] at h
 refine bh (E := EO) follows named (Pb (bA t) c) (by simp) ?_
 simp only [T.WP, All, aA]
 rintro _ -
 refine ⟨Fx ht, ?_⟩
 rintro _ -
 refine ⟨BI hc.i, ?_⟩
 rintro _ -
 exact ⟨h, aQ⟩
theorem VK {t : Nat} {r : Rw} {c : a6} (ht : t < 3) (hr : dh (bA t) r) (hi : 1 <= r.id /\ r.id < 1000000) (hc : fh (bA t) c) : ao Tryz.prog Cj [.agg (aq (bA t)), .agg (av r), .agg (aH c)] [] ⟨.tup [.bool (cN (bA t) r c), .int .i64 0], [], []⟩ := by
 have hG := iL ht
 have h := BH (bA t) c (Nat.le_trans hG.n af)
 rw [hc.n] at h
 have hm := JV hG hr hc
 refine bh (E := EO) follows named (VJ (bA t) r c) (by simp) ?_
 simp only [T.WP, All, aA, bV.ae, bq.ae, cm]
 rintro _ -
 refine ⟨BI hc.i, ?_⟩
 rintro _ -
 refine ⟨L9 hr (Nat.le_trans hG.n af) hG.mx hi (Fx ht), ?_⟩
 rintro _ -
 refine ⟨h, ?_⟩
 rintro y rfl
 exact ⟨hm, aQ⟩
theorem VC {t : Nat} {r : Rw} {l : List a6} (ht : t < 3) (hr : dh (bA t) r) (hi : 1 <= r.id /\ r.id < 1000000) (hc : ∀ c ∈ l, fh (bA t) c) (hl : l.length <= 8) : ao Tryz.prog yj [.agg (aq (bA t)), .agg (av r), ab aH l] [] ⟨.tup [.bool (cE (bA t) r l), .int .i64 0], [], []⟩ := by
 have hG := iL ht
 have dv := G8 (bA t) l (Nat.le_trans hG.n af) af
 rw [yw fun c bQ => (hc c bQ).n] at dv
 have hm := JT hG hr hc af
 refine bh (E := EO) follows named (VB (bA t) r l) (by simp) ?_
 simp only [T.WP, All, aA, bV.ae, cg.ae, cm]
 rintro _ -
 refine ⟨Jv l hl, ?_⟩
 rintro _ -
 refine ⟨G9 (fun c bQ => (hc c bQ).i) hl, ?_⟩
 rintro _ -
 refine ⟨L9 hr (Nat.le_trans hG.n af) hG.mx hi (Fx ht), ?_⟩
 rintro _ -
 refine ⟨dv, ?_⟩
 rintro y rfl
 exact ⟨hm, aQ⟩
def xj (n : Int) : List UInt8 := [[61, 61], [33, 61], [60], [60, 61], [62], [62, 61], [105, 110, 99, 108, 117, 100, 101, 115], [101, 120, 99, 108, 117, 100, 101, 115]].getD (n - 1).toNat []
theorem ai9 {n : Int} (h : 1 <= n /\ n <= 8) : ao Tryz.prog HK [.int .i64 n] [] ⟨.str (xj n), [], []⟩ /\ ao Tryz.prog HH [.str (xj n)] [] ⟨.int .i64 n, [], []⟩ := by
 rcases Cy h with rfl | rfl | rfl | rfl | rfl | rfl | rfl | rfl
 all_goals exact ⟨m5 (n := 100) (d := 10) (by kernel_rfl), m5 (n := 100) (d := 10) (by kernel_rfl)⟩
theorem OI (l : List UInt8) (h : l.length <= 1048576) {t : Nat} (ht : t < 3) : ao Tryz.prog B6 [ab aR l, .int .i64 t] [] ⟨.agg (aH (fS (gL l) t).1), [], []⟩ /\ fh (bA t) (fS (gL l) t).1 := by
 have h0 : (gL l).OK (0 + 40) := (MW l h).less af
 have hs := BG (t := (t : Int)) af h0
 refine ⟨?_, hs.2.1.X ht⟩
 have lK := hs.1
 refine bh (E := EO) follows named (OH l (t : Nat)) (by simp) ?_
 simp only [T.WP, All, aA, lP.ae, dF]
 rintro y e
 have e : y = gL l := e
 rw [<- e] at lK ⊢
 refine ⟨by rw [e]; exact MU l, ?_⟩
 rintro y2 e2
 have e2 : y2 = fS y t := e2
 rw [<- e2] at lK ⊢
 exact ⟨lK, aQ⟩
abbrev uY : Nat := 3
def sC (c : a6) : Option bM := some (aH c, 34)
noncomputable def LY (S : aS) : cP := fun f vs hp => match vs, hp with
 | [.agg [.dsl _ _ ss], .agg [.dsl _ _ ts, .int _ _], .int _ t, .sl 0 0 1 true], [some ([.str cn, .int _ fn, .dsl _ _ va], _)] => bif Nat.beq f s5 || Nat.beq f yn then some ⟨bK ((ae aq ss).getD t.toNat .zero) ((ae aI ts).getD t.toNat []) [⟨cn, fn, ae ak va⟩], fun y => ⟨.tup [ab aN y, .int .i64 0], [none], [0]⟩⟩ else none
 | [.agg [.dsl _ _ ss], .agg [.dsl _ _ ts, .int _ _], .int _ t, .sl 0 0 0 true], [some ([], _)] => bif Nat.beq f s5 then some ⟨bK ((ae aq ss).getD t.toNat .zero) ((ae aI ts).getD t.toNat []) [], fun y => ⟨.tup [ab aN y, .int .i64 0], [none], [0]⟩⟩ else none
 | [.agg [.str _, .dsl _ _ _, .dsl _ _ _, .bool _], .agg [.str _, .int _ _, .dsl _ _ _]], [] => bif Nat.beq f B5 then some ⟨(), fun _ => ⟨.tup [.int .i64 0, .int .i64 0], [], []⟩⟩ else none
 | [.agg [.str tn, .dsl _ _ cc, .dsl _ _ uu, .bool q], .agg [.int _ d, .dsl _ _ cs], .agg [.str cn, .int _ fn, .dsl _ _ va]], [] => bif Nat.beq f Cj then some ⟨cN (bw tn cc uu q) ⟨d, ae a7 cs⟩ ⟨cn, fn, ae ak va⟩, fun y => ⟨.tup [.bool y, .int .i64 0], [], []⟩⟩ else none
 | [.agg [.str tn, .dsl _ _ cc, .dsl _ _ uu, .bool q], .agg [.int _ d, .dsl _ _ cs], .sl 0 0 2 true], [some ([.str cn, .int _ fn, .dsl _ _ va, .str Pa, .int _ Qz, .dsl _ _ va2], _)] => bif Nat.beq f yj then some ⟨cE (bw tn cc uu q) ⟨d, ae a7 cs⟩ [⟨cn, fn, ae ak va⟩, ⟨Pa, Qz, ae ak va2⟩], fun y => ⟨.tup [.bool y, .int .i64 0], [none], [0]⟩⟩ else none
 | [.dsl _ _ _, .dsl _ _ _], [] => bif Nat.beq f s4 then some ⟨(), fun _ => ⟨.bool true, [], []⟩⟩ else none
 | [.int _ n], [] => bif Nat.beq f HK then some ⟨xj n, fun y => ⟨.str y, [], []⟩⟩ else none
 | [.dsl _ _ cs, .int _ t], [] => bif Nat.beq f B6 then some ⟨(fS (gL (ae aR cs)) t).1, fun y => ⟨.agg (aH y), [], []⟩⟩ else none
 | [.dsl _ _ cs, .int _ 0, .int _ 3], [] => bif Nat.beq f BX then some ⟨lu (ae aR cs) 0 3, fun y => ⟨.int .i64 y, [], []⟩⟩ else none
 | [.dsl _ _ cs], [] => bif Nat.beq f Cp then some ⟨rK (ae aR cs), fun y => ⟨.agg (aP y), [], []⟩⟩ else none
 | [], [] => bif Nat.beq f nj then some ⟨(), fun _ => ⟨.agg [ab aq S], [], []⟩⟩ else none
 | _, _ => none
noncomputable def Zb (S : aS) (fn : Int) : cP := fun f vs hp => match vs, hp with
 | [.str _], [] => bif Nat.beq f HH then some ⟨fn, fun y => ⟨.int .i64 y, [], []⟩⟩ else none
 | _, _ => LY S f vs hp
def E7 (S : aS) (x : aM) (t : Int) (c : a6) (ids : List Int) (o : Int) (n i : Int) : St := ⟨ai 215 [(5, .ptr 0 0), (6, .ptr 1 0), (7, .int .i64 t), (8, .ptr 2 0), (9, ab aN ids), (17, .int .i64 n), (18, .ptr 3 0), (19, .int .i64 i)], [gz S, ES x, sC c, sC ⟨c.aG, o, c.val⟩], []⟩
def WA : Ex -> Kp := fun ex => match ex with
 | .normal => { keep := [5, 6, 7, 8, 9, 17, 18, 19] }
 | .ret => { keep := [4] }
 | .exit _ => { keep := [9, 17] }
noncomputable def AV (S : aS) : Env := { P := Tryz.prog, vw := cq, res := LY S }
theorem JQ (S : aS) (x : aM) (t : Int) (c : a6) (ids : List Int) (o n i : Int) : bx (AV S) 0 WA (lp Tryz.prog uY 0) (E7 S x t c ids o n i) = (
 let q1 := List.getD (ae aI (ah aI x.ar)) t.toNat [];
 let q := List.getD (ae av (ah av q1)) i.toNat (Rw.mk (0 : Int) []);
 let q2 := List.getD (ae aq (ah aq S)) t.toNat (Tb.mk [] [] [] false);
 let q3 : List Prop := [0 <= t /\ t < (↑x.ar.length : Int), List.take 1 (List.drop (t.toNat * 1) (ah aI x.ar)) = [ab av q1]];
 let bL : List V := [aa q.id, ab a7 q.cells];
 let q4 : List Prop := [0 <= i /\ i < (↑q1.length : Int), List.take 2 (List.drop (i.toNat * 2) (ah av q1)) = bL];
 let q5 := a6.mk c.aG o c.val;
 let fB := IntKind.i64.wrap (i + 1);
 let q6 := ai 215 [(5, .ptr 0 0), (6, .ptr 1 0), (7, aa t), (8, .ptr 2 0), (9, ab aN ids), (17, aa (IntKind.i64.wrap (n + 1))), (18, .ptr 3 0), (19, aa fB)];
 let q7 := ai 215 [(5, .ptr 0 0), (6, .ptr 1 0), (7, aa t), (8, .ptr 2 0), (9, ab aN ids), (17, aa n), (18, .ptr 3 0), (19, aa fB)];
 let fA := (↑ids.length : Int);
 let ca := ae aN (ah aN ids);
 let q8 : List Prop := [0 <= n /\ n < fA, List.take 1 (List.drop (n.toNat * 1) (ah aN ids)) = [aa (List.getD ca n.toNat (0 : Int))]];
 let q9 := ai 215 [(4, .bool false)];
 let br : List Prop := [0 <= t /\ t < (↑S.length : Int), List.take 4 (List.drop (t.toNat * 4) (ah aq S)) = (aq q2)];
 let bD := bw q2.name (ah ba q2.aw) (ah aN q2.uniq) q2.root;
 let cU := Rw.mk q.id (ae a7 (ah a7 q.cells));
 let eC := ae ak (ah ak c.val); .ag q3 (bif decide (i < (↑q1.length : Int)) then .ag br (.ag q3 (.ag q4 (.bind (cN bD cU (a6.mk c.aG c.func eC)) fun y0 => .ag [ao Tryz.prog 17 [.agg (aq q2), .agg bL,
  .agg (aH c)] [] (aj.mk (.tup [.bool y0, aa 0]) [] [])] (.ag br (.ag q3 (.ag q4 (.bind (cE bD cU [a6.mk c.aG c.func eC, a6.mk q5.aG q5.func (ae ak (ah ak q5.val))]) fun y1 => .ag [ao Tryz.prog 18
  [.agg (aq q2), .agg bL, .sl 0 0 2 true] [some ([.str c.aG, aa c.func, ab ak c.val, .str q5.aG, aa q5.func, ab ak q5.val], 34)] (aj.mk (.tup [.bool y1, aa 0]) [none] [0])] (bif y1 then bif decide (c.func < 7) then
  .done (Ex.ret, St.mk q9 [] []) else bif y0 then bif decide (n >= fA) then .done (Ex.ret, St.mk q9 [] []) else .ag q8 (.ag q3 (.ag q4 (bif List.getD ca n.toNat (0 : Int) != q.id then .done (Ex.ret, St.mk q9 [] []) else .done
  (Ex.normal, St.mk q6 [gz S, some ((aP x), 29), some ((aH c), 34), some ((aH q5), 34)] [])))) else .done (Ex.normal, St.mk q7 [gz S, some ((aP x), 29), some ((aH c), 34), some ((aH q5), 34)] []) else bif y0
  then bif decide (n >= fA) then .done (Ex.ret, St.mk q9 [] []) else .ag q8 (.ag q3 (.ag q4 (bif List.getD ca n.toNat (0 : Int) != q.id then .done (Ex.ret, St.mk q9 [] []) else .done (Ex.normal, St.mk q6 [gz S, some ((aP x),
  29), some ((aH c), 34), some ((aH q5), 34)] [])))) else .done (Ex.normal, St.mk q7 [gz S, some ((aP x), 29), some ((aH c), 34), some ((aH q5), 34)] []))))))))) else .done (Ex.exit 0, St.mk (ai 215 [(9, ab aN
  ids), (17, aa n)]) [] [])) : T _) := (T.force_eq _).symm.trans (by kernel_rfl)
noncomputable def xC (S : aS) (x : aM) (t : Int) (c : a6) (ids : List Int) (o : Int) : Env := { P := Tryz.prog, vw := cq, res := Zb S c.func, vs := [(14, 6, .int .i64 o)], ls := fun id _ => match id with
 | 0 => some ⟨(), fun _ => .one { keep := [5, 6, 7, 8, 9, 17, 18, 19] } (E7 S x t c ids o 0 0) (.exit 0) ⟨ai 215 [(9, ab aN ids), (17, .int .i64 ids.length)], [], []⟩⟩
 | _ => none }
theorem DJ (l m : List UInt8) (S : aS) (x : aM) (t : Int) (c : a6) (ids : List Int) (o : Int) : fnT (xC S x t c ids o) 0 uY [ab aR l, ab aR m] [] = (
 let q := ai 215 [(5, .ptr 0 0), (6, .ptr 1 0), (7, aa t), (8, .ptr 2 0), (9, ab aN ids), (17, aa 0), (18, .ptr 3 0), (19, aa 0)];
 let q1 := ae aq (ah aq S);
 let q2 := Tb.mk [] [] [] false;
 let q3 := aj.mk (.bool true) [] [];
 let q4 := aH (a6.mk c.aG o c.val);
 let q5 := (↑ids.length : Int);
 let q6 := ae aR (ah aR m);
 let q7 := aj.mk (.bool false) [] []; bif decide ((↑l.length : Int) > 1048576) then .done q3 else bif decide ((↑m.length : Int) > 1048576) then .done q3 else .bind PUnit.unit fun _ => .ag [ao Tryz.prog 7 [] [] (aj.mk (.agg [ab
  aq S]) [] [])] (.bind (rK (ae aR (ah aR l))) fun y1 =>
 let q9 := ah aI y1.ar;
 let q8 := ae aI q9; .ag [ao Tryz.prog 8 [ab aR l] [] (aj.mk (.agg (aP y1)) [] [])] (.bind (lu q6 0 (3 : Int)) fun y2 =>
 let br := List.getD q1 y2.toNat q2;
 let bD := List.getD q8 y2.toNat [];
 let bL : List V := [.agg [ab aq S], .agg (aP y1), aa y2, .sl 0 0 1 true]; .ag [ao Tryz.prog 9 [ab aR m, aa 0, aa 3] [] (aj.mk (aa y2) [] [])] (.bind (Prod.fst (fS (gL q6) y2)) fun y3 =>
 let ca := bK br bD [a6.mk y3.aG y3.func (ae ak (ah ak y3.val))]; .ag [ao Tryz.prog 10 [ab aR m, aa y2] [] (aj.mk (.agg (aH y3)) [] [])] (.bind ca fun y4 => .ag [ao Tryz.prog 11 bL [some ((aH
  y3), 34)] (aj.mk (.tup [ab aN y4, aa 0]) [none] [0])] (.bind ca fun y5 => .ag [ao Tryz.prog 12 bL [some ((aH y3), 34)] (aj.mk (.tup [ab aN y5, aa 0]) [none] [0])] (.bind (bK br bD []) fun y6 => .ag [ao
  Tryz.prog 11 [.agg [ab aq S], .agg (aP y1), aa y2, .sl 0 0 0 true] [some ([], 34)] (aj.mk (.tup [ab aN y6, aa 0]) [none] [0])] (.ag [0 <= y2 /\ y2 < (↑S.length : Int), List.take 4 (List.drop (y2.toNat * 4) (ah aq
  S)) = (aq br)] (.bind PUnit.unit fun _ => .ag [ao Tryz.prog 13 [.agg (aq br), .agg (aH y3)] [] (aj.mk (.tup [aa 0, aa 0]) [] [])] (.bind PUnit.unit fun _ => .ag [ao Tryz.prog 14 [ab aN y4, ab aN y5]
  [] q3] (.ag [0 <= y2 /\ y2 < (↑y1.ar.length : Int), List.take 1 (List.drop (y2.toNat * 1) q9) = [ab av bD]] (bif (↑y6.length : Int) != (↑bD.length : Int) then .done q7 else .bind (xj y3.func) fun y9 => .ag [ao Tryz.prog 16
  [aa y3.func] [] (aj.mk (.str y9) [] [])] (.bind c.func fun cx => .ag [ao Tryz.prog 15 [.str y9] [] (aj.mk (aa cx) [] [])] (bif cx != y3.func then .done q7 else .ag [0 <= y3.func /\ y3.func < 9] (.ag [([aa 0, aa 2, aa 1,
  aa 6, aa 5, aa 4, aa 3, aa 7, aa 8] : List V)[0 + y3.func.toNat * 1]? = some (aa o)] (.bind PUnit.unit fun _ => .ag [St.mk (ai 215 [(5, .ptr 0 0), (6, .ptr 1 0), (7, aa y2), (8, .ptr 2 0), (9, ab aN y4), (17, aa 0),
  (18, .ptr 3 0), (19, aa 0)]) [gz S, some ((aP y1), 29), some ((aH y3), 34), some ([.str y3.aG, aa o, ab ak y3.val], 34)] [] = St.mk q [gz S, some ((aP x), 29), some ((aH c), 34), some (q4, 34)] [], aV
  Tryz.prog 0 (blk Tryz.prog uY 0) (St.mk q [gz S, some ((aP x), 29), some ((aH c), 34), some (q4, 34)] []) (Ex.exit 0) (St.mk (ai 215 [(9, ab aN ids), (17, aa q5)]) [] [])] (.done (aj.mk (.bool (q5 == q5)) []
  []))))))))))))))))) : T _) := by kernel_rfl
theorem aa8 (t : Tb) (rows : List Rw) (l : List a6) (n : Nat) : bK t rows l = bK t (rows.take n) l ++ bK t (rows.drop n) l := by
 unfold bK
 rw [<- List.map_append, <- List.filter_append, List.take_append_drop]
theorem aa5 (t : Tb) (rows : List Rw) (l : List a6) (n : Nat) (hn : n < rows.length) (h : cE t (rows.getD n ⟨0, []⟩) l = true) :
  (bK t (rows.take n) l).length < (bK t rows l).length /\ (bK t rows l).getD (bK t (rows.take n) l).length 0 = (rows.getD n ⟨0, []⟩).id := by
 have e : bK t (rows.drop n) l = (rows.getD n ⟨0, []⟩).id :: bK t (rows.drop (n + 1)) l := by
  rw [gh ⟨0, []⟩ hn]
  unfold bK
  rw [List.filter_cons, if_pos h, List.map_cons]
 rw [aa8 t rows l n, e]
 constructor
 ·simp
 ·rw [List.getD_eq_getElem?_getD, List.getElem?_append_right (Nat.le_refl _), Nat.sub_self]
  rfl
theorem Z7 {x : aM} {t : Nat} {c : a6} (hx : gP x) (hn : x.next <= 1000000) (ht : t < 3) (hc : fh (bA t) c) :
  ao Tryz.prog s5 [.agg [ab aq aO], .agg (aP x), .int .i64 t, .sl 0 0 1 true] [sC c] ⟨.tup [ab aN (bK (bA t) (x.ar.getD t []) [c]), .int .i64 0], [none], [0]⟩ :=
 ao.u9 (hp := [sC c]) 5 rfl (Mx (l := [c]) hx hn ht (fun q hq => by rw [List.mem_singleton] at hq; rw [hq]; exact hc) (by simp))
theorem Z8 {x : aM} {t : Nat} {c : a6} (hx : gP x) (hn : x.next <= 1000000) (ht : t < 3) (hc : fh (bA t) c) :
  ao Tryz.prog yn [.agg [ab aq aO], .agg (aP x), .int .i64 t, .sl 0 0 1 true] [sC c] ⟨.tup [ab aN (bK (bA t) (x.ar.getD t []) [c]), .int .i64 0], [none], [0]⟩ :=
 ao.u9 (hp := [sC c]) 5 rfl (aa4 (l := [c]) hx hn ht (fun q hq => by rw [List.mem_singleton] at hq; rw [hq]; exact hc) (by simp))
theorem Z6 {x : aM} {t : Nat} (hx : gP x) (hn : x.next <= 1000000) (ht : t < 3) :
  ao Tryz.prog s5 [.agg [ab aq aO], .agg (aP x), .int .i64 t, .sl 0 0 0 true] [some ([], 34)] ⟨.tup [ab aN (bK (bA t) (x.ar.getD t []) []), .int .i64 0], [none], [0]⟩ :=
 ao.u9 (hp := [some ([], 34)]) 5 rfl (Mx (l := []) hx hn ht (fun q hq => by cases hq) (by simp))
theorem VA {t : Nat} {r : Rw} {c d : a6} (ht : t < 3) (hr : dh (bA t) r) (hi : 1 <= r.id /\ r.id < 1000000) (hc : fh (bA t) c) (hd : fh (bA t) d) :
  ao Tryz.prog yj [.agg (aq (bA t)), .agg (av r), .sl 0 0 2 true] [some (aH c ++ aH d, 34)] ⟨.tup [.bool (cE (bA t) r [c, d]), .int .i64 0], [none], [0]⟩ :=
 ao.u9 (hp := [some (aH c ++ aH d, 34)]) 5 rfl (VC (l := [c, d]) ht hr hi (fun q hq => by
  simp only [List.mem_cons, List.not_mem_nil, or_false] at hq
  rcases hq with rfl | rfl
  ·exact hc
  ·exact hd) (by simp))
theorem JS {x : aM} {t : Nat} {c : a6} (hx : gP x) (kn : x.next <= 1000) (ht : t < 3) (hc : fh (bA t) c) : ∀ (k i : Nat), i + k = (x.ar.getD t []).length ->
  a8 Tryz.prog 0 (lp Tryz.prog uY 0) (E7 aO x t c (bK (bA t) (x.ar.getD t []) [c]) (jw c.func) (bK (bA t) ((x.ar.getD t []).take i) [c]).length i) (.exit 0)
   ⟨ai 215 [(9, ab aN (bK (bA t) (x.ar.getD t []) [c])), (17, .int .i64 (bK (bA t) (x.ar.getD t []) [c]).length)], [], []⟩
 | 0, i, hi => by
  have h3 := hx.2.n
  have hi : i = (x.ar.getD t []).length := hi
  subst hi
  rw [List.take_length]
  have gT := bB.at x.ar [] t 1 af rfl
  refine bl (E := AV aO) follows named (JQ aO x (t : Nat) c (bK (bA t) (x.ar.getD t []) [c]) (jw c.func) ((bK (bA t) (x.ar.getD t []) [c]).length : Nat) ((x.ar.getD t []).length : Nat)) ?_
  simp only [az, T.WP, All, aB, aC, aA, bB.ae, Int.toNat_natCast]
  exact ⟨⟨aK, gT⟩, fun h => af, fun _ => ⟨rfl, rfl⟩⟩
 | k + 1, i, hi => by
  have h3 := hx.2.n
  have hR := hx.2.r t ht
  have vE := hR.n
  have bH : i < (x.ar.getD t []).length := af
  have gT := bB.at x.ar [] t 1 af rfl
  have dC := bJ.at aO ⟨[], [], [], false⟩ t 4 (by show t < 3; omega) rfl
  have aL := bN.at (x.ar.getD t []) ⟨0, []⟩ i 2 bH rfl
  have ey := bP (⟨0, []⟩ : Rw) bH
  have qS := hR.i _ ey
  have Ja := hR.c _ ey
  have hm := VK ht Ja af hc
  have ha := VA ht Ja af hc (Ya hc)
  have ih := JS hx kn ht hc k (i + 1) af
  have cC := wm (bA t) ((x.ar.getD t []).take i) [c]
  rw [List.length_take] at cC
  have w1 : IntKind.i64.wrap ((i : Int) + 1) = ((i + 1 : Nat) : Int) := bE af
  have w2 : IntKind.i64.wrap (((bK (bA t) ((x.ar.getD t []).take i) [c]).length : Int) + 1) = (((bK (bA t) ((x.ar.getD t []).take i) [c]).length + 1 : Nat) : Int) := bE af
  have km := @Ou (bA t) ((x.ar.getD t []).getD i ⟨0, []⟩) c hc
  have e1 : cE (bA t) ((x.ar.getD t []).getD i ⟨0, []⟩) [c] = cN (bA t) ((x.ar.getD t []).getD i ⟨0, []⟩) c := by
   unfold cE; rw [List.all_cons, List.all_nil, Bool.and_true]
  have e2 : cE (bA t) ((x.ar.getD t []).getD i ⟨0, []⟩) [c, nN c] = (cN (bA t) ((x.ar.getD t []).getD i ⟨0, []⟩) c && cN (bA t) ((x.ar.getD t []).getD i ⟨0, []⟩) (nN c)) := by
   unfold cE; rw [List.all_cons, List.all_cons, List.all_nil, Bool.and_true]
  have Dm := aa5 (bA t) (x.ar.getD t []) [c] i bH
  rw [EJ (bA t) (x.ar.getD t []) [c] i bH] at ih
  rw [e1] at ih Dm
  refine bl (E := AV aO) follows named (JQ aO x (t : Nat) c (bK (bA t) (x.ar.getD t []) [c]) (jw c.func) ((bK (bA t) ((x.ar.getD t []).take i) [c]).length : Nat) (i : Nat)) ?_
  simp only [az, T.WP, All, aB, aC, aA, w1, w2, bB.ae, bJ.ae, bN.ae, bV.ae, bq.ae, ej.ae, cm, Int.toNat_natCast]
  refine ⟨⟨aK, gT⟩, fun _ => ⟨⟨⟨af, by show (t : Int) < 3; omega⟩, dC⟩, ⟨aK, gT⟩, ⟨aK, aL⟩, ?_⟩, fun h => af⟩
  rintro y0 f0
  have f0 : y0 = cN (bA t) ((x.ar.getD t []).getD i ⟨0, []⟩) c := f0
  rw [<- f0] at hm ih Dm e2 km
  refine ⟨hm, ⟨⟨af, by show (t : Int) < 3; omega⟩, dC⟩, ⟨aK, gT⟩, ⟨aK, aL⟩, ?_⟩
  rintro y1 f1
  have f1 : y1 = cE (bA t) ((x.ar.getD t []).getD i ⟨0, []⟩) [c, nN c] := f1
  rw [<- f1] at ha e2
  refine ⟨ha, fun h1 => ⟨fun h7 => ?_, fun h7 => ?_⟩, fun h1 => ?_⟩
  ·exfalso
   have := km h7
   rw [<- e2, h1] at this
   cases this
  all_goals
   refine ⟨fun h0 => ?_, fun h0 => ?_⟩
   ·obtain ⟨g1, g2⟩ := Dm h0
    have oW := ej.at (bK (bA t) (x.ar.getD t []) [c]) 0 (bK (bA t) ((x.ar.getD t []).take i) [c]).length 1 g1 rfl
    rw [h0, cond_true, List.length_append, List.length_singleton] at ih
    refine ⟨fun h => af, fun _ => ⟨⟨⟨af, af⟩, oW⟩, ⟨aK, gT⟩, ⟨aK, aL⟩, fun h => ?_, fun _ => ih⟩⟩
    exfalso
    rw [g2] at h
    simp at h
   ·rw [h0, cond_false, List.append_nil] at ih
    exact ih
theorem Z9 (t : Tb) (rows : List Rw) : (bK t rows []).length = rows.length := by
 unfold bK cE
 simp
theorem Ut {n : Int} (h : 1 <= n /\ n <= 8) : ([V.int .i64 0, .int .i64 2, .int .i64 1, .int .i64 6, .int .i64 5, .int .i64 4, .int .i64 3, .int .i64 7, .int .i64 8] : List V)[0 + n.toNat * 1]? = some (.int .i64 (jw n)) := by
 rcases Cy h with rfl | rfl | rfl | rfl | rfl | rfl | rfl | rfl <;> rfl
theorem Ul (l m : List UInt8) : ao Tryz.prog uY [ab aR l, ab aR m] [] ⟨.bool true, [], []⟩ := by
 by_cases hl : l.length <= 1048576
 ·by_cases hm : m.length <= 1048576
  ·have aL := Oi m 0 (by omega) 3 (by omega)
   have hb := Oc m 0 (show (1 : Int) <= 3 by omega)
   obtain ⟨t, ht⟩ : ∃ t : Nat, lu m 0 3 = t := ⟨(lu m 0 3).toNat, by omega⟩
   have qW : t < 3 := by omega
   have hs := ae2 l hl
   have hd := OI m hm qW
   rw [ht] at aL
   obtain ⟨x, hx⟩ : ∃ x, rK l = x := ⟨_, rfl⟩
   obtain ⟨c, hc⟩ : ∃ c, (fS (gL m) t).1 = c := ⟨_, rfl⟩
   rw [hx] at hs
   rw [hc] at hd
   obtain ⟨lK, hF, kn⟩ := hs
   obtain ⟨RG, hX⟩ := hd
   have h3 := hF.2.n
   have hR := hF.2.r t qW
   have vE := hR.n
   have Da : x.next <= 1000000 := by omega
   have hf := hX.i.f
   have gT := bB.at x.ar [] t 1 (by omega) rfl
   have dC := bJ.at aO ⟨[], [], [], false⟩ t 4 (by show t < 3; omega) rfl
   have hw := ai9 hf
   have vN := Z7 hF Da qW hX
   have S1 := Z8 hF Da qW hX
   have Jd := Z6 hF Da qW
   have IU := Z9 (bA t) (x.ar.getD t [])
   have gY := JS hF (by omega) qW hX (x.ar.getD t []).length 0 (by omega)
   have hle := wm (bA t) (x.ar.getD t []) [c]
   refine bh (E := xC aO x t c (bK (bA t) (x.ar.getD t []) [c]) (jw c.func)) follows named (DJ l m aO x (t : Nat) c (bK (bA t) (x.ar.getD t []) [c]) (jw c.func)) (by simp) ?_
   simp only [az, T.WP, All, aB, aC, aA, lP.ae]
   refine ⟨fun h => by omega, fun _ => ⟨fun h => by omega, fun _ => ?_⟩⟩
   rintro _ -
   refine ⟨rl, ?_⟩
   rintro y1 e
   have e : y1 = x := e.trans hx
   subst e
   refine ⟨lK, ?_⟩
   rintro y2 e
   have e : y2 = (t : Int) := e.trans ht
   subst e
   refine ⟨aL, ?_⟩
   rintro y3 e
   have e : y3 = c := e.trans hc
   subst e
   simp only [bB.ae, bJ.ae, bq.ae, Int.toNat_natCast]
   refine ⟨RG, ?_⟩
   rintro y4 rfl
   refine ⟨vN, ?_⟩
   rintro y5 rfl
   refine ⟨S1, ?_⟩
   rintro y6 e
   have e : y6 = bK (bA t) (y1.ar.getD t []) [] := e
   rw [<- e] at Jd IU
   refine ⟨Jd, ⟨⟨by omega, by show (t : Int) < 3; omega⟩, dC⟩, ?_⟩
   rintro _ -
   refine ⟨Pc qW hX, ?_⟩
   rintro _ -
   refine ⟨ZI _ (Nat.le_trans hle (by omega)), ⟨⟨by omega, by omega⟩, gT⟩, fun h => ?_, fun _ => ?_⟩
   ·rw [IU] at h; simp at h
   rintro y9 e
   have e : y9 = xj y3.func := e
   subst e
   refine ⟨hw.1, ?_⟩
   rintro cx e
   have e : cx = y3.func := e
   subst e
   refine ⟨hw.2, fun h => by simp at h, fun _ => ⟨⟨by omega, by omega⟩, Ut hf, ?_⟩⟩
   rintro _ -
   rw [show bK (bA t) ((y1.ar.getD t []).take 0) [y3] = [] from rfl] at gY
   refine ⟨⟨rfl, .bg gY⟩, ?_⟩
   refine ⟨congrArg V.bool ?_, rfl, by simp⟩
   rw [beq_iff_eq]
  ·refine bh (E := xC aO ⟨[], 0⟩ 0 ⟨[], 0, []⟩ [] 0) follows named (DJ l m aO ⟨[], 0⟩ 0 ⟨[], 0, []⟩ [] 0) (by simp) ?_
   simp only [az, T.WP, All, aB, aC, aA]
   exact ⟨fun _ => ⟨rfl, rfl, by simp⟩, fun _ => ⟨fun _ => ⟨rfl, rfl, by simp⟩, fun h => by omega⟩⟩
 ·refine bh (E := xC aO ⟨[], 0⟩ 0 ⟨[], 0, []⟩ [] 0) follows named (DJ l m aO ⟨[], 0⟩ 0 ⟨[], 0, []⟩ [] 0) (by simp) ?_
  simp only [az, T.WP, All, aB, aC, aA]
  exact ⟨fun _ => ⟨rfl, rfl, by simp⟩, fun h => by omega⟩
end Go.Proofs.YtlomaojlpodibaaGreat
namespace Go.Proofs.YtlomaojlpodibaaGreat
open Go.RowKit Go.WideShapes Go.ChangeShapes
set_option maxRecDepth 100000
def Old (w : World) : Nat -> Prop := fun k => k < w.heap.size
theorem Qm {I : Nat -> Prop} {w w' : World} {X : Nat -> Prop} (h : cy I w w' X) (hX : ∀ k, ¬ X k) : w.grownBy w' none := ⟨h.os, h.tape, h.output, h.size, fun k hk _ => h.block k hk (hX k)⟩
def Gk (P : Program) (w : World) : Prop := (∀ x ∈ ar, ∀ g, P.globalNamed x.1 = some g -> Lib.TabIs P w x.1 x.2.1 x.2.2) /\ ∀ x ∈ BT, ∀ g, P.globalNamed x = some g -> ∃ ev, w.cell? ⟨g, 0, none⟩ = some ev /\ (ev = .nilIface \/ ∃ te pe, ev = .iface te pe)
theorem ag2 {P : Program} {w : World} {name : String} {k : IntKind} {zs : List Int} {g : Nat} (h : Lib.TabIs P w name k zs) (hg : P.globalNamed name = some g) : g < w.heap.size := by
 unfold Lib.TabIs World.var? at h
 rw [hg] at h
 simp only [Option.bind_some] at h
 rcases Nat.lt_or_ge g w.heap.size with h1 | h1
 ·exact h1
 ·rw [Array.getElem?_eq_none h1] at h; simp at h
theorem OO {w : World} {g : Nat} {ev : Value} (h : w.cell? ⟨g, 0, none⟩ = some ev) : g < w.heap.size := by
 unfold World.cell? at h
 rcases Nat.lt_or_ge g w.heap.size with h1 | h1
 ·exact h1
 ·rw [Array.getElem?_eq_none h1] at h; simp at h
theorem ao.said {P : Program} {f : FuncId} {vs : List V} {ch : Array Value} {w : World} (h : ao P f vs [] ⟨.bool true, [], []⟩) (hT : Gk P w) (hv : V.RL P (Old w) bY w vs ch.toList) :
  Calls P f ch w fun e w' => e = .returned (.bool true) /\ w.grownBy w' none := by
 refine (h.2 (Old w) w bY ch hv ⟨⟨fun k hk => hk, fun x hx g hg => ⟨ag2 (hT.1 x hx g hg) hg, hT.1 x hx g hg⟩, fun x hx g hg => by
  obtain ⟨ev, h1, h2⟩ := hT.2 x hx g hg
  exact ⟨OO h1, ev, h1, h2⟩⟩, by simp, by simp, fun _ _ _ => rfl⟩ (fun b g hb => by cases hb)).mono ?_
 rintro e w' ⟨val, μ', I', rfl, hR, hG⟩
 simp only [V.R] at hR
 subst hR
 exact ⟨rfl, Qm hG.cr fun k hk => by obtain ⟨b, hb, _⟩ := hk; simp at hb⟩
theorem ZC {w : World} {a : Addr} {f : Nat -> Value} {n : Nat} (hs : a.spot = none) (hn : 0 < n) (hc : ∀ i, i < n -> w.cell? (a.add i) = some (f i)) :
  ∃ cells e fr, w.heap[a.block]? = some (.cells cells e fr) /\ ∀ i, i < n -> cells[a.off + i]? = some (f i) := by
 have h0 := hc 0 hn
 have hb : ∀ i, (a.add i) = ⟨a.block, a.off + i, none⟩ := by
  intro i
  unfold Addr.add
  split
  ·rename_i h; subst h; obtain ⟨b, o, s⟩ := a; simp only at hs; subst hs; rfl
  ·rfl
 rw [hb 0] at h0
 unfold World.cell? at h0
 split at h0
 ·rename_i cells e fr hh
  refine ⟨cells, e, fr, hh, fun i hi => ?_⟩
  have h1 := hc i hi
  rw [hb i] at h1
  unfold World.cell? at h1
  rw [hh] at h1
  simpa using h1
 ·cases h0
theorem Ge {P : Program} {I : Nat -> Prop} {μ : Mu} {w : World} : ∀ l : List UInt8, V.RL P I μ w (ah aR l) (l.map fun b => Value.int .u8 (b.toNat : Nat))
 | [] => by simp [ah, V.RL]
 | b :: l => by
  have : ah aR (b :: l) = .int .u8 (b.toNat : Nat) :: ah aR l := rfl
  rw [this, List.map_cons]
  simp only [V.RL, V.R]
  exact ⟨_, _, rfl, rfl, Ge l⟩
theorem Gw {H : Type} {enc : TypeId × Value -> H} {w : World} {base On : Nat} {spare : Nat -> Bool} {held : Bool} {v : Value} {d : DataW H} {p : List MemPlace}
  (eP : Value.okWide Tryz.prog w .any On 22 v) (h : DataW.Trod enc Tryz.prog w base spare held 22 v d p) :
  ∃ l : List UInt8, V.R Tryz.prog (Old w) bY w (ab aR l) v := by
 obtain ⟨a0, l0, c0, rfl⟩ := okWide_slice Tryz.underlying22 eP
 have c9 : Tryz.prog.cellsOf 5 = 1 := by kernel_rfl
 obtain ⟨fuel, hf⟩ := h
 rcases open_ints Tryz.underlying22 Tryz.underlying5 c9 hf with ⟨fL, _⟩ | ⟨ad, len, cap, zs, fL, _, hl, hm, hlen, _, lD, zg⟩
 ·simp [Value.cells] at fL
  obtain ⟨rfl, rfl, rfl⟩ := fL
  refine ⟨[], ?_⟩
  simp only [V.R]
  exact ⟨none, 0, rfl, Nat.le_refl _, fun h => (nomatch h), .inl ⟨rfl, rfl⟩, .inl rfl⟩
 ·simp [Value.cells] at fL
  obtain ⟨rfl, rfl, rfl⟩ := fL
  have kS : ad.spot = none := by
   unfold Value.okWide at eP
   rw [Tryz.underlying22] at eP
   simp only [Cell.okWide, Tryz.underlying22, Cell.ok] at eP
   exact eP.2.2.2.1
  have hle : l0 <= zs.length := by rw [hlen]; split <;> omega
  let l : List UInt8 := (zs.take l0).map fun z => UInt8.ofNat z.toNat
  have cC : l.length = l0 := by simp only [l, List.length_map, List.length_take]; omega
  refine ⟨l, ?_⟩
  obtain ⟨g, off, s⟩ := ad
  simp only at kS; subst kS
  simp only [V.R]
  refine ⟨_, c0, by rw [cC], af, fun h => (nomatch h), .inr ⟨g, off, rfl⟩, ?_⟩
  by_cases h0 : l0 = 0
  ·left
   have : l = [] := List.eq_nil_of_length_eq_zero af
   rw [this]; rfl
  ·obtain ⟨cells, e, fr, hh, aL⟩ := ZC (a := ⟨g, off, none⟩) (n := l0) rfl af (fun i hi => lD i af)
   refine .inr <| .inr ⟨g, off, rfl, (Array.getElem?_eq_some_iff.1 hh).1, cells, e, fr, hh, ?_⟩
   have vP : ((cells.toList.drop off).take (ah aR l).length) = l.map fun b => Value.int .u8 (b.toNat : Nat) := by
    rw [show (ah aR l).length = l0 by rw [lP.length, Nat.mul_one, cC]]
    apply List.ext_getElem?
    intro i
    rw [List.getElem?_take]
    split
    ·rename_i hi
     rw [List.getElem?_drop, Array.getElem?_toList, aL i hi]
     have h1 : zs.getD i 0 ∈ zs := by
      rw [List.getD_eq_getElem?_getD, List.getElem?_eq_getElem af]; exact List.getElem_mem _
     have h2 := zg _ h1
     have h3 : 0 <= zs.getD i 0 /\ zs.getD i 0 <= 255 := by
      have : IntKind.u8.min = 0 /\ IntKind.u8.max = 255 := by decide
      rw [Lit.wf, this.1, this.2, Bool.and_eq_true, decide_eq_true_eq, decide_eq_true_eq] at h2
      exact h2
     have h4 : (l.map fun b => Value.int .u8 (b.toNat : Nat))[i]? = some (.int .u8 (((UInt8.ofNat (zs.getD i 0).toNat).toNat : Nat) : Int)) := by
      simp only [l, List.getElem?_map]
      rw [List.getElem?_take, if_pos hi, List.getD_eq_getElem?_getD, List.getElem?_eq_getElem af]
      rfl
     rw [h4, UInt8.toNat_ofNat']
     congr 2
     omega
    ·rename_i hi
     rw [List.getElem?_eq_none (by simp only [List.length_map]; omega)]
   rw [vP]
   exact Ge l
end Go.Proofs.YtlomaojlpodibaaGreat
namespace Go.Proofs.YtlomaojlpodibaaGreat
open Go.RowKit
set_option maxRecDepth 100000
theorem ag3 (w : World) : Gk Tryz.prog w := by
 refine ⟨fun x hx g hg => ?_, fun x hx g hg => ?_⟩
 ·simp only [ar, List.mem_singleton] at hx
  subst hx
  have : Tryz.prog.globalNamed "internal/strconv.uint64pow10" = none := by kernel_rfl
  rw [this] at hg
  cases hg
 ·simp only [BT, List.mem_cons, List.not_mem_nil, or_false] at hx
  rcases hx with rfl | rfl
  ·have : Tryz.prog.globalNamed "strconv.ErrSyntax" = none := by kernel_rfl
   rw [this] at hg
   cases hg
  ·have : Tryz.prog.globalNamed "strconv.ErrRange" = none := by kernel_rfl
   rw [this] at hg
   cases hg
end Go.Proofs.YtlomaojlpodibaaGreat

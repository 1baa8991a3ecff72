/-
  Values that are drawn.
  Values that are drawn: the whole.
  The text of a value: digits and quoted texts.
  The text of a value.
  Drawn values can be printed, and are short.
  A slice of one's own is given away to a function that only reads it.
  Drawn values are right: how deep they are, how many values they have; the program's JsonOK in plain Lean.
  The program's isPlain, areKeys, partOK.
-/
import Derived.Test.YtfncaghjfgnnhaaGreatDoorPyAd
namespace Go.Proofs.YtfncaghjfgnnhaaGreatDoor
open Go.RowKit
set_option maxRecDepth 100000
abbrev fJson : Nat := 33
def drawList (f : Src → J × Src) : Nat → Src → List J → List J × Src
 | 0, x, acc => (acc, x)
 | i + 1, x, acc => drawList f i (f x).2 (acc ++ [(f x).1])
def drawObj (f : Src → J × Src) : List (List UInt8) → Src → List (List UInt8) → List J → List (List UInt8) × List J × Src
 | [], x, ks, js => (ks, js, x)
 | k :: t, x, ks, js => if (chanceF x 2).1 then drawObj f t (f (chanceF x 2).2).2 (ks ++ [k]) (js ++ [(f (chanceF x 2).2).1]) else drawObj f t (chanceF x 2).2 ks js
def objKeys : List (List UInt8) := [[97], [98], [107], [122, 122]]
def jsonK (f : Src → J × Src) (k : Int) (x : Src) : J × Src :=
 if k = 0 then (.zero, x)
 else if k = 1 then (.mk 1 (nextF x 2).1 [] [] [], (nextF x 2).2)
 else if k = 2 then (.mk 2 ([(nextF x 20).1 - 9, 1000000000].getD ((nextF (nextF x 20).2 6).1.tdiv 5).toNat 0) [] [] [], (nextF (nextF x 20).2 6).2)
 else if k = 3 then (.mk 3 0 (pickF x jsTexts).1 [] [], (pickF x jsTexts).2)
 else if k = 4 then (.mk 4 0 [] [] (drawList f (nextF x 4).1.toNat (nextF x 4).2 []).1, (drawList f (nextF x 4).1.toNat (nextF x 4).2 []).2)
 else (.mk 5 0 [] (drawObj f objKeys x [] []).1 (drawObj f objKeys x [] []).2.1, (drawObj f objKeys x [] []).2.2)
def jsonF : Nat → Src → J × Src
 | 0, x => jsonK (fun y => (.zero, y)) (nextF (nextF x 6).2 4).1 (nextF (nextF x 6).2 4).2
 | d + 1, x => jsonK (jsonF d) (nextF x 6).1 (nextF x 6).2
def zJ : Option Blk := some ([.int .i64 0, .int .i64 0, .str [], .dsl 0 true [], .dsl 0 true []], tJ)
def stL0 (x : Src) (d i : Int) : St := ⟨mkTm 87 [(0, .ptr 0 0), (1, .int .i64 d), (4, .ptr 1 0), (6, .ptr 2 0), (7, .int .i64 i)], [srcB x, zJ, some ([.int .i64 4, .int .i64 0, .str [], .dsl 0 true [], .dsl 0 true []], tJ)], [0]⟩
def stL1 (x : Src) (d i : Int) (L : List J) : St := ⟨mkTm 87 [(0, .ptr 0 0), (1, .int .i64 d), (4, .ptr 1 0), (6, .ptr 2 0), (7, .int .i64 i)], [srcB x, zJ, some ([.int .i64 4, .int .i64 0, .str [], .dsl 0 true [], .sl 3 0 L.length false], tJ), some ([.sld (encs encJ L)], tJ)], [0]⟩
noncomputable def resJson (f : Src → J × Src) : ResT := fun g vs hp => match vs, hp with
 | [.ptr 0 0, .int _ _], [some ([.dsl _ _ cs, .int _ k, .int _ s], _)] => bif Nat.beq g fJson then some ⟨f (srcOf cs k s), fun y => ⟨.agg (vwJ y.1), [srcB y.2], [0]⟩⟩ else none
 | _, _ => none
noncomputable def EJ (f : Src → J × Src) : Env := { P := Tryz.prog, vw := vwA, res := (resNext.or resPick).or (resJson f) }
def nfL : Ex → Kp := fun _ => { keep := [0, 1, 4, 6, 7] }
set_option maxRecDepth 100000 in
theorem list0T (f : Src → J × Src) (x : Src) (d i : Int) : bodyT (EJ f) 1 nfL (lp Tryz.prog fJson 1) (stL0 x d i) = (
 bif decide (i > 0) then .bind (f (srcOf (encs encByte (Src.l x)) (↑(Src.k x) : Int) (Src.s x))) fun y0 => .need [FnOK Tryz.prog 33 [.ptr 0 0, .int .i64 (IntKind.wrap IntKind.i64 (d - 1))] [some ([.dsl (List.length (Src.l x)) false (encs
 encByte (Src.l x)), .int .i64 (↑(Src.k x) : Int), .int .i64 (Src.s x)], 67)] (Ret.mk (.agg [.int .i64 (J.kind y0.1), .int .i64 (J.n y0.1), .str (J.t y0.1), .dsl (List.length (J.keys y0.1)) false (encs encStr (J.keys y0.1)), .dsl
 (List.length (J.items y0.1)) false (encs encJ (J.items y0.1))]) [some ([.dsl (List.length (Src.l y0.2)) false (encs encByte (Src.l y0.2)), .int .i64 (↑(Src.k y0.2) : Int), .int .i64 (Src.s y0.2)], 67)] [0])] (.need [true = true, 0 = 0, 1 ≤
 9223372036854775807, 80 ≤ 140737488355328] (.done (Ex.normal, St.mk (mkTm 87 [(0, .ptr 0 0), (1, .int .i64 d), (4, .ptr 1 0), (6, .ptr 2 0), (7, .int .i64 (IntKind.wrap IntKind.i64 (i - 1)))]) [some ([.dsl (List.length (Src.l y0.2)) false
 (encs encByte (Src.l y0.2)), .int .i64 (↑(Src.k y0.2) : Int), .int .i64 (Src.s y0.2)], 67), some ([.int .i64 0, .int .i64 0, .str [], .dsl 0 true [], .dsl 0 true []], 25), some ([.int .i64 4, .int .i64 0, .str [], .dsl 0 true [], .sl 3 0 1
 false], 25), some ([.sld [.int .i64 (J.kind y0.1), .int .i64 (J.n y0.1), .str (J.t y0.1), .dsl (List.length (J.keys y0.1)) false (encs encStr (J.keys y0.1)), .dsl (List.length (J.items y0.1)) false (encs encJ (J.items y0.1))]], 25)] [0])))
 else .done (Ex.exit 1, St.mk (mkTm 87 [(0, .ptr 0 0), (1, .int .i64 d), (4, .ptr 1 0), (6, .ptr 2 0), (7, .int .i64 i)]) [some ([.dsl (List.length (Src.l x)) false (encs encByte (Src.l x)), .int .i64 (↑(Src.k x) : Int), .int .i64 (Src.s
 x)], 67), some ([.int .i64 0, .int .i64 0, .str [], .dsl 0 true [], .dsl 0 true []], 25), some ([.int .i64 4, .int .i64 0, .str [], .dsl 0 true [], .dsl 0 true []], 25)] [0]) : T _) := by kernel_rfl
set_option maxRecDepth 100000 in
theorem list1T (f : Src → J × Src) (x : Src) (d i : Int) (L : List J) : bodyT (EJ f) 1 nfL (lp Tryz.prog fJson 1) (stL1 x d i L) = (
 bif decide (i > 0) then .bind (f (srcOf (encs encByte (Src.l x)) (↑(Src.k x) : Int) (Src.s x))) fun y0 => .need [FnOK Tryz.prog 33 [.ptr 0 0, .int .i64 (IntKind.wrap IntKind.i64 (d - 1))] [some ([.dsl (List.length (Src.l x)) false (encs
 encByte (Src.l x)), .int .i64 (↑(Src.k x) : Int), .int .i64 (Src.s x)], 67)] (Ret.mk (.agg [.int .i64 (J.kind y0.1), .int .i64 (J.n y0.1), .str (J.t y0.1), .dsl (List.length (J.keys y0.1)) false (encs encStr (J.keys y0.1)), .dsl
 (List.length (J.items y0.1)) false (encs encJ (J.items y0.1))]) [some ([.dsl (List.length (Src.l y0.2)) false (encs encByte (Src.l y0.2)), .int .i64 (↑(Src.k y0.2) : Int), .int .i64 (Src.s y0.2)], 67)] [0])] (.need [0 = 0, List.length (encs
 encJ L) = L.length * 5, L.length + 1 ≤ 9223372036854775807, (L.length + 1) * 80 ≤ 140737488355328] (.done (Ex.normal, St.mk (mkTm 87 [(0, .ptr 0 0), (1, .int .i64 d), (4, .ptr 1 0), (6, .ptr 2 0), (7, .int .i64 (IntKind.wrap IntKind.i64 (i
 - 1)))]) [some ([.dsl (List.length (Src.l y0.2)) false (encs encByte (Src.l y0.2)), .int .i64 (↑(Src.k y0.2) : Int), .int .i64 (Src.s y0.2)], 67), some ([.int .i64 0, .int .i64 0, .str [], .dsl 0 true [], .dsl 0 true []], 25), some ([.int
 .i64 4, .int .i64 0, .str [], .dsl 0 true [], .sl 3 0 (L.length + 1) false], 25), some ([.sld (encs encJ L ++ [.int .i64 (J.kind y0.1), .int .i64 (J.n y0.1), .str (J.t y0.1), .dsl (List.length (J.keys y0.1)) false (encs encStr (J.keys
 y0.1)), .dsl (List.length (J.items y0.1)) false (encs encJ (J.items y0.1))])], 25)] [0]))) else .done (Ex.exit 1, St.mk (mkTm 87 [(0, .ptr 0 0), (1, .int .i64 d), (4, .ptr 1 0), (6, .ptr 2 0), (7, .int .i64 i)]) [some ([.dsl (List.length
 (Src.l x)) false (encs encByte (Src.l x)), .int .i64 (↑(Src.k x) : Int), .int .i64 (Src.s x)], 67), some ([.int .i64 0, .int .i64 0, .str [], .dsl 0 true [], .dsl 0 true []], 25), some ([.int .i64 4, .int .i64 0, .str [], .dsl 0 true [],
 .sl 3 0 L.length false], 25), some ([.sld (encs encJ L)], 25)] [0]) : T _) := by kernel_rfl
structure Draw (f : Src → J × Src) (d : Int) (q : Nat) : Prop where
 call : ∀ x c, x.OK (c + q) → FnOK Tryz.prog fJson [.ptr 0 0, .int .i64 d] [srcB x] ⟨.agg (vwJ (f x).1), [srcB (f x).2], [0]⟩
 cost : ∀ x c, x.OK (c + q) → (f x).2.OK c
theorem flatC_snoc (L : List J) (j : J) : flatC (.sld (encs encJ L) :: vwJ j) = encs encJ (L ++ [j]) := by
 rw [encs_snoc, encJ_vw]
 simp only [flatC, vwJ, V.can, sls]
theorem stL1_snoc (x : Src) (d i : Int) (L : List J) (j : J) : stL1 x d i (L ++ [j]) = ⟨mkTm 87 [(0, .ptr 0 0), (1, .int .i64 d), (4, .ptr 1 0), (6, .ptr 2 0), (7, .int .i64 i)], [srcB x, zJ, some ([.int .i64 4, .int .i64 0, .str [], .dsl 0 true [], .sl 3 0 (L.length + 1) false], tJ), some ([.sld (flatC (.sld (encs encJ L) :: vwJ j))], tJ)], [0]⟩ := by
 rw [flatC_snoc]; simp [stL1]
theorem list1_loop {f : Src → J × Src} {d : Nat} {q : Nat} (hf : Draw f d q) (hd : d ≤ 1000) : ∀ (i : Nat) (x : Src) (L : List J) (c : Nat), x.OK (c + i * q) → L.length + i ≤ 1000 →
  LoopTo Tryz.prog 1 (lp Tryz.prog fJson 1) (stL1 x ((d + 1 : Nat) : Int) i L) (.exit 1) (stL1 (drawList f i x L).2 ((d + 1 : Nat) : Int) 0 (drawList f i x L).1)
 | 0, x, L, c, h, hL => by
  refine loopT (E := EJ f) follows named (list1T f x _ _ L) ?_
  simp only [WP_cond, T.WP, All, decide_eq_true_eq, decide_eq_false_iff_not, and_true, srcOf_mk]
  exact ⟨fun h => by omega, fun _ => ⟨rfl, rfl⟩⟩
 | i + 1, x, L, c, h, hL => by
  refine loopT (E := EJ f) follows named (list1T f x _ _ L) ?_
  simp only [WP_cond, T.WP, All, decide_eq_true_eq, decide_eq_false_iff_not, and_true, srcOf_mk]
  refine ⟨fun _ y e => ?_, fun h => by omega⟩
  subst e
  have hc : x.OK ((c + i * q) + q) := by rw [Nat.add_mul, Nat.one_mul, ← Nat.add_assoc] at h; exact h
  rw [wrap_id (by omega), show ((d + 1 : Nat) : Int) - 1 = d by omega]
  refine ⟨hf.call x _ hc, ⟨trivial, layJ.length _, by omega, by omega⟩, ?_⟩
  rw [wrap_id (by omega), show ((i + 1 : Nat) : Int) - 1 = i by omega]
  have ih := list1_loop hf hd i (f x).2 (L ++ [(f x).1]) c (hf.cost x _ hc) (by simp; omega)
  rw [stL1_snoc] at ih
  exact ih
theorem list0_loop {f : Src → J × Src} {d : Nat} {q : Nat} (hf : Draw f d q) (hd : d ≤ 1000) (i : Nat) (x : Src) (c : Nat) (h : x.OK (c + (i + 1) * q)) (hi : i ≤ 900) :
  LoopTo Tryz.prog 1 (lp Tryz.prog fJson 1) (stL0 x ((d + 1 : Nat) : Int) ((i + 1 : Nat) : Int)) (.exit 1) (stL1 (drawList f (i + 1) x []).2 ((d + 1 : Nat) : Int) 0 (drawList f (i + 1) x []).1) := by
 refine loopT (E := EJ f) follows named (list0T f x _ _) ?_
 simp only [WP_cond, T.WP, All, decide_eq_true_eq, decide_eq_false_iff_not, and_true, srcOf_mk]
 refine ⟨fun _ y e => ?_, fun h => by omega⟩
 subst e
 have hc : x.OK ((c + i * q) + q) := by rw [Nat.add_mul, Nat.one_mul, ← Nat.add_assoc] at h; exact h
 rw [wrap_id (by omega), show ((d + 1 : Nat) : Int) - 1 = d by omega]
 refine ⟨hf.call x _ hc, by simp, ?_⟩
 rw [wrap_id (by omega), show ((i + 1 : Nat) : Int) - 1 = i by omega]
 have ih := list1_loop hf hd i (f x).2 ([] ++ [(f x).1]) c (hf.cost x _ hc) (by simp; omega)
 rw [stL1_snoc] at ih
 exact ih
theorem list0_end {f : Src → J × Src} (x : Src) (d : Int) : LoopTo Tryz.prog 1 (lp Tryz.prog fJson 1) (stL0 x d 0) (.exit 1) (stL0 x d 0) := by
 refine loopT (E := EJ f) follows named (list0T f x _ _) ?_
 simp only [WP_cond, T.WP, All, decide_eq_true_eq, decide_eq_false_iff_not, and_true, srcOf_mk]
 exact ⟨fun h => by omega, fun _ => ⟨rfl, rfl⟩⟩
def stO0 (x : Src) (d i : Int) : St := ⟨mkTm 87 [(0, .ptr 0 0), (1, .int .i64 d), (4, .ptr 1 0), (8, .ptr 2 0), (9, .int .i64 i)], [srcB x, zJ, some ([.int .i64 5, .int .i64 0, .str [], .dsl 0 true [], .dsl 0 true []], tJ)], [0]⟩
def stO1 (x : Src) (d i : Int) (ks : List (List UInt8)) (L : List J) : St := ⟨mkTm 87 [(0, .ptr 0 0), (1, .int .i64 d), (4, .ptr 1 0), (8, .ptr 2 0), (9, .int .i64 i)], [srcB x, zJ, some ([.int .i64 5, .int .i64 0, .str [], .sl 3 0 ks.length false, .sl 4 0 L.length false], tJ), strB ks, some ([.sld (encs encJ L)], tJ)], [0]⟩
def nfO : Ex → Kp := fun _ => { keep := [0, 1, 4, 8, 9] }
noncomputable def EO (f : Src → J × Src) (k : List UInt8) : Env := { EJ f with vs := [(25, 5, .str k)] }
set_option maxRecDepth 100000 in
theorem obj0T (f : Src → J × Src) (k : List UInt8) (x : Src) (d i : Int) : bodyT (EO f k) 1 nfO (lp Tryz.prog fJson 3) (stO0 x d i) = (
 bif decide (i < 4) then .bind (chanceF (srcOf (encs encByte (Src.l x)) (↑(Src.k x) : Int) (Src.s x)) (2 : Int)) fun y0 => .need [FnOK Tryz.prog 52 [.ptr 0 0, .int .i64 2] [some ([.dsl (List.length (Src.l x)) false (encs encByte (Src.l x)),
 .int .i64 (↑(Src.k x) : Int), .int .i64 (Src.s x)], 67)] (Ret.mk (.bool y0.1) [some ([.dsl (List.length (Src.l y0.2)) false (encs encByte (Src.l y0.2)), .int .i64 (↑(Src.k y0.2) : Int), .int .i64 (Src.s y0.2)], 67)] [0])] (bif y0.1 then
 .need [0 ≤ i ∧ i < 4] (.need [([.str [97], .str [98], .str [107], .str [122, 122]] : List V)[0 + Int.toNat i * 1]? = some (.str k)] (.need [true = true, 0 = 0, 1 ≤ 9223372036854775807, 16 ≤ 140737488355328] (.bind (f (srcOf (encs encByte
 (Src.l y0.2)) (↑(Src.k y0.2) : Int) (Src.s y0.2))) fun y1 => .need [FnOK Tryz.prog 33 [.ptr 0 0, .int .i64 (IntKind.wrap IntKind.i64 (d - 1))] [some ([.dsl (List.length (Src.l y0.2)) false (encs encByte (Src.l y0.2)), .int .i64 (↑(Src.k
 y0.2) : Int), .int .i64 (Src.s y0.2)], 67)] (Ret.mk (.agg [.int .i64 (J.kind y1.1), .int .i64 (J.n y1.1), .str (J.t y1.1), .dsl (List.length (J.keys y1.1)) false (encs encStr (J.keys y1.1)), .dsl (List.length (J.items y1.1)) false (encs
 encJ (J.items y1.1))]) [some ([.dsl (List.length (Src.l y1.2)) false (encs encByte (Src.l y1.2)), .int .i64 (↑(Src.k y1.2) : Int), .int .i64 (Src.s y1.2)], 67)] [0])] (.need [true = true, 0 = 0, 1 ≤ 9223372036854775807, 80 ≤
 140737488355328] (.done (Ex.normal, St.mk (mkTm 87 [(0, .ptr 0 0), (1, .int .i64 d), (4, .ptr 1 0), (8, .ptr 2 0), (9, .int .i64 (IntKind.wrap IntKind.i64 (i + 1)))]) [some ([.dsl (List.length (Src.l y1.2)) false (encs encByte (Src.l
 y1.2)), .int .i64 (↑(Src.k y1.2) : Int), .int .i64 (Src.s y1.2)], 67), some ([.int .i64 0, .int .i64 0, .str [], .dsl 0 true [], .dsl 0 true []], 25), some ([.int .i64 5, .int .i64 0, .str [], .sl 3 0 1 false, .sl 4 0 1 false], 25), some
 ([.sld [.str k]], 9), some ([.sld [.int .i64 (J.kind y1.1), .int .i64 (J.n y1.1), .str (J.t y1.1), .dsl (List.length (J.keys y1.1)) false (encs encStr (J.keys y1.1)), .dsl (List.length (J.items y1.1)) false (encs encJ (J.items y1.1))]],
 25)] [0])))))) else .done (Ex.normal, St.mk (mkTm 87 [(0, .ptr 0 0), (1, .int .i64 d), (4, .ptr 1 0), (8, .ptr 2 0), (9, .int .i64 (IntKind.wrap IntKind.i64 (i + 1)))]) [some ([.dsl (List.length (Src.l y0.2)) false (encs encByte (Src.l
 y0.2)), .int .i64 (↑(Src.k y0.2) : Int), .int .i64 (Src.s y0.2)], 67), some ([.int .i64 0, .int .i64 0, .str [], .dsl 0 true [], .dsl 0 true []], 25), some ([.int .i64 5, .int .i64 0, .str [], .dsl 0 true [], .dsl 0 true []], 25)] [0]))
 else .done (Ex.exit 3, St.mk (mkTm 87 [(0, .ptr 0 0), (1, .int .i64 d), (4, .ptr 1 0), (8, .ptr 2 0), (9, .int .i64 i)]) [some ([.dsl (List.length (Src.l x)) false (encs encByte (Src.l x)), .int .i64 (↑(Src.k x) : Int), .int .i64 (Src.s
 x)], 67), some ([.int .i64 0, .int .i64 0, .str [], .dsl 0 true [], .dsl 0 true []], 25), some ([.int .i64 5, .int .i64 0, .str [], .dsl 0 true [], .dsl 0 true []], 25)] [0]) : T _) := by kernel_rfl
set_option maxRecDepth 100000 in
theorem obj1T (f : Src → J × Src) (k : List UInt8) (x : Src) (d i : Int) (ks : List (List UInt8)) (L : List J) : bodyT (EO f k) 1 nfO (lp Tryz.prog fJson 3) (stO1 x d i ks L) = (
 bif decide (i < 4) then .bind (chanceF (srcOf (encs encByte (Src.l x)) (↑(Src.k x) : Int) (Src.s x)) (2 : Int)) fun y0 => .need [FnOK Tryz.prog 52 [.ptr 0 0, .int .i64 2] [some ([.dsl (List.length (Src.l x)) false (encs encByte (Src.l x)),
 .int .i64 (↑(Src.k x) : Int), .int .i64 (Src.s x)], 67)] (Ret.mk (.bool y0.1) [some ([.dsl (List.length (Src.l y0.2)) false (encs encByte (Src.l y0.2)), .int .i64 (↑(Src.k y0.2) : Int), .int .i64 (Src.s y0.2)], 67)] [0])] (bif y0.1 then
 .need [0 ≤ i ∧ i < 4] (.need [([.str [97], .str [98], .str [107], .str [122, 122]] : List V)[0 + Int.toNat i * 1]? = some (.str k)] (.need [0 = 0, List.length (encs encStr ks) = ks.length * 1, ks.length + 1 ≤ 9223372036854775807, (ks.length
 + 1) * 16 ≤ 140737488355328] (.bind (f (srcOf (encs encByte (Src.l y0.2)) (↑(Src.k y0.2) : Int) (Src.s y0.2))) fun y1 => .need [FnOK Tryz.prog 33 [.ptr 0 0, .int .i64 (IntKind.wrap IntKind.i64 (d - 1))] [some ([.dsl (List.length (Src.l
 y0.2)) false (encs encByte (Src.l y0.2)), .int .i64 (↑(Src.k y0.2) : Int), .int .i64 (Src.s y0.2)], 67)] (Ret.mk (.agg [.int .i64 (J.kind y1.1), .int .i64 (J.n y1.1), .str (J.t y1.1), .dsl (List.length (J.keys y1.1)) false (encs encStr
 (J.keys y1.1)), .dsl (List.length (J.items y1.1)) false (encs encJ (J.items y1.1))]) [some ([.dsl (List.length (Src.l y1.2)) false (encs encByte (Src.l y1.2)), .int .i64 (↑(Src.k y1.2) : Int), .int .i64 (Src.s y1.2)], 67)] [0])] (.need [0 =
 0, List.length (encs encJ L) = L.length * 5, L.length + 1 ≤ 9223372036854775807, (L.length + 1) * 80 ≤ 140737488355328] (.done (Ex.normal, St.mk (mkTm 87 [(0, .ptr 0 0), (1, .int .i64 d), (4, .ptr 1 0), (8, .ptr 2 0), (9, .int .i64
 (IntKind.wrap IntKind.i64 (i + 1)))]) [some ([.dsl (List.length (Src.l y1.2)) false (encs encByte (Src.l y1.2)), .int .i64 (↑(Src.k y1.2) : Int), .int .i64 (Src.s y1.2)], 67), some ([.int .i64 0, .int .i64 0, .str [], .dsl 0 true [], .dsl 0
 true []], 25), some ([.int .i64 5, .int .i64 0, .str [], .sl 3 0 (ks.length + 1) false, .sl 4 0 (L.length + 1) false], 25), some ([.sld (encs encStr ks ++ [.str k])], 9), some ([.sld (encs encJ L ++ [.int .i64 (J.kind y1.1), .int .i64 (J.n
 y1.1), .str (J.t y1.1), .dsl (List.length (J.keys y1.1)) false (encs encStr (J.keys y1.1)), .dsl (List.length (J.items y1.1)) false (encs encJ (J.items y1.1))])], 25)] [0])))))) else .done (Ex.normal, St.mk (mkTm 87 [(0, .ptr 0 0), (1, .int
 .i64 d), (4, .ptr 1 0), (8, .ptr 2 0), (9, .int .i64 (IntKind.wrap IntKind.i64 (i + 1)))]) [some ([.dsl (List.length (Src.l y0.2)) false (encs encByte (Src.l y0.2)), .int .i64 (↑(Src.k y0.2) : Int), .int .i64 (Src.s y0.2)], 67), some ([.int
 .i64 0, .int .i64 0, .str [], .dsl 0 true [], .dsl 0 true []], 25), some ([.int .i64 5, .int .i64 0, .str [], .sl 3 0 ks.length false, .sl 4 0 L.length false], 25), some ([.sld (encs encStr ks)], 9), some ([.sld (encs encJ L)], 25)] [0]))
 else .done (Ex.exit 3, St.mk (mkTm 87 [(0, .ptr 0 0), (1, .int .i64 d), (4, .ptr 1 0), (8, .ptr 2 0), (9, .int .i64 i)]) [some ([.dsl (List.length (Src.l x)) false (encs encByte (Src.l x)), .int .i64 (↑(Src.k x) : Int), .int .i64 (Src.s
 x)], 67), some ([.int .i64 0, .int .i64 0, .str [], .dsl 0 true [], .dsl 0 true []], 25), some ([.int .i64 5, .int .i64 0, .str [], .sl 3 0 ks.length false, .sl 4 0 L.length false], 25), some ([.sld (encs encStr ks)], 9), some ([.sld (encs
 encJ L)], 25)] [0]) : T _) := by kernel_rfl
theorem flatC_strs (ks : List (List UInt8)) (k : List UInt8) : flatC [.sld (encs encStr ks), .str k] = encs encStr (ks ++ [k]) := by
 rw [encs_snoc]; simp [flatC, V.can, encStr]
theorem stO1_snoc (x : Src) (d i : Int) (ks : List (List UInt8)) (L : List J) (k : List UInt8) (j : J) : stO1 x d i (ks ++ [k]) (L ++ [j]) =
  ⟨mkTm 87 [(0, .ptr 0 0), (1, .int .i64 d), (4, .ptr 1 0), (8, .ptr 2 0), (9, .int .i64 i)], [srcB x, zJ, some ([.int .i64 5, .int .i64 0, .str [], .sl 3 0 (ks.length + 1) false, .sl 4 0 (L.length + 1) false], tJ), some ([.sld (flatC [.sld (encs encStr ks), .str k])], 9), some ([.sld (flatC (.sld (encs encJ L) :: vwJ j))], tJ)], [0]⟩ := by
 rw [flatC_snoc, flatC_strs]; simp [stO1, strB]
theorem obj_key {i : Nat} {k : List UInt8} {t : List (List UInt8)} (h : objKeys.drop i = k :: t) : [V.str [97], V.str [98], V.str [107], V.str [122, 122]][0 + ((i : Int)).toNat * 1]? = some (V.str k) := by
 have h1 : (objKeys.drop i)[0]? = some k := by rw [h]; rfl
 rw [List.getElem?_drop] at h1
 have h2 : (objKeys.map V.str)[i]? = some (V.str k) := by rw [List.getElem?_map]; simpa using congrArg (Option.map V.str) h1
 rw [Int.toNat_natCast, Nat.zero_add, Nat.mul_one]; exact h2
theorem obj_next {i : Nat} {k : List UInt8} {t : List (List UInt8)} (h : objKeys.drop i = k :: t) : objKeys.drop (i + 1) = t := by
 rw [← List.drop_drop, h]; rfl
theorem chanceF_ok {x : Src} {c : Nat} {n : Int} (h : x.OK (c + 3)) (hn : 1 ≤ n) : (chanceF x n).2.OK c := (nextF_ok h hn).1
theorem obj1_loop {f : Src → J × Src} {d : Nat} {q : Nat} (hf : Draw f d q) (hd : d ≤ 1000) : ∀ (t : List (List UInt8)) (i : Nat) (x : Src) (ks : List (List UInt8)) (L : List J) (c : Nat), objKeys.drop i = t → i + t.length = 4 → x.OK (c + t.length * (q + 3)) → ks.length ≤ i → L.length ≤ i →
  LoopTo Tryz.prog 1 (lp Tryz.prog fJson 3) (stO1 x ((d + 1 : Nat) : Int) i ks L) (.exit 3) (stO1 (drawObj f t x ks L).2.2 ((d + 1 : Nat) : Int) 4 (drawObj f t x ks L).1 (drawObj f t x ks L).2.1)
 | [], i, x, ks, L, c, h1, h2, h3, h4, h5 => by
  refine loopT (E := EO f []) follows named (obj1T f [] x _ _ ks L) ?_
  obtain rfl : i = 4 := by simpa using h2
  simp only [WP_cond, T.WP, All, decide_eq_true_eq, decide_eq_false_iff_not, and_true, srcOf_mk]
  exact ⟨fun h => by omega, fun _ => ⟨rfl, rfl⟩⟩
 | k :: t, i, x, ks, L, c, h1, h2, h3, h4, h5 => by
  refine loopT (E := EO f k) follows named (obj1T f k x _ _ ks L) ?_
  simp only [List.length_cons] at h2 h3
  have hc : x.OK ((c + t.length * (q + 3) + q) + 3) := by
   refine h3.less ?_
   rw [Nat.add_mul, Nat.one_mul]; omega
  have hx := chanceF_ok (n := 2) hc (by omega)
  simp only [WP_cond, T.WP, All, decide_eq_true_eq, decide_eq_false_iff_not, and_true, srcOf_mk]
  refine ⟨fun _ y e => ⟨by subst e; exact chance_ok x 2 hc (by omega), fun hy => ?_, fun hy => ?_⟩, fun h => by omega⟩
  ·subst e
   refine ⟨by omega, obj_key h1, ⟨trivial, layStr.length _, by omega, by omega⟩, fun z e => ?_⟩
   subst e
   rw [wrap_id (by omega), show ((d + 1 : Nat) : Int) - 1 = d by omega]
   refine ⟨hf.call _ _ hx, ⟨trivial, layJ.length _, by omega, by omega⟩, ?_⟩
   rw [wrap_succ (by omega)]
   have ih := obj1_loop hf hd t (i + 1) (f (chanceF x 2).2).2 (ks ++ [k]) (L ++ [(f (chanceF x 2).2).1]) c (obj_next h1) (by omega) (hf.cost _ _ hx) (by simp; omega) (by simp; omega)
   rw [stO1_snoc] at ih
   simp only [drawObj, hy, if_true]
   exact ih
  ·subst e
   rw [wrap_succ (by omega)]
   have ih := obj1_loop hf hd t (i + 1) (chanceF x 2).2 ks L c (obj_next h1) (by omega) (hx.less (by omega)) (by omega) (by omega)
   simp only [drawObj, hy, Bool.false_eq_true, if_false]
   exact ih
def stO (x : Src) (d i : Int) (ks : List (List UInt8)) (L : List J) : St := match ks with
 | [] => stO0 x d i
 | k :: ks => stO1 x d i (k :: ks) L
theorem stO_ne (x : Src) (d i : Int) (ks : List (List UInt8)) (L : List J) (h : ks ≠ []) : stO x d i ks L = stO1 x d i ks L := by
 cases ks with
 | nil => exact absurd rfl h
 | cons => rfl
theorem drawObj_ne {f : Src → J × Src} : ∀ (t : List (List UInt8)) (x : Src) (ks : List (List UInt8)) (L : List J), ks ≠ [] → (drawObj f t x ks L).1 ≠ []
 | [], _, _, _, h => h
 | k :: t, x, ks, L, h => by
  unfold drawObj
  split
  ·exact drawObj_ne t _ _ _ (by simp)
  ·exact drawObj_ne t _ _ _ h
theorem obj0_loop {f : Src → J × Src} {d : Nat} {q : Nat} (hf : Draw f d q) (hd : d ≤ 1000) : ∀ (t : List (List UInt8)) (i : Nat) (x : Src) (c : Nat), objKeys.drop i = t → i + t.length = 4 → x.OK (c + t.length * (q + 3)) →
  LoopTo Tryz.prog 1 (lp Tryz.prog fJson 3) (stO0 x ((d + 1 : Nat) : Int) i) (.exit 3) (stO (drawObj f t x [] []).2.2 ((d + 1 : Nat) : Int) 4 (drawObj f t x [] []).1 (drawObj f t x [] []).2.1)
 | [], i, x, c, h1, h2, h3 => by
  refine loopT (E := EO f []) follows named (obj0T f [] x _ _) ?_
  obtain rfl : i = 4 := by simpa using h2
  simp only [WP_cond, T.WP, All, decide_eq_true_eq, decide_eq_false_iff_not, and_true, srcOf_mk]
  exact ⟨fun h => by omega, fun _ => ⟨rfl, rfl⟩⟩
 | k :: t, i, x, c, h1, h2, h3 => by
  refine loopT (E := EO f k) follows named (obj0T f k x _ _) ?_
  simp only [List.length_cons] at h2 h3
  have hc : x.OK ((c + t.length * (q + 3) + q) + 3) := by
   refine h3.less ?_
   rw [Nat.add_mul, Nat.one_mul]; omega
  have hx := chanceF_ok (n := 2) hc (by omega)
  simp only [WP_cond, T.WP, All, decide_eq_true_eq, decide_eq_false_iff_not, and_true, srcOf_mk]
  refine ⟨fun _ y e => ⟨by subst e; exact chance_ok x 2 hc (by omega), fun hy => ?_, fun hy => ?_⟩, fun h => by omega⟩
  ·subst e
   refine ⟨by omega, obj_key h1, by simp, fun z e => ?_⟩
   subst e
   rw [wrap_id (by omega), show ((d + 1 : Nat) : Int) - 1 = d by omega]
   refine ⟨hf.call _ _ hx, by simp, ?_⟩
   rw [wrap_succ (by omega)]
   have ih := obj1_loop hf hd t (i + 1) (f (chanceF x 2).2).2 ([] ++ [k]) ([] ++ [(f (chanceF x 2).2).1]) c (obj_next h1) (by omega) (hf.cost _ _ hx) (by simp) (by simp)
   rw [stO1_snoc] at ih
   simp only [drawObj, hy, if_true]
   rw [stO_ne _ _ _ _ _ (drawObj_ne _ _ _ _ (by simp))]
   exact ih
  ·subst e
   rw [wrap_succ (by omega)]
   have ih := obj0_loop hf hd t (i + 1) (chanceF x 2).2 c (obj_next h1) (by omega) (hx.less (by omega))
   simp only [drawObj, hy, Bool.false_eq_true, if_false]
   exact ih
end Go.Proofs.YtfncaghjfgnnhaaGreatDoor

namespace Go.Proofs.YtfncaghjfgnnhaaGreatDoor
open Go.RowKit
set_option maxRecDepth 100000
noncomputable def lsJson (f : Src → J × Src) : Nat → St → Option LRes := fun id s => match s.hp with
 | some ([.dsl _ _ cs, .int _ k, .int _ sd], _) :: _ => match id, s.tm.get 1, s.tm.get 7 with
  | 1, .int _ d, .int _ i => some ⟨drawList f i.toNat (srcOf cs k sd) [], fun y => .two { keep := [0, 1, 4, 6, 7] } (stL0 (srcOf cs k sd) d i) y.1.isEmpty (.exit 1) (stL0 y.2 d 0) (.exit 1) (stL1 y.2 d 0 y.1)⟩
  | 3, .int _ d, _ => some ⟨drawObj f objKeys (srcOf cs k sd) [] [], fun y => .two { keep := [0, 1, 4, 8, 9] } (stO0 (srcOf cs k sd) d 0) y.1.isEmpty (.exit 3) (stO0 y.2.2 d 4) (.exit 3) (stO1 y.2.2 d 4 y.1 y.2.1)⟩
  | _, _, _ => none
 | _ => none
noncomputable def resText : ResT := fun f vs hp => match vs, hp with
 | [.ptr 0 0], [some ([.dsl _ _ cs, .int _ k, .int _ s], _)] => bif Nat.beq f fJsText then some ⟨pickF (srcOf cs k s) jsTexts, fun y => ⟨.str y.1, [srcB y.2], [0]⟩⟩ else none
 | _, _ => none
noncomputable def EK (f : Src → J × Src) (v : Int) : Env := { P := Tryz.prog, vw := vwA, res := (resNext.or resPick).or resText, ls := lsJson f, vs := [(10, 8, .int .i64 v)] }
--FOLD srcB vwJ stL0 stL1 stO0 stO1 zJ
set_option maxRecDepth 100000 in
theorem json0T (f : Src → J × Src) (v : Int) (x : Src) : fnT (EK f v) 0 fJson [.ptr 0 0, .int .i64 0] [srcB x] = (
 .bind (nextF (srcOf (encs encByte (Src.l x)) (↑(Src.k x) : Int) (Src.s x)) (6 : Int)) fun y0 => .need [FnOK Tryz.prog 50 [.ptr 0 0, .int .i64 6] [srcB x] (Ret.mk (.int .i64 y0.1) [srcB y0.2] [0])] (.bind (nextF (srcOf (encs encByte (Src.l
 y0.2)) (↑(Src.k y0.2) : Int) (Src.s y0.2)) (4 : Int)) fun y1 => .need [FnOK Tryz.prog 50 [.ptr 0 0, .int .i64 4] [srcB y0.2] (Ret.mk (.int .i64 y1.1) [srcB y1.2] [0])] (bif y1.1 == 0 then .done (Ret.mk (.agg [.int .i64 0, .int .i64 0, .str
 [], .dsl 0 false [], .dsl 0 false []]) [srcB y1.2] [0]) else bif y1.1 == 1 then .bind (nextF (srcOf (encs encByte (Src.l y1.2)) (↑(Src.k y1.2) : Int) (Src.s y1.2)) (2 : Int)) fun y2 => .need [FnOK Tryz.prog 50 [.ptr 0 0, .int .i64 2] [srcB
 y1.2] (Ret.mk (.int .i64 y2.1) [srcB y2.2] [0])] (.done (Ret.mk (.agg [.int .i64 1, .int .i64 y2.1, .str [], .dsl 0 false [], .dsl 0 false []]) [srcB y2.2] [0])) else bif y1.1 == 2 then .bind (nextF (srcOf (encs encByte (Src.l y1.2))
 (↑(Src.k y1.2) : Int) (Src.s y1.2)) (20 : Int)) fun y3 => .need [FnOK Tryz.prog 50 [.ptr 0 0, .int .i64 20] [srcB y1.2] (Ret.mk (.int .i64 y3.1) [srcB y3.2] [0])] (.bind (nextF (srcOf (encs encByte (Src.l y3.2)) (↑(Src.k y3.2) : Int) (Src.s
 y3.2)) (6 : Int)) fun y4 => .need [FnOK Tryz.prog 50 [.ptr 0 0, .int .i64 6] [srcB y3.2] (Ret.mk (.int .i64 y4.1) [srcB y4.2] [0])] (.need [(5 : Int) ≠ (0 : Int)] (.need [0 ≤ IntKind.wrap IntKind.i64 (Int.tdiv y4.1 (5 : Int)) ∧ IntKind.wrap
 IntKind.i64 (Int.tdiv y4.1 (5 : Int)) < 2] (.need [([.int .i64 (IntKind.wrap IntKind.i64 (y3.1 - 9)), .int .i64 1000000000] : List V)[0 + Int.toNat (IntKind.wrap IntKind.i64 (Int.tdiv y4.1 (5 : Int))) * 1]? = some (.int .i64 v)] (.done
 (Ret.mk (.agg [.int .i64 2, .int .i64 v, .str [], .dsl 0 false [], .dsl 0 false []]) [srcB y4.2] [0])))))) else bif y1.1 == 3 then .bind (pickF (srcOf (encs encByte (Src.l y1.2)) (↑(Src.k y1.2) : Int) (Src.s y1.2)) [[], [(97 : UInt8)], [(98
 : UInt8)], [(107 : UInt8)], [(116 : UInt8), 119, 111, 32, 119, 111, 114, 100, 115], [(113 : UInt8), 34, 113], [(98 : UInt8), 92, 98], [(122 : UInt8), 122]]) fun y5 => .need [FnOK Tryz.prog 51 [.ptr 0 0] [srcB y1.2] (Ret.mk (.str y5.1) [srcB
 y5.2] [0])] (.done (Ret.mk (.agg [.int .i64 3, .int .i64 0, .str y5.1, .dsl 0 false [], .dsl 0 false []]) [srcB y5.2] [0])) else bif y1.1 == 4 then .bind (nextF (srcOf (encs encByte (Src.l y1.2)) (↑(Src.k y1.2) : Int) (Src.s y1.2)) (4 :
 Int)) fun y6 => .need [FnOK Tryz.prog 50 [.ptr 0 0, .int .i64 4] [srcB y1.2] (Ret.mk (.int .i64 y6.1) [srcB y6.2] [0])] (.bind (drawList f (Int.toNat y6.1) (srcOf (encs encByte (Src.l y6.2)) (↑(Src.k y6.2) : Int) (Src.s y6.2)) []) fun y7 =>
 .need [stL0 y6.2 (0 : Int) y6.1 = stL0 (srcOf (encs encByte (Src.l y6.2)) (↑(Src.k y6.2) : Int) (Src.s y6.2)) (0 : Int) y6.1] (bif List.isEmpty y7.1 then .need [SoundC Tryz.prog 1 (blk Tryz.prog fJson 1) (stL0 (srcOf (encs encByte (Src.l
 y6.2)) (↑(Src.k y6.2) : Int) (Src.s y6.2)) (0 : Int) y6.1) (Ex.exit 1) (stL0 y7.2 (0 : Int) (0 : Int))] (.done (Ret.mk (.agg [.int .i64 4, .int .i64 0, .str [], .dsl 0 false [], .dsl 0 false []]) [srcB y7.2] [0])) else .need [SoundC
 Tryz.prog 1 (blk Tryz.prog fJson 1) (stL0 (srcOf (encs encByte (Src.l y6.2)) (↑(Src.k y6.2) : Int) (Src.s y6.2)) (0 : Int) y6.1) (Ex.exit 1) (stL1 y7.2 (0 : Int) (0 : Int) y7.1)] (.done (Ret.mk (.agg [.int .i64 4, .int .i64 0, .str [], .dsl
 0 false [], .dsl y7.1.length false (encs encJ y7.1)]) [srcB y7.2] [0])))) else .bind (drawObj f [[(97 : UInt8)], [(98 : UInt8)], [(107 : UInt8)], [(122 : UInt8), 122]] (srcOf (encs encByte (Src.l y1.2)) (↑(Src.k y1.2) : Int) (Src.s y1.2))
 [] []) fun y8 => .need [stO0 y1.2 (0 : Int) (0 : Int) = stO0 (srcOf (encs encByte (Src.l y1.2)) (↑(Src.k y1.2) : Int) (Src.s y1.2)) (0 : Int) (0 : Int)] (bif List.isEmpty y8.1 then .need [SoundC Tryz.prog 1 (blk Tryz.prog fJson 3) (stO0
 (srcOf (encs encByte (Src.l y1.2)) (↑(Src.k y1.2) : Int) (Src.s y1.2)) (0 : Int) (0 : Int)) (Ex.exit 3) (stO0 (y8.2.2) (0 : Int) (4 : Int))] (.done (Ret.mk (.agg [.int .i64 5, .int .i64 0, .str [], .dsl 0 false [], .dsl 0 false []]) [srcB
 (y8.2.2)] [0])) else .need [SoundC Tryz.prog 1 (blk Tryz.prog fJson 3) (stO0 (srcOf (encs encByte (Src.l y1.2)) (↑(Src.k y1.2) : Int) (Src.s y1.2)) (0 : Int) (0 : Int)) (Ex.exit 3) (stO1 (y8.2.2) (0 : Int) (4 : Int) y8.1 (y8.2.1))] (.done
 (Ret.mk (.agg [.int .i64 5, .int .i64 0, .str [], .dsl y8.1.length false (encs encStr y8.1), .dsl (List.length (y8.2.1)) false (encs encJ (y8.2.1))]) [srcB (y8.2.2)] [0]))))) : T _) := (T.force_eq _).symm.trans (by kernel_rfl)
set_option maxRecDepth 100000 in
theorem jsonST (f : Src → J × Src) (v : Int) (x : Src) (d : Nat) : fnT (EK f v) 0 fJson [.ptr 0 0, .int .i64 ((d + 1 : Nat) : Int)] [srcB x] = (
 .bind (nextF (srcOf (encs encByte (Src.l x)) (↑(Src.k x) : Int) (Src.s x)) (6 : Int)) fun y0 => .need [FnOK Tryz.prog 50 [.ptr 0 0, .int .i64 6] [srcB x] (Ret.mk (.int .i64 y0.1) [srcB y0.2] [0])] (bif y0.1 == 0 then .done (Ret.mk (.agg
 [.int .i64 0, .int .i64 0, .str [], .dsl 0 false [], .dsl 0 false []]) [srcB y0.2] [0]) else bif y0.1 == 1 then .bind (nextF (srcOf (encs encByte (Src.l y0.2)) (↑(Src.k y0.2) : Int) (Src.s y0.2)) (2 : Int)) fun y1 => .need [FnOK Tryz.prog
 50 [.ptr 0 0, .int .i64 2] [srcB y0.2] (Ret.mk (.int .i64 y1.1) [srcB y1.2] [0])] (.done (Ret.mk (.agg [.int .i64 1, .int .i64 y1.1, .str [], .dsl 0 false [], .dsl 0 false []]) [srcB y1.2] [0])) else bif y0.1 == 2 then .bind (nextF (srcOf
 (encs encByte (Src.l y0.2)) (↑(Src.k y0.2) : Int) (Src.s y0.2)) (20 : Int)) fun y2 => .need [FnOK Tryz.prog 50 [.ptr 0 0, .int .i64 20] [srcB y0.2] (Ret.mk (.int .i64 y2.1) [srcB y2.2] [0])] (.bind (nextF (srcOf (encs encByte (Src.l y2.2))
 (↑(Src.k y2.2) : Int) (Src.s y2.2)) (6 : Int)) fun y3 => .need [FnOK Tryz.prog 50 [.ptr 0 0, .int .i64 6] [srcB y2.2] (Ret.mk (.int .i64 y3.1) [srcB y3.2] [0])] (.need [(5 : Int) ≠ (0 : Int)] (.need [0 ≤ IntKind.wrap IntKind.i64 (Int.tdiv
 y3.1 (5 : Int)) ∧ IntKind.wrap IntKind.i64 (Int.tdiv y3.1 (5 : Int)) < 2] (.need [([.int .i64 (IntKind.wrap IntKind.i64 (y2.1 - 9)), .int .i64 1000000000] : List V)[0 + Int.toNat (IntKind.wrap IntKind.i64 (Int.tdiv y3.1 (5 : Int))) * 1]? =
 some (.int .i64 v)] (.done (Ret.mk (.agg [.int .i64 2, .int .i64 v, .str [], .dsl 0 false [], .dsl 0 false []]) [srcB y3.2] [0])))))) else bif y0.1 == 3 then .bind (pickF (srcOf (encs encByte (Src.l y0.2)) (↑(Src.k y0.2) : Int) (Src.s
 y0.2)) [[], [(97 : UInt8)], [(98 : UInt8)], [(107 : UInt8)], [(116 : UInt8), 119, 111, 32, 119, 111, 114, 100, 115], [(113 : UInt8), 34, 113], [(98 : UInt8), 92, 98], [(122 : UInt8), 122]]) fun y4 => .need [FnOK Tryz.prog 51 [.ptr 0 0]
 [srcB y0.2] (Ret.mk (.str y4.1) [srcB y4.2] [0])] (.done (Ret.mk (.agg [.int .i64 3, .int .i64 0, .str y4.1, .dsl 0 false [], .dsl 0 false []]) [srcB y4.2] [0])) else bif y0.1 == 4 then .bind (nextF (srcOf (encs encByte (Src.l y0.2))
 (↑(Src.k y0.2) : Int) (Src.s y0.2)) (4 : Int)) fun y5 => .need [FnOK Tryz.prog 50 [.ptr 0 0, .int .i64 4] [srcB y0.2] (Ret.mk (.int .i64 y5.1) [srcB y5.2] [0])] (.bind (drawList f (Int.toNat y5.1) (srcOf (encs encByte (Src.l y5.2)) (↑(Src.k
 y5.2) : Int) (Src.s y5.2)) []) fun y6 => .need [stL0 y5.2 (↑(d + 1) : Int) y5.1 = stL0 (srcOf (encs encByte (Src.l y5.2)) (↑(Src.k y5.2) : Int) (Src.s y5.2)) (↑(d + 1) : Int) y5.1] (bif List.isEmpty y6.1 then .need [SoundC Tryz.prog 1 (blk
 Tryz.prog fJson 1) (stL0 (srcOf (encs encByte (Src.l y5.2)) (↑(Src.k y5.2) : Int) (Src.s y5.2)) (↑(d + 1) : Int) y5.1) (Ex.exit 1) (stL0 y6.2 (↑(d + 1) : Int) (0 : Int))] (.done (Ret.mk (.agg [.int .i64 4, .int .i64 0, .str [], .dsl 0 false
 [], .dsl 0 false []]) [srcB y6.2] [0])) else .need [SoundC Tryz.prog 1 (blk Tryz.prog fJson 1) (stL0 (srcOf (encs encByte (Src.l y5.2)) (↑(Src.k y5.2) : Int) (Src.s y5.2)) (↑(d + 1) : Int) y5.1) (Ex.exit 1) (stL1 y6.2 (↑(d + 1) : Int) (0 :
 Int) y6.1)] (.done (Ret.mk (.agg [.int .i64 4, .int .i64 0, .str [], .dsl 0 false [], .dsl y6.1.length false (encs encJ y6.1)]) [srcB y6.2] [0])))) else .bind (drawObj f [[(97 : UInt8)], [(98 : UInt8)], [(107 : UInt8)], [(122 : UInt8),
 122]] (srcOf (encs encByte (Src.l y0.2)) (↑(Src.k y0.2) : Int) (Src.s y0.2)) [] []) fun y7 => .need [stO0 y0.2 (↑(d + 1) : Int) (0 : Int) = stO0 (srcOf (encs encByte (Src.l y0.2)) (↑(Src.k y0.2) : Int) (Src.s y0.2)) (↑(d + 1) : Int) (0 :
 Int)] (bif List.isEmpty y7.1 then .need [SoundC Tryz.prog 1 (blk Tryz.prog fJson 3) (stO0 (srcOf (encs encByte (Src.l y0.2)) (↑(Src.k y0.2) : Int) (Src.s y0.2)) (↑(d + 1) : Int) (0 : Int)) (Ex.exit 3) (stO0 (y7.2.2) (↑(d + 1) : Int) (4 :
 Int))] (.done (Ret.mk (.agg [.int .i64 5, .int .i64 0, .str [], .dsl 0 false [], .dsl 0 false []]) [srcB (y7.2.2)] [0])) else .need [SoundC Tryz.prog 1 (blk Tryz.prog fJson 3) (stO0 (srcOf (encs encByte (Src.l y0.2)) (↑(Src.k y0.2) : Int)
 (Src.s y0.2)) (↑(d + 1) : Int) (0 : Int)) (Ex.exit 3) (stO1 (y7.2.2) (↑(d + 1) : Int) (4 : Int) y7.1 (y7.2.1))] (.done (Ret.mk (.agg [.int .i64 5, .int .i64 0, .str [], .dsl y7.1.length false (encs encStr y7.1), .dsl (List.length (y7.2.1))
 false (encs encJ (y7.2.1))]) [srcB (y7.2.2)] [0])))) : T _) := (T.force_eq _).symm.trans (by kernel_rfl)
set_option maxRecDepth 100000 in
theorem blk1 {s s' : St} {ex : Ex} (h : LoopTo Tryz.prog 1 (lp Tryz.prog fJson 1) s ex s') : SoundC Tryz.prog 1 (blk Tryz.prog fJson 1) s ex s' := .loopTo h
set_option maxRecDepth 100000 in
theorem blk3 {s s' : St} {ex : Ex} (h : LoopTo Tryz.prog 1 (lp Tryz.prog fJson 3) s ex s') : SoundC Tryz.prog 1 (blk Tryz.prog fJson 3) s ex s' := .loopTo h
theorem drawList_ne {f : Src → J × Src} : ∀ (i : Nat) (x : Src) (L : List J), L ≠ [] → (drawList f i x L).1 ≠ []
 | 0, _, _, h => h
 | i + 1, x, L, h => by
  unfold drawList
  exact drawList_ne i _ _ (by simp)
theorem drawObj_len {f : Src → J × Src} : ∀ (t : List (List UInt8)) (x : Src) (ks : List (List UInt8)) (L : List J), ks.length = L.length → (drawObj f t x ks L).1.length = (drawObj f t x ks L).2.1.length
 | [], _, _, _, h => h
 | k :: t, x, ks, L, h => by
  unfold drawObj
  split
  ·exact drawObj_len t _ _ _ (by simp [h])
  ·exact drawObj_len t _ _ _ h
theorem drawList_cost {f : Src → J × Src} {d : Int} {q : Nat} (hf : Draw f d q) : ∀ (i : Nat) (x : Src) (L : List J) (c : Nat), x.OK (c + i * q) → (drawList f i x L).2.OK c
 | 0, x, L, c, h => by simpa [drawList] using h
 | i + 1, x, L, c, h => by
  unfold drawList
  refine drawList_cost hf i _ _ c (hf.cost x _ ?_)
  rw [Nat.add_mul, Nat.one_mul, ← Nat.add_assoc] at h; exact h
theorem drawObj_cost {f : Src → J × Src} {d : Int} {q : Nat} (hf : Draw f d q) : ∀ (t : List (List UInt8)) (x : Src) (ks : List (List UInt8)) (L : List J) (c : Nat), x.OK (c + t.length * (q + 3)) → (drawObj f t x ks L).2.2.OK c
 | [], x, ks, L, c, h => by simpa [drawObj] using h
 | k :: t, x, ks, L, c, h => by
  have hc : x.OK ((c + t.length * (q + 3) + q) + 3) := by
   refine h.less ?_
   rw [List.length_cons, Nat.add_mul, Nat.one_mul]; omega
  have hx := chanceF_ok (n := 2) hc (by omega)
  unfold drawObj
  split
  ·exact drawObj_cost hf t _ _ _ c (hf.cost _ _ hx)
  ·exact drawObj_cost hf t _ _ _ c (hx.less (by omega))
theorem jsonK_cost {f : Src → J × Src} {d : Int} {q : Nat} {k : Int} (hf : 4 ≤ k → Draw f d q) {x : Src} {c : Nat} (h : x.OK (c + (4 * q + 15))) (hk : 0 ≤ k) : (jsonK f k x).2.OK c := by
 unfold jsonK
 split
 ·exact h.less (by omega)
 ·split
  ·exact (nextF_ok (c := c) (h.less (by omega)) (by omega)).1
  ·split
   ·have h1 := nextF_ok (c := c + 3) (n := 20) (h.less (by omega)) (by omega)
    exact (nextF_ok (c := c) h1.1 (by omega)).1
   ·split
    ·exact (pickF_ok (c := c) (h.less (by omega)) (by simp [jsTexts])).1
    ·split
     ·have h1 := nextF_ok (c := c + 4 * q) (n := 4) (h.less (by omega)) (by omega)
      refine drawList_cost (hf (by omega)) _ _ _ c (h1.1.less ?_)
      have h3 : (nextF x 4).1.toNat ≤ 4 := by omega
      have := Nat.mul_le_mul_right q h3
      omega
     ·exact drawObj_cost (hf (by omega)) _ _ _ _ c (h.less (by simp only [objKeys, List.length_cons, List.length_nil]; omega))
def qF : Nat → Nat
 | 0 => 21
 | d + 1 => 4 * qF d + 18
theorem num_at (a b : Int) (k : Int) (h : 0 ≤ k ∧ k < 2) : ([V.int .i64 a, .int .i64 b] : List V)[0 + k.toNat * 1]? = some (.int .i64 ([a, b].getD k.toNat 0)) := by
 have : k = 0 ∨ k = 1 := by omega
 rcases this with rfl | rfl <;> rfl
theorem json_zero : Draw (jsonF 0) 0 (qF 0) := by
 have hcost : ∀ (x : Src) (c : Nat), x.OK (c + 21) → (jsonF 0 x).2.OK c := by
  intro x c h
  have h1 := nextF_ok (c := c + 18) (n := 6) h (by omega)
  have h2 := nextF_ok (c := c + 15) (n := 4) h1.1 (by omega)
  exact jsonK_cost (q := 0) (d := 0) (fun h => by omega) h2.1 h2.2.1
 refine ⟨fun x c h => ?_, hcost⟩
 have h1 := nextF_ok (c := c + 18) (n := 6) h (by omega)
 have h2 := nextF_ok (c := c + 15) (n := 4) h1.1 (by omega)
 have h3 := nextF_ok (c := c + 12) (n := 20) h2.1 (by omega)
 have h4 := nextF_ok (c := c + 9) (n := 6) h3.1 (by omega)
 have h5 : 0 ≤ (nextF (nextF (nextF (nextF x 6).2 4).2 20).2 6).1.tdiv 5 := Int.tdiv_nonneg h4.2.1 (by omega)
 have h6 : (nextF (nextF (nextF (nextF x 6).2 4).2 20).2 6).1.tdiv 5 < 2 := by rw [Int.tdiv_eq_ediv_of_nonneg h4.2.1]; omega
 refine fnOK_TL (E := EK (jsonF 0) ([(nextF (nextF (nextF x 6).2 4).2 20).1 - 9, 1000000000].getD ((nextF (nextF (nextF (nextF x 6).2 4).2 20).2 6).1.tdiv 5).toNat 0)) follows named (json0T _ _ x) (by simp) ?_
 simp only [WP_cond, T.WP, All, and_true, beq_iff_eq, beq_eq_false_iff_ne, ne_eq, srcOf_mk, jsonF]
 intro y0 e0
 subst e0
 refine ⟨next_ok _ _ h, fun y1 e1 => ?_⟩
 subst e1
 refine ⟨next_ok _ _ h1.1, fun hk => ?_, fun hk => ⟨fun hk1 y2 e2 => ?_, fun hk1 => ⟨fun hk2 y2 e2 => ?_, fun hk2 => ⟨fun hk3 y2 e2 => ?_, fun hk3 => ⟨fun hk4 => by omega, fun hk4 => by omega⟩⟩⟩⟩⟩
 ·simp only [jsonK, hk, if_true]; exact ⟨rfl, rfl, by simp⟩
 ·subst e2
  refine ⟨next_ok _ _ h2.1, ?_⟩
  simp only [jsonK, hk1]; exact ⟨rfl, rfl, by simp⟩
 ·subst e2
  refine ⟨next_ok _ _ h2.1, fun y3 e3 => ?_⟩
  subst e3
  refine ⟨next_ok _ _ h3.1, by omega, ?_⟩
  rw [wrap_id (n := (nextF (nextF (nextF x 6).2 4).2 20).1 - 9) (by omega), wrap_id (by omega)]
  refine ⟨⟨h5, h6⟩, num_at _ _ _ ⟨h5, h6⟩, ?_⟩
  simp only [jsonK, hk2]; exact ⟨rfl, rfl, by simp⟩
 ·subst e2
  refine ⟨jsText_ok _ h2.1, ?_⟩
  simp only [jsonK, hk3]; exact ⟨rfl, rfl, by simp⟩
theorem json_succ {d : Nat} (hd : d ≤ 900) (ih : Draw (jsonF d) d (qF d)) : Draw (jsonF (d + 1)) ((d + 1 : Nat) : Int) (qF (d + 1)) := by
 have hcost : ∀ (x : Src) (c : Nat), x.OK (c + (4 * qF d + 18)) → (jsonF (d + 1) x).2.OK c := by
  intro x c h
  have h1 := nextF_ok (c := c + (4 * qF d + 15)) (n := 6) (h.less (by omega)) (by omega)
  exact jsonK_cost (fun _ => ih) h1.1 h1.2.1
 refine ⟨fun x c h => ?_, hcost⟩
 simp only [qF] at h
 have h2 := nextF_ok (c := c + (4 * qF d + 15)) (n := 6) (h.less (by omega)) (by omega)
 have h3 := nextF_ok (c := c + (4 * qF d + 12)) (n := 20) (h2.1.less (by omega)) (by omega)
 have h4 := nextF_ok (c := c + (4 * qF d + 9)) (n := 6) (h3.1.less (by omega)) (by omega)
 have h5 : 0 ≤ (nextF (nextF (nextF x 6).2 20).2 6).1.tdiv 5 := Int.tdiv_nonneg h4.2.1 (by omega)
 have h6 : (nextF (nextF (nextF x 6).2 20).2 6).1.tdiv 5 < 2 := by rw [Int.tdiv_eq_ediv_of_nonneg h4.2.1]; omega
 have h7 := nextF_ok (c := c + 4 * qF d) (n := 4) (h2.1.less (by omega)) (by omega)
 refine fnOK_TL (E := EK (jsonF d) ([(nextF (nextF x 6).2 20).1 - 9, 1000000000].getD ((nextF (nextF (nextF x 6).2 20).2 6).1.tdiv 5).toNat 0)) follows named (jsonST _ _ x d) (by simp) ?_
 simp only [WP_cond, T.WP, All, and_true, beq_iff_eq, beq_eq_false_iff_ne, ne_eq, srcOf_mk, jsonF]
 intro y1 e1
 subst e1
 refine ⟨next_ok (c := c) _ _ (h.less (by omega)), fun hk => ?_, fun hk => ⟨fun hk1 y2 e2 => ?_, fun hk1 => ⟨fun hk2 y2 e2 => ?_, fun hk2 => ⟨fun hk3 y2 e2 => ?_, fun hk3 => ⟨fun hk4 y2 e2 => ?_, fun hk4 y2 e2 => ?_⟩⟩⟩⟩⟩
 ·simp only [jsonK, hk, if_true]; exact ⟨rfl, rfl, by simp⟩
 ·subst e2
  refine ⟨next_ok (c := c) _ _ (h2.1.less (by omega)), ?_⟩
  simp only [jsonK, hk1]; exact ⟨rfl, rfl, by simp⟩
 ·subst e2
  refine ⟨next_ok (c := c) _ _ (h2.1.less (by omega)), fun y3 e3 => ?_⟩
  subst e3
  refine ⟨next_ok (c := c) _ _ (h3.1.less (by omega)), by omega, ?_⟩
  rw [wrap_id (n := (nextF (nextF x 6).2 20).1 - 9) (by omega), wrap_id (by omega)]
  refine ⟨⟨h5, h6⟩, num_at _ _ _ ⟨h5, h6⟩, ?_⟩
  simp only [jsonK, hk2]; exact ⟨rfl, rfl, by simp⟩
 ·subst e2
  refine ⟨jsText_ok (c := c) _ (h2.1.less (by omega)), ?_⟩
  simp only [jsonK, hk3]; exact ⟨rfl, rfl, by simp⟩
 ·subst e2
  refine ⟨next_ok (c := c) _ _ (h2.1.less (by omega)), fun y3 e3 => ?_⟩
  have hi : (nextF (nextF x 6).2 4).1 = ((nextF (nextF x 6).2 4).1.toNat : Int) := by omega
  generalize hn : (nextF (nextF x 6).2 4).1.toNat = n at *
  refine ⟨trivial, fun hz => ?_, fun hz => ?_⟩
  ·subst e3
   have hn0 : n = 0 := by
    rcases n with _ | n
    ·rfl
    ·exact absurd (List.isEmpty_iff.mp hz) (by unfold drawList; exact drawList_ne _ _ _ (by simp))
   subst hn0
   refine ⟨?_, ?_⟩
   ·rw [hi]
    exact blk1 (list0_end (f := jsonF d) _ _)
   ·have e : jsonK (jsonF d) (nextF x 6).1 (nextF x 6).2 = (.mk 4 0 [] [] [], (nextF (nextF x 6).2 4).2) := by
     simp only [jsonK, hk4, hn, drawList]; rfl
    rw [e]; exact ⟨rfl, rfl, by simp⟩
  ·subst e3
   rcases n with _ | n
   ·exact absurd hz (by simp [drawList])
   refine ⟨?_, ?_⟩
   ·rw [hi]
    have := Nat.mul_le_mul_right (qF d) (show n + 1 ≤ 4 by omega)
    exact blk1 (list0_loop ih (by omega) n _ c (h7.1.less (by omega)) (by omega))
   ·have e : jsonK (jsonF d) (nextF x 6).1 (nextF x 6).2 = (.mk 4 0 [] [] (drawList (jsonF d) (n + 1) (nextF (nextF x 6).2 4).2 []).1, (drawList (jsonF d) (n + 1) (nextF (nextF x 6).2 4).2 []).2) := by
     simp only [jsonK, hk4, hn]; rfl
    rw [e]; exact ⟨rfl, rfl, by simp⟩
 ·subst e2
  have hk5 : jsonK (jsonF d) (nextF x 6).1 (nextF x 6).2 = (.mk 5 0 [] (drawObj (jsonF d) objKeys (nextF x 6).2 [] []).1 (drawObj (jsonF d) objKeys (nextF x 6).2 [] []).2.1, (drawObj (jsonF d) objKeys (nextF x 6).2 [] []).2.2) := by
   simp only [jsonK, hk, hk1, hk2, hk3, hk4, if_false]
  rw [hk5]
  have hl := blk3 (obj0_loop ih (by omega) objKeys 0 (nextF x 6).2 c rfl rfl (h2.1.less (by simp only [objKeys, List.length_cons, List.length_nil]; omega)))
  refine ⟨trivial, fun hz => ?_, fun hz => ?_⟩
  ·have hz1 : (drawObj (jsonF d) objKeys (nextF x 6).2 [] []).1 = [] := List.isEmpty_iff.mp hz
   have hz2 : (drawObj (jsonF d) objKeys (nextF x 6).2 [] []).2.1 = [] := by
    have := drawObj_len (f := jsonF d) objKeys (nextF x 6).2 [] [] rfl
    rw [hz1] at this; exact List.length_eq_zero_iff.mp this.symm
   rw [hz1, hz2] at hl ⊢
   exact ⟨hl, ⟨rfl, rfl, by simp⟩⟩
  ·have hz' : (drawObj (jsonF d) objKeys (nextF x 6).2 [] []).1 ≠ [] := fun e => by rw [show (drawObj (jsonF d) [[97], [98], [107], [122, 122]] (nextF x 6).2 [] []).1 = [] from e] at hz; cases hz
   rw [stO_ne _ _ _ _ _ hz'] at hl
   exact ⟨hl, ⟨rfl, rfl, by simp⟩⟩
theorem json_draw : ∀ (d : Nat), d ≤ 900 → Draw (jsonF d) d (qF d)
 | 0, _ => json_zero
 | d + 1, h => json_succ (by omega) (json_draw d (by omega))
end Go.Proofs.YtfncaghjfgnnhaaGreatDoor

namespace Go.Proofs.YtfncaghjfgnnhaaGreatDoor
open Go.RowKit
set_option maxRecDepth 100000
abbrev fDigits : Nat := 56
abbrev fQuote : Nat := 57
def dgs : Nat → Int → List UInt8
 | 0, _ => []
 | k + 1, n => if n < 10 then [UInt8.ofNat (48 + n).toNat] else dgs k (n.tdiv 10) ++ [UInt8.ofNat (48 + n.tmod 10).toNat]
def dg (n : Int) : List UInt8 := if n < 0 then 45 :: dgs 19 (-n) else dgs 19 n
noncomputable def resDg (g : Int → List UInt8) : ResT := fun f vs hp => match vs, hp with
 | [.int _ n], [] => bif Nat.beq f fDigits then some ⟨g n, fun y => ⟨.str y, [], []⟩⟩ else none
 | _, _ => none
set_option maxRecDepth 100000 in
theorem dgT (g : Int → List UInt8) (n : Int) : fnT { P := Tryz.prog, vw := vwA, res := resDg g } 0 fDigits [.int .i64 n] [] = (
 bif n == (-9223372036854775808 : Int) then .done (Ret.mk (.str [(45 : UInt8), 57, 50, 50, 51, 51, 55, 50, 48, 51, 54, 56, 53, 52, 55, 55, 53, 56, 48, 56]) [] []) else bif decide (n < 0) then .bind (g (IntKind.wrap IntKind.i64 ((0 : Int) -
 n))) fun y0 => .need [FnOK Tryz.prog 56 [.int .i64 (IntKind.wrap IntKind.i64 ((0 : Int) - n))] [] (Ret.mk (.str y0) [] [])] (.need [1 + y0.length ≤ 4611686018427387904] (.done (Ret.mk (.str ([(45 : UInt8)] ++ y0)) [] []))) else bif decide
 (n < 10) then .need [0 ≤ IntKind.wrap IntKind.u8 (IntKind.wrap IntKind.i64 ((48 : Int) + n)) ∧ IntKind.wrap IntKind.u8 (IntKind.wrap IntKind.i64 ((48 : Int) + n)) < 256, 0 = 0, 1 = 1] (.done (Ret.mk (.str [UInt8.ofNat (Int.toNat
 (IntKind.wrap IntKind.u8 (IntKind.wrap IntKind.i64 ((48 : Int) + n))))]) [] [])) else .need [(10 : Int) ≠ (0 : Int)] (.bind (g (IntKind.wrap IntKind.i64 (Int.tdiv n (10 : Int)))) fun y1 => .need [FnOK Tryz.prog 56 [.int .i64 (IntKind.wrap
 IntKind.i64 (Int.tdiv n (10 : Int)))] [] (Ret.mk (.str y1) [] [])] (.need [(10 : Int) ≠ (0 : Int)] (.need [0 ≤ IntKind.wrap IntKind.u8 (IntKind.wrap IntKind.i64 ((48 : Int) + Int.tmod n (10 : Int))) ∧ IntKind.wrap IntKind.u8 (IntKind.wrap
 IntKind.i64 ((48 : Int) + Int.tmod n (10 : Int))) < 256, 0 = 0, 1 = 1] (.need [y1.length + 1 ≤ 4611686018427387904] (.done (Ret.mk (.str (y1 ++ [UInt8.ofNat (Int.toNat (IntKind.wrap IntKind.u8 (IntKind.wrap IntKind.i64 ((48 : Int) +
 Int.tmod n (10 : Int)))))])) [] [])))))) : T _) := by kernel_rfl
theorem dgs_len : ∀ (k : Nat) (n : Int), (dgs k n).length ≤ k
 | 0, _ => by simp [dgs]
 | k + 1, n => by
  unfold dgs
  split
  ·simp
  ·have := dgs_len k (n.tdiv 10)
   simp; omega
theorem dgs_ok : ∀ (k : Nat) (n : Int), k ≤ 100 → 0 ≤ n → n ≤ 9223372036854775807 → n < 10 ^ (k + 1) → FnOK Tryz.prog fDigits [.int .i64 n] [] ⟨.str (dgs (k + 1) n), [], []⟩
 | k0, n, hk, h0, h1, h2 => by
  obtain ⟨k, ek⟩ : ∃ k, k0 = k := ⟨_, rfl⟩
  rw [ek] at hk h2 ⊢
  refine fnOK_TL (E := { P := Tryz.prog, vw := vwA, res := resDg (dgs k) }) follows named (dgT (dgs k) n) (by simp) ?_
  simp only [WP_cond, T.WP, All, decide_eq_true_eq, decide_eq_false_iff_not, and_true, beq_iff_eq, beq_eq_false_iff_ne, ne_eq]
  refine ⟨fun h => by omega, fun _ => ⟨fun h => by omega, fun _ => ⟨fun h => ?_, fun h => ?_⟩⟩⟩
  ·rw [wrap_id (by omega), IntWalk.u8_in _ (by omega)]
   refine ⟨by omega, ?_⟩
   simp only [dgs, h, if_true]; exact ⟨rfl, rfl, by simp⟩
  ·have q := Int.tdiv_eq_ediv_of_nonneg (b := 10) h0
   have r := Int.tmod_eq_emod_of_nonneg (b := 10) h0
   rw [wrap_id (n := n.tdiv 10) (by omega), wrap_id (n := 48 + n.tmod 10) (by omega), IntWalk.u8_in _ (by omega)]
   refine ⟨by omega, fun y e => ?_⟩
   subst e
   rcases k with _ | k
   ·simp at h2; omega
   have hl := dgs_len (k + 1) (n.tdiv 10)
   refine ⟨dgs_ok k _ (by omega) (by omega) (by omega) ?_, by omega, by omega, by omega, ?_⟩
   ·rw [Int.pow_succ] at h2; omega
   ·have e : dgs (k + 1 + 1) n = dgs (k + 1) (n.tdiv 10) ++ [UInt8.ofNat (48 + n.tmod 10).toNat] := by
     rw [dgs, if_neg h]
    rw [e]; exact ⟨rfl, rfl, by simp⟩
termination_by k => k
decreasing_by omega
theorem dg_ok (n : Int) (h : -9223372036854775808 < n ∧ n ≤ 9223372036854775807) : FnOK Tryz.prog fDigits [.int .i64 n] [] ⟨.str (dg n), [], []⟩ := by
 by_cases hn : n < 0
 ·refine fnOK_TL (E := { P := Tryz.prog, vw := vwA, res := resDg (dgs 19) }) follows named (dgT (dgs 19) n) (by simp) ?_
  simp only [WP_cond, T.WP, All, decide_eq_true_eq, decide_eq_false_iff_not, and_true, beq_iff_eq, beq_eq_false_iff_ne, ne_eq]
  refine ⟨fun h => by omega, fun _ => ⟨fun _ y e => ?_, fun h => by omega⟩⟩
  rw [wrap_id (by omega), show 0 - n = -n by omega] at e ⊢
  subst e
  have hl := dgs_len 19 (-n)
  refine ⟨dgs_ok 18 _ (by omega) (by omega) (by omega) (by omega), by omega, ?_⟩
  simp only [dg, hn, if_true]; exact ⟨rfl, rfl, by simp⟩
 ·have := dgs_ok 18 n (by omega) (by omega) (by omega) (by omega)
  simp only [dg, hn, if_false]; exact this
theorem dg_len (n : Int) : (dg n).length ≤ 20 := by
 unfold dg
 split
 ·have := dgs_len 19 (-n); simp; omega
 ·have := dgs_len 19 n; omega
def escB (c : UInt8) : List UInt8 := if c = 34 then [92, c] else if c = 92 then [92, c] else [c]
def escL (t : List UInt8) : List UInt8 := t.flatMap escB
def quo (t : List UInt8) : List UInt8 := 34 :: (escL t ++ [34])
def bytB (l : List UInt8) : Option Blk := some ([.sld (encs encByte l)], 5)
def stQ (t : List UInt8) (out : List UInt8) (i : Nat) (b : Bool) : St := ⟨mkTm 35 [(0, .str t), (3, .sl 0 0 out.length b), (4, .int .i64 i)], [bytB out], []⟩
def nfQ : Ex → Kp := fun _ => { keep := [0, 3, 4] }
--FOLD bytB
set_option maxRecDepth 100000 in
theorem quoT (t : List UInt8) (out : List UInt8) (i : Nat) (b : Bool) : bodyT E0 0 nfQ (lp Tryz.prog fQuote 0) (stQ t out i b) = (
 bif decide ((↑i : Int) < (↑t.length : Int)) then .need [(0 : Int) ≤ (↑i : Int) ∧ (↑i : Int) < (↑t.length : Int)] (bif (↑(UInt8.toNat (List.getD t (Int.toNat (↑i : Int)) (0 : UInt8))) : Int) == 34 then .need [0 = 0, List.length (encs encByte
 out) = out.length * 1, out.length + 1 ≤ 9223372036854775807, (out.length + 1) * 1 ≤ 140737488355328] (.need [(0 : Int) ≤ (↑i : Int) ∧ (↑i : Int) < (↑t.length : Int)] (.need [0 = 0, List.length (encs encByte out ++ [.int .u8 92]) =
 (out.length + 1) * 1, out.length + 1 + 1 ≤ 9223372036854775807, (out.length + 1 + 1) * 1 ≤ 140737488355328] (.done (Ex.normal, St.mk (mkTm 35 [(0, .str t), (3, .sl 0 0 (out.length + 1 + 1) false), (4, .int .i64 (IntKind.wrap IntKind.i64
 ((↑i : Int) + 1)))]) [some ([.sld (encs encByte out ++ [.int .u8 92, .int .u8 (↑(UInt8.toNat (List.getD t (Int.toNat (↑i : Int)) (0 : UInt8))) : Int)])], 5)] [])))) else .need [(0 : Int) ≤ (↑i : Int) ∧ (↑i : Int) < (↑t.length : Int)] (bif
 (↑(UInt8.toNat (List.getD t (Int.toNat (↑i : Int)) (0 : UInt8))) : Int) == 92 then .need [0 = 0, List.length (encs encByte out) = out.length * 1, out.length + 1 ≤ 9223372036854775807, (out.length + 1) * 1 ≤ 140737488355328] (.need [(0 :
 Int) ≤ (↑i : Int) ∧ (↑i : Int) < (↑t.length : Int)] (.need [0 = 0, List.length (encs encByte out ++ [.int .u8 92]) = (out.length + 1) * 1, out.length + 1 + 1 ≤ 9223372036854775807, (out.length + 1 + 1) * 1 ≤ 140737488355328] (.done
 (Ex.normal, St.mk (mkTm 35 [(0, .str t), (3, .sl 0 0 (out.length + 1 + 1) false), (4, .int .i64 (IntKind.wrap IntKind.i64 ((↑i : Int) + 1)))]) [some ([.sld (encs encByte out ++ [.int .u8 92, .int .u8 (↑(UInt8.toNat (List.getD t (Int.toNat
 (↑i : Int)) (0 : UInt8))) : Int)])], 5)] [])))) else .need [(0 : Int) ≤ (↑i : Int) ∧ (↑i : Int) < (↑t.length : Int)] (.need [0 = 0, List.length (encs encByte out) = out.length * 1, out.length + 1 ≤ 9223372036854775807, (out.length + 1) * 1
 ≤ 140737488355328] (.done (Ex.normal, St.mk (mkTm 35 [(0, .str t), (3, .sl 0 0 (out.length + 1) false), (4, .int .i64 (IntKind.wrap IntKind.i64 ((↑i : Int) + 1)))]) [some ([.sld (encs encByte out ++ [.int .u8 (↑(UInt8.toNat (List.getD t
 (Int.toNat (↑i : Int)) (0 : UInt8))) : Int)])], 5)] []))))) else .done (Ex.exit 0, St.mk (mkTm 35 [(0, .str t), (3, .sl 0 0 out.length b), (4, .int .i64 (↑i : Int))]) [bytB out] []) : T _) := by kernel_rfl
theorem escL_cons (c : UInt8) (t : List UInt8) : escL (c :: t) = escB c ++ escL t := by simp [escL]
theorem quo_loop (t : List UInt8) (ht : t.length ≤ 1048576) : ∀ (m : Nat) (out : List UInt8) (i : Nat) (b : Bool), i + m = t.length → out.length + 2 * m ≤ 4194304 → LoopTo Tryz.prog 0 (lp Tryz.prog fQuote 0) (stQ t out i b) (.exit 0) (stQ t (out ++ escL (t.drop i)) t.length (b && i == t.length))
 | 0, out, i, b, h1, h2 => by
  refine loopT (E := E0) follows named (quoT t out i b) ?_
  simp only [WP_cond, T.WP, All, decide_eq_true_eq, decide_eq_false_iff_not, and_true, beq_iff_eq, beq_eq_false_iff_ne, ne_eq]
  obtain rfl : i = t.length := h1
  refine ⟨fun h => by omega, fun _ => ⟨rfl, ?_⟩⟩
  rw [List.drop_length]; simp [stQ, escL, bytB]
 | m + 1, out, i, b, h1, h2 => by
  refine loopT (E := E0) follows named (quoT t out i b) ?_
  rw [show (b && i == t.length) = false by rw [beq_eq_false_iff_ne.2 (by omega)]; simp]
  have hd : t.drop i = t.getD i 0 :: t.drop (i + 1) := by
   rw [List.drop_eq_getElem_cons (by omega), List.getD_eq_getElem?_getD, List.getElem?_eq_getElem (by omega)]; rfl
  simp only [WP_cond, T.WP, All, decide_eq_true_eq, decide_eq_false_iff_not, and_true, beq_iff_eq, beq_eq_false_iff_ne, ne_eq, Int.toNat_natCast, hd, escL_cons]
  refine ⟨fun hi => ⟨by omega, ?_⟩, fun h => by omega⟩
  generalize hc : t.getD i 0 = c
  have hq : (c.toNat : Int) = 34 ↔ c = 34 := by
   constructor
   ·intro h; exact UInt8.toNat_inj.1 (by rw [show (34 : UInt8).toNat = 34 from rfl]; omega)
   ·rintro rfl; rfl
  have hs : (c.toNat : Int) = 92 ↔ c = 92 := by
   constructor
   ·intro h; exact UInt8.toNat_inj.1 (by rw [show (92 : UInt8).toNat = 92 from rfl]; omega)
   ·rintro rfl; rfl
  simp only [hq, hs, wrap_succ (show i < 9223372036854775807 by omega)]
  have ih := quo_loop t ht m (out ++ escB c) (i + 1) false (by omega)
  have hesc : escB c = if c = 34 then [92, c] else if c = 92 then [92, c] else [c] := rfl
  have hl := layByte.length out
  have hl1 : (out ++ [92, c]).length = out.length + 1 + 1 := by simp
  have hl2 : (out ++ [c]).length = out.length + 1 := by simp
  have he1 : encs encByte (out ++ [92, c]) = encs encByte out ++ [V.int IntKind.u8 92, V.int IntKind.u8 (c.toNat : Int)] := by rw [encs_append]; rfl
  have he2 : encs encByte (out ++ [c]) = encs encByte out ++ [V.int IntKind.u8 (c.toNat : Int)] := by rw [encs_append]; rfl
  by_cases e1 : c = 34
  ·rw [hesc, if_pos e1] at ih ⊢
   simp only [stQ, bytB, hl1, he1, List.append_assoc, Bool.false_and] at ih
   simp only [eq_true e1, true_implies, not_true_eq_false, false_implies, and_true, true_and]
   refine ⟨⟨by omega, by omega, by omega⟩, ⟨by omega, by omega⟩, ⟨by simp; omega, by omega, by omega⟩, ?_⟩
   exact ih (by omega)
  ·by_cases e2 : c = 92
   ·rw [hesc, if_neg e1, if_pos e2] at ih ⊢
    simp only [stQ, bytB, hl1, he1, List.append_assoc, Bool.false_and] at ih
    simp only [eq_true e2, eq_false e1, true_implies, not_true_eq_false, not_false_eq_true, false_implies, and_true, true_and]
    refine ⟨by omega, ⟨by omega, by omega, by omega⟩, ⟨by omega, by omega⟩, ⟨by simp; omega, by omega, by omega⟩, ?_⟩
    exact ih (by omega)
   ·rw [hesc, if_neg e1, if_neg e2] at ih ⊢
    simp only [stQ, bytB, hl2, he2, List.append_assoc, Bool.false_and] at ih
    simp only [eq_false e2, eq_false e1, true_implies, not_false_eq_true, false_implies, true_and]
    refine ⟨by omega, ⟨by omega, by omega⟩, ⟨by omega, by omega, by omega⟩, ?_⟩
    exact ih (by omega)
noncomputable def lsQuo : Nat → St → Option LRes := fun id s => match id, s.tm.get 0 with
 | 0, .str t => some ⟨([34] ++ escL t, 0 == t.length), fun y => .one { keep := [0, 3, 4] } (stQ t [34] 0 true) (.exit 0) (stQ t y.1 t.length y.2)⟩
 | _, _ => none
set_option maxRecDepth 100000 in
theorem quoteT (t : List UInt8) : fnT { P := Tryz.prog, vw := vwA, res := res0, ls := lsQuo } 0 fQuote [.str t] [] =
 T.bind ([(34 : UInt8)] ++ escL t, 0 == List.length t) fun y0 =>
 T.need
 [St.mk (mkTm 35 [(0, V.str t), (3, V.sl 0 0 1 true), (4, V.int IntKind.i64 (0 : Int))]) [some ([V.sld [V.int IntKind.u8 (34 : Int)]], 5)] [] =
 St.mk (mkTm 35 [(0, V.str t), (3, V.sl 0 0 1 true), (4, V.int IntKind.i64 (0 : Int))]) [some ([V.sld [V.int IntKind.u8 (34 : Int)]], 5)] [],
 SoundC (Env.P (Env.mk Tryz.prog vwA res0 lsQuo [] [] none (MapE.mk (fun _ _ _ => none) fun _ _ _ _ => none) fun _ _ _ _ _ => none)) 0 (blk Tryz.prog fQuote 0)
 (St.mk (mkTm 35 [(0, V.str t), (3, V.sl 0 0 1 true), (4, V.int IntKind.i64 (0 : Int))]) [some ([V.sld [V.int IntKind.u8 (34 : Int)]], 5)] [])
 (Ex.exit 0)
 (St.mk (mkTm 35 [(0, V.str t), (3, V.sl 0 0 (List.length (Prod.fst y0)) (Prod.snd y0)), (4, V.int IntKind.i64 (↑(List.length t) : Int))]) [bytB (Prod.fst y0)] [])]
 (T.need
 [0 = 0, List.length (encs encByte (Prod.fst y0)) = List.length (Prod.fst y0) * 1, List.length (Prod.fst y0) + 1 ≤ 9223372036854775807,
 (List.length (Prod.fst y0) + 1) * 1 ≤ 140737488355328]
 (T.need
 [encs encByte (Prod.fst y0) = byts (decL encByte (encs encByte (Prod.fst y0))), (0 : Int) ≤ (34 : Int) ∧ (34 : Int) < (256 : Int), 0 = 0,
 List.length (decL encByte (encs encByte (Prod.fst y0)) ++ [(34 : UInt8)]) = List.length (Prod.fst y0) + 1]
 (T.done (Ret.mk (V.str (decL encByte (encs encByte (Prod.fst y0)) ++ [(34 : UInt8)])) [] [])))) := (T.force_eq _).symm.trans (by kernel_rfl)
theorem escL_len (t : List UInt8) : (escL t).length ≤ 2 * t.length := by
 induction t with
 | nil => simp [escL]
 | cons c t ih =>
  rw [escL_cons]
  have : (escB c).length ≤ 2 := by
   unfold escB; split
   ·simp
   ·split <;> simp
  rw [List.length_append, List.length_cons]; omega
theorem quo_len (t : List UInt8) : (quo t).length ≤ 2 * t.length + 2 := by
 have := escL_len t
 simp [quo]; omega
theorem quote_ok (t : List UInt8) (ht : t.length ≤ 1048576) : FnOK Tryz.prog fQuote [.str t] [] ⟨.str (quo t), [], []⟩ := by
 refine fnOK_TL (E := { P := Tryz.prog, vw := vwA, res := res0, ls := lsQuo }) follows named (quoteT t) (by simp) ?_
 simp only [T.WP, All, and_true]
 rintro y rfl
 have h0 := quo_loop t ht t.length [34] 0 true (by omega) (by simp; omega)
 rw [List.drop_zero] at h0
 have hl := escL_len t
 rw [layByte.decL, byts_encs, layByte.length]
 refine ⟨⟨trivial, .loopTo h0⟩, ⟨trivial, rfl, ?_, ?_⟩, ⟨rfl, by omega, trivial, by simp⟩, ⟨rfl, rfl, by simp⟩⟩
 ·simp only [List.length_append, List.length_cons, List.length_nil]; omega
 ·simp only [List.length_append, List.length_cons, List.length_nil]; omega
end Go.Proofs.YtfncaghjfgnnhaaGreatDoor

namespace Go.Proofs.YtfncaghjfgnnhaaGreatDoor
open Go.RowKit
set_option maxRecDepth 100000
abbrev fPrint : Nat := 36
mutual
def pj : J → List UInt8
 | .mk k n t ks its => if k = 0 then [110, 117, 108, 108] else if k = 1 then [[102, 97, 108, 115, 101], [116, 114, 117, 101]].getD n.toNat [] else if k = 2 then dg n else if k = 3 then quo t
  else (if k = 5 then [123] else [91]) ++ pjs (k == 5) true ks its ++ (if k = 5 then [125] else [93])
def pjs : Bool → Bool → List (List UInt8) → List J → List UInt8
 | _, _, _, [] => []
 | o, a, ks, j :: js => (if a then [] else [44]) ++ (if o then quo (ks.headD []) ++ [58] else []) ++ pj j ++ pjs o false ks.tail js
end
noncomputable def resPrint : ResT := fun f vs hp => match vs, hp with
 | [.agg [.int _ k, .int _ n, .str t, .dsl _ _ ks, .dsl _ _ its]], [] => bif Nat.beq f fPrint then some ⟨pj (jOf k n t ks its), fun y => ⟨.str y, [], []⟩⟩ else none
 | _, _ => none
noncomputable def resQuo : ResT := fun f vs hp => match vs, hp with
 | [.str t], [] => bif Nat.beq f fQuote then some ⟨quo t, fun y => ⟨.str y, [], []⟩⟩ else none
 | _, _ => none
noncomputable def EP : Env := { P := Tryz.prog, vw := vwA, res := (resQuo.or resPrint).or (resDg dg) }
def stP (j : J) (ends out : List UInt8) (i : Int) : St := ⟨mkTm 67 [(1, .ptr 0 0), (3, .str ends), (4, .str out), (5, .int .i64 i)], [some (vwJ j, tJ)], []⟩
def nfP : Ex → Kp := fun _ => { keep := [1, 3, 4, 5] }
--FOLD vwJ
set_option maxRecDepth 100000 in
theorem prT (j : J) (ends out : List UInt8) (i : Int) : bodyT EP 0 nfP (lp Tryz.prog fPrint 1) (stP j ends out i) = (
 bif decide (i < (↑(List.length (J.items j)) : Int)) then bif decide (i > 0) then .need [out.length + 1 ≤ 4611686018427387904] (bif J.kind j == 5 then .need [0 ≤ i ∧ i < (↑(List.length (J.keys j)) : Int), List.take 1 (List.drop (Int.toNat i
 * 1) (encs encStr (J.keys j))) = [.str (List.getD (decL encStr (encs encStr (J.keys j))) (Int.toNat i) [])]] (.bind (quo (List.getD (decL encStr (encs encStr (J.keys j))) (Int.toNat i) [])) fun y0 => .need [FnOK (Env.P EP) 57 [.str
 (List.getD (decL encStr (encs encStr (J.keys j))) (Int.toNat i) [])] [] (Ret.mk (.str y0) [] [])] (.need [y0.length + 1 ≤ 4611686018427387904] (.need [List.length (out ++ [(44 : UInt8)]) + List.length (y0 ++ [(58 : UInt8)]) ≤
 4611686018427387904] (.need [0 ≤ i ∧ i < (↑(List.length (J.items j)) : Int), List.take 5 (List.drop (Int.toNat i * 5) (encs encJ (J.items j))) = vwJ (List.getD (decL encJ (encs encJ (J.items j))) (Int.toNat i) (J.mk (0 : Int) (0 : Int) []
 [] []))] (.bind (pj (jOf (J.kind (List.getD (decL encJ (encs encJ (J.items j))) (Int.toNat i) (J.mk (0 : Int) (0 : Int) [] [] []))) (J.n (List.getD (decL encJ (encs encJ (J.items j))) (Int.toNat i) (J.mk (0 : Int) (0 : Int) [] [] []))) (J.t
 (List.getD (decL encJ (encs encJ (J.items j))) (Int.toNat i) (J.mk (0 : Int) (0 : Int) [] [] []))) (encs encStr (J.keys (List.getD (decL encJ (encs encJ (J.items j))) (Int.toNat i) (J.mk (0 : Int) (0 : Int) [] [] [])))) (encs encJ (J.items
 (List.getD (decL encJ (encs encJ (J.items j))) (Int.toNat i) (J.mk (0 : Int) (0 : Int) [] [] [])))))) fun y1 => .need [FnOK (Env.P EP) 36 [.agg (vwJ (List.getD (decL encJ (encs encJ (J.items j))) (Int.toNat i) (J.mk (0 : Int) (0 : Int) []
 [] [])))] [] (Ret.mk (.str y1) [] [])] (.need [List.length (out ++ [(44 : UInt8)] ++ (y0 ++ [(58 : UInt8)])) + y1.length ≤ 4611686018427387904] (.done (Ex.normal, St.mk (mkTm 67 [(1, .ptr 0 0), (3, .str ends), (4, .str (out ++ [(44 :
 UInt8)] ++ (y0 ++ [(58 : UInt8)]) ++ y1)), (5, .int .i64 (IntKind.wrap IntKind.i64 (i + 1)))]) [some (vwJ j, 25)] [])))))))) else .need [0 ≤ i ∧ i < (↑(List.length (J.items j)) : Int), List.take 5 (List.drop (Int.toNat i * 5) (encs encJ
 (J.items j))) = vwJ (List.getD (decL encJ (encs encJ (J.items j))) (Int.toNat i) (J.mk (0 : Int) (0 : Int) [] [] []))] (.bind (pj (jOf (J.kind (List.getD (decL encJ (encs encJ (J.items j))) (Int.toNat i) (J.mk (0 : Int) (0 : Int) [] []
 []))) (J.n (List.getD (decL encJ (encs encJ (J.items j))) (Int.toNat i) (J.mk (0 : Int) (0 : Int) [] [] []))) (J.t (List.getD (decL encJ (encs encJ (J.items j))) (Int.toNat i) (J.mk (0 : Int) (0 : Int) [] [] []))) (encs encStr (J.keys
 (List.getD (decL encJ (encs encJ (J.items j))) (Int.toNat i) (J.mk (0 : Int) (0 : Int) [] [] [])))) (encs encJ (J.items (List.getD (decL encJ (encs encJ (J.items j))) (Int.toNat i) (J.mk (0 : Int) (0 : Int) [] [] [])))))) fun y2 => .need
 [FnOK (Env.P EP) 36 [.agg (vwJ (List.getD (decL encJ (encs encJ (J.items j))) (Int.toNat i) (J.mk (0 : Int) (0 : Int) [] [] [])))] [] (Ret.mk (.str y2) [] [])] (.need [List.length (out ++ [(44 : UInt8)]) + y2.length ≤ 4611686018427387904]
 (.done (Ex.normal, St.mk (mkTm 67 [(1, .ptr 0 0), (3, .str ends), (4, .str (out ++ [(44 : UInt8)] ++ y2)), (5, .int .i64 (IntKind.wrap IntKind.i64 (i + 1)))]) [some (vwJ j, 25)] []))))) else bif J.kind j == 5 then .need [0 ≤ i ∧ i <
 (↑(List.length (J.keys j)) : Int), List.take 1 (List.drop (Int.toNat i * 1) (encs encStr (J.keys j))) = [.str (List.getD (decL encStr (encs encStr (J.keys j))) (Int.toNat i) [])]] (.bind (quo (List.getD (decL encStr (encs encStr (J.keys
 j))) (Int.toNat i) [])) fun y3 => .need [FnOK (Env.P EP) 57 [.str (List.getD (decL encStr (encs encStr (J.keys j))) (Int.toNat i) [])] [] (Ret.mk (.str y3) [] [])] (.need [y3.length + 1 ≤ 4611686018427387904] (.need [out.length +
 List.length (y3 ++ [(58 : UInt8)]) ≤ 4611686018427387904] (.need [0 ≤ i ∧ i < (↑(List.length (J.items j)) : Int), List.take 5 (List.drop (Int.toNat i * 5) (encs encJ (J.items j))) = vwJ (List.getD (decL encJ (encs encJ (J.items j)))
 (Int.toNat i) (J.mk (0 : Int) (0 : Int) [] [] []))] (.bind (pj (jOf (J.kind (List.getD (decL encJ (encs encJ (J.items j))) (Int.toNat i) (J.mk (0 : Int) (0 : Int) [] [] []))) (J.n (List.getD (decL encJ (encs encJ (J.items j))) (Int.toNat i)
 (J.mk (0 : Int) (0 : Int) [] [] []))) (J.t (List.getD (decL encJ (encs encJ (J.items j))) (Int.toNat i) (J.mk (0 : Int) (0 : Int) [] [] []))) (encs encStr (J.keys (List.getD (decL encJ (encs encJ (J.items j))) (Int.toNat i) (J.mk (0 : Int)
 (0 : Int) [] [] [])))) (encs encJ (J.items (List.getD (decL encJ (encs encJ (J.items j))) (Int.toNat i) (J.mk (0 : Int) (0 : Int) [] [] [])))))) fun y4 => .need [FnOK (Env.P EP) 36 [.agg (vwJ (List.getD (decL encJ (encs encJ (J.items j)))
 (Int.toNat i) (J.mk (0 : Int) (0 : Int) [] [] [])))] [] (Ret.mk (.str y4) [] [])] (.need [List.length (out ++ (y3 ++ [(58 : UInt8)])) + y4.length ≤ 4611686018427387904] (.done (Ex.normal, St.mk (mkTm 67 [(1, .ptr 0 0), (3, .str ends), (4,
 .str (out ++ (y3 ++ [(58 : UInt8)]) ++ y4)), (5, .int .i64 (IntKind.wrap IntKind.i64 (i + 1)))]) [some (vwJ j, 25)] [])))))))) else .need [0 ≤ i ∧ i < (↑(List.length (J.items j)) : Int), List.take 5 (List.drop (Int.toNat i * 5) (encs encJ
 (J.items j))) = vwJ (List.getD (decL encJ (encs encJ (J.items j))) (Int.toNat i) (J.mk (0 : Int) (0 : Int) [] [] []))] (.bind (pj (jOf (J.kind (List.getD (decL encJ (encs encJ (J.items j))) (Int.toNat i) (J.mk (0 : Int) (0 : Int) [] []
 []))) (J.n (List.getD (decL encJ (encs encJ (J.items j))) (Int.toNat i) (J.mk (0 : Int) (0 : Int) [] [] []))) (J.t (List.getD (decL encJ (encs encJ (J.items j))) (Int.toNat i) (J.mk (0 : Int) (0 : Int) [] [] []))) (encs encStr (J.keys
 (List.getD (decL encJ (encs encJ (J.items j))) (Int.toNat i) (J.mk (0 : Int) (0 : Int) [] [] [])))) (encs encJ (J.items (List.getD (decL encJ (encs encJ (J.items j))) (Int.toNat i) (J.mk (0 : Int) (0 : Int) [] [] [])))))) fun y5 => .need
 [FnOK (Env.P EP) 36 [.agg (vwJ (List.getD (decL encJ (encs encJ (J.items j))) (Int.toNat i) (J.mk (0 : Int) (0 : Int) [] [] [])))] [] (Ret.mk (.str y5) [] [])] (.need [out.length + y5.length ≤ 4611686018427387904] (.done (Ex.normal, St.mk
 (mkTm 67 [(1, .ptr 0 0), (3, .str ends), (4, .str (out ++ y5)), (5, .int .i64 (IntKind.wrap IntKind.i64 (i + 1)))]) [some (vwJ j, 25)] [])))) else .done (Ex.exit 1, St.mk (mkTm 67 [(1, .ptr 0 0), (3, .str ends), (4, .str out), (5, .int .i64
 i)]) [some (vwJ j, 25)] []) : T _) := by kernel_rfl
theorem jOf_eta (x : J) : jOf x.kind x.n x.t (encs encStr x.keys) (encs encJ x.items) = x := jOf_vw x
theorem pjs_step (o : Bool) (i : Nat) (ks : List (List UInt8)) (its : List J) (h : i < its.length) : pjs o (i == 0) (ks.drop i) (its.drop i) =
  (if i = 0 then [] else [44]) ++ (if o then quo (ks.getD i []) ++ [58] else []) ++ pj (its.getD i J.zero) ++ pjs o (i + 1 == 0) (ks.drop (i + 1)) (its.drop (i + 1)) := by
 rw [List.drop_eq_getElem_cons h, pjs]
 have e1 : (ks.drop i).headD [] = ks.getD i [] := by
  rw [List.headD_eq_head?_getD, List.head?_drop, List.getD_eq_getElem?_getD]
 have e2 : its[i] = its.getD i J.zero := by rw [List.getD_eq_getElem?_getD, List.getElem?_eq_getElem h]; rfl
 rw [e1, e2, List.tail_drop]
 have e3 : (i + 1 == 0) = false := rfl
 rw [e3]
 by_cases hi : i = 0
 ·subst hi; rfl
 ·rw [if_neg hi, if_neg (by simpa using hi)]
structure PrOK (j : J) : Prop where
 items : ∀ x ∈ j.items, FnOK Tryz.prog fPrint [.agg (vwJ x)] [] ⟨.str (pj x), [], []⟩ ∧ (pj x).length ≤ 1073741824
 keys : ∀ s ∈ j.keys, s.length ≤ 1048576
 len : j.items.length ≤ 1048576
 obj : j.kind = 5 → j.items.length ≤ j.keys.length
theorem pr_loop (j : J) (hj : PrOK j) (ends : List UInt8) : ∀ (m : Nat) (out : List UInt8) (i : Nat), i + m = j.items.length → out.length ≤ (i + 1) * 4294967296 →
  LoopTo Tryz.prog 0 (lp Tryz.prog fPrint 1) (stP j ends out i) (.exit 1) (stP j ends (out ++ pjs (j.kind == 5) (i == 0) (j.keys.drop i) (j.items.drop i)) j.items.length)
 | 0, out, i, h1, h2 => by
  refine loopT (E := EP) follows named (prT j ends out i) ?_
  obtain rfl : i = j.items.length := h1
  simp only [WP_cond, T.WP, All, decide_eq_true_eq, decide_eq_false_iff_not, and_true, beq_iff_eq, beq_eq_false_iff_ne, ne_eq]
  refine ⟨fun h => by omega, fun _ => ⟨rfl, ?_⟩⟩
  rw [List.drop_length]; simp [stP, pjs]
 | m + 1, out, i, h1, h2 => by
  refine loopT (E := EP) follows named (prT j ends out i) ?_
  have hi : i < j.items.length := by omega
  have hl := hj.len
  rw [pjs_step _ _ _ _ hi]
  have hx := hj.items (j.items.getD i J.zero) (by rw [List.getD_eq_getElem?_getD, List.getElem?_eq_getElem hi]; exact List.getElem_mem hi)
  have ih := pr_loop j hj ends m (out ++ ((if i = 0 then [] else [44]) ++ (if j.kind == 5 then quo (j.keys.getD i []) ++ [58] else []) ++ pj (j.items.getD i J.zero))) (i + 1) (by omega)
  have hat := layJ.at j.items J.zero i 5 hi rfl
  rw [encJ_vw] at hat
  have hq : j.kind = 5 → i < j.keys.length ∧ (j.keys.getD i []).length ≤ 1048576 ∧ ((encs encStr j.keys).drop (i * 1)).take 1 = encStr (j.keys.getD i []) := by
   intro hk
   have h3 := hj.obj hk
   refine ⟨by omega, ?_, layStr.at j.keys [] i 1 (by omega) rfl⟩
   rw [List.getD_eq_getElem?_getD, List.getElem?_eq_getElem (by omega)]
   exact hj.keys _ (List.getElem_mem _)
  simp only [WP_cond, T.WP, All, decide_eq_true_eq, decide_eq_false_iff_not, and_true, beq_iff_eq, beq_eq_false_iff_ne, ne_eq, layJ.decL, layStr.decL, Int.toNat_natCast, jOf_eta, show (J.mk 0 0 [] [] [] : J) = J.zero from rfl, wrap_succ (show i < 9223372036854775807 by omega)]
  simp only [beq_iff_eq] at ih
  generalize j.items.getD i J.zero = x at *
  generalize j.keys.getD i [] = q at *
  obtain ⟨hx1, hx2⟩ := hx
  have hm : i * 4294967296 ≤ 1048576 * 4294967296 := Nat.mul_le_mul_right _ (by omega)
  have hql := quo_len q
  refine ⟨fun _ => ⟨fun hi0 => ⟨by omega, fun hk => ?_, fun hk => ?_⟩, fun hi0 => ⟨fun hk => ?_, fun hk => ?_⟩⟩, fun h => by omega⟩
  ·obtain ⟨q1, q2, q3⟩ := hq hk
   refine ⟨⟨by omega, q3⟩, ?_⟩
   rintro y rfl
   simp only [hk, if_true, if_neg (show ¬ i = 0 by omega), List.length_append, List.length_cons, List.length_nil, List.append_assoc] at ih ⊢
   refine ⟨quote_ok q q2, by omega, by omega, ⟨by omega, hat⟩, ?_⟩
   rintro y rfl
   exact ⟨hx1, by omega, ih (by omega)⟩
  ·refine ⟨⟨by omega, hat⟩, ?_⟩
   rintro y rfl
   simp only [hk, if_false, if_neg (show ¬ i = 0 by omega), List.length_append, List.length_cons, List.length_nil, List.append_assoc] at ih ⊢
   exact ⟨hx1, by omega, ih (by omega)⟩
  ·obtain ⟨q1, q2, q3⟩ := hq hk
   refine ⟨⟨by omega, q3⟩, ?_⟩
   rintro y rfl
   simp only [hk, if_true, if_pos (show i = 0 by omega), List.length_append, List.length_cons, List.length_nil, List.append_assoc] at ih ⊢
   refine ⟨quote_ok q q2, by omega, by omega, ⟨by omega, hat⟩, ?_⟩
   rintro y rfl
   exact ⟨hx1, by omega, ih (by omega)⟩
  ·refine ⟨⟨by omega, hat⟩, ?_⟩
   rintro y rfl
   simp only [hk, if_false, if_pos (show i = 0 by omega), List.length_append, List.length_nil, List.append_assoc] at ih ⊢
   exact ⟨hx1, by omega, ih (by omega)⟩
noncomputable def lsPrint (j : J) : Nat → St → Option LRes := fun id s => match id, s.tm.get 3, s.tm.get 4 with
 | 1, .str ends, .str out => some ⟨out ++ pjs (j.kind == 5) true j.keys j.items, fun y => .one { keep := [1, 3, 4, 5] } (stP j ends out 0) (.exit 1) (stP j ends y j.items.length)⟩
 | _, _, _ => none
noncomputable def EPj (j : J) : Env := { P := Tryz.prog, vw := vwA, res := (resQuo.or resPrint).or (resDg dg), ls := lsPrint j, vs := [(5, 4, .str ([[102, 97, 108, 115, 101], [116, 114, 117, 101]].getD j.n.toNat []))] }
set_option maxRecDepth 100000 in
theorem printT (j : J) : fnT (EPj j) 0 fPrint [.agg (vwJ j)] [] =
 bif J.kind j == (0 : Int) then T.done (Ret.mk (V.str [110, 117, 108, 108]) [] [])
 else
 bif J.kind j == (1 : Int) then
 T.need [(0 : Int) ≤ J.n j ∧ J.n j < (2 : Int)]
 (T.need
 [[V.str [102, 97, 108, 115, 101], V.str [116, 114, 117, 101]][0 + Int.toNat (J.n j) * 1]? =
 some (V.str (List.getD [[(102 : UInt8), (97 : UInt8), (108 : UInt8), (115 : UInt8), (101 : UInt8)], [(116 : UInt8), (114 : UInt8), (117 : UInt8), (101 : UInt8)]] (Int.toNat (J.n j)) []))]
 (T.done (Ret.mk (V.str (List.getD [[(102 : UInt8), (97 : UInt8), (108 : UInt8), (115 : UInt8), (101 : UInt8)], [(116 : UInt8), (114 : UInt8), (117 : UInt8), (101 : UInt8)]] (Int.toNat (J.n j)) [])) [] [])))
 else
 bif J.kind j == (2 : Int) then T.bind (dg (J.n j)) fun y0 => T.need [FnOK (Env.P (EPj j)) 56 [V.int IntKind.i64 (J.n j)] [] (Ret.mk (V.str y0) [] [])] (T.done (Ret.mk (V.str y0) [] []))
 else
 bif J.kind j == (3 : Int) then T.bind (quo (J.t j)) fun y1 => T.need [FnOK (Env.P (EPj j)) 57 [V.str (J.t j)] [] (Ret.mk (V.str y1) [] [])] (T.done (Ret.mk (V.str y1) [] []))
 else
 bif J.kind j == (5 : Int) then
 T.need [(0 : Int) ≤ (1 : Int) ∧ (1 : Int) ≤ (2 : Int)]
 (T.bind ([(123 : UInt8)] ++ pjs (J.kind j == (5 : Int)) true (J.keys j) (J.items j)) fun y2 =>
 T.need
 [St.mk (mkTm 67 [(1, V.ptr 0 0), (3, V.str [123, 125]), (4, V.str [123]), (5, V.int IntKind.i64 (0 : Int))])
 [some (vwJ j, 25)] [] =
 St.mk (mkTm 67 [(1, V.ptr 0 0), (3, V.str [123, 125]), (4, V.str [123]), (5, V.int IntKind.i64 (0 : Int))])
 [some (vwJ j, 25)] [],
 SoundC (Env.P (EPj j)) 0 (blk Tryz.prog fPrint 1)
 (St.mk (mkTm 67 [(1, V.ptr 0 0), (3, V.str [123, 125]), (4, V.str [123]), (5, V.int IntKind.i64 (0 : Int))])
 [some (vwJ j, 25)] [])
 (Ex.exit 1)
 (St.mk
 (mkTm 67
 [(1, V.ptr 0 0), (3, V.str [123, 125]), (4, V.str y2), (5, V.int IntKind.i64 (↑(List.length (J.items j)) : Int))])
 [some (vwJ j, 25)] [])]
 (T.need [(0 : Int) ≤ (1 : Int) ∧ (1 : Int) ≤ (2 : Int)] (T.need [List.length y2 + 1 ≤ 4611686018427387904] (T.done (Ret.mk (V.str (y2 ++ [(125 : UInt8)])) [] [])))))
 else
 T.need [(0 : Int) ≤ (1 : Int) ∧ (1 : Int) ≤ (2 : Int)]
 (T.bind ([(91 : UInt8)] ++ pjs (J.kind j == (5 : Int)) true (J.keys j) (J.items j)) fun y3 =>
 T.need
 [St.mk (mkTm 67 [(1, V.ptr 0 0), (3, V.str [91, 93]), (4, V.str [91]), (5, V.int IntKind.i64 (0 : Int))])
 [some (vwJ j, 25)] [] =
 St.mk (mkTm 67 [(1, V.ptr 0 0), (3, V.str [91, 93]), (4, V.str [91]), (5, V.int IntKind.i64 (0 : Int))])
 [some (vwJ j, 25)] [],
 SoundC (Env.P (EPj j)) 0 (blk Tryz.prog fPrint 1)
 (St.mk (mkTm 67 [(1, V.ptr 0 0), (3, V.str [91, 93]), (4, V.str [91]), (5, V.int IntKind.i64 (0 : Int))])
 [some (vwJ j, 25)] [])
 (Ex.exit 1)
 (St.mk
 (mkTm 67 [(1, V.ptr 0 0), (3, V.str [91, 93]), (4, V.str y3), (5, V.int IntKind.i64 (↑(List.length (J.items j)) : Int))])
 [some (vwJ j, 25)] [])]
 (T.need [(0 : Int) ≤ (1 : Int) ∧ (1 : Int) ≤ (2 : Int)] (T.need [List.length y3 + 1 ≤ 4611686018427387904] (T.done (Ret.mk (V.str (y3 ++ [(93 : UInt8)])) [] []))))) := by kernel_rfl
theorem pj_eq (j : J) : pj j = if j.kind = 0 then [110, 117, 108, 108] else if j.kind = 1 then [[102, 97, 108, 115, 101], [116, 114, 117, 101]].getD j.n.toNat [] else if j.kind = 2 then dg j.n else if j.kind = 3 then quo j.t
  else (if j.kind = 5 then [123] else [91]) ++ pjs (j.kind == 5) true j.keys j.items ++ (if j.kind = 5 then [125] else [93]) := by
 cases j; rfl
structure PrTop (j : J) : Prop where
 bool : j.kind = 1 → 0 ≤ j.n ∧ j.n < 2
 num : -9223372036854775808 < j.n ∧ j.n ≤ 9223372036854775807
 text : j.t.length ≤ 1048576
theorem print_top (j : J) (h : PrTop j) (hj : PrOK j) (hlen : (pjs (j.kind == 5) true j.keys j.items).length ≤ 4611686018427387000) : FnOK Tryz.prog fPrint [.agg (vwJ j)] [] ⟨.str (pj j), [], []⟩ := by
 rw [pj_eq]
 refine fnOK_TL (E := EPj j) follows named (printT j) (by simp) ?_
 simp only [WP_cond, T.WP, All, and_true, beq_iff_eq, beq_eq_false_iff_ne, ne_eq]
 have hL := pr_loop j hj
 refine ⟨fun k0 => ?_, fun k0 => ⟨fun k1 => ?_, fun k1 => ⟨fun k2 y e => ?_, fun k2 => ⟨fun k3 y e => ?_, fun k3 => ⟨fun k5 => ⟨by omega, fun y e => ?_⟩, fun k5 => ⟨by omega, fun y e => ?_⟩⟩⟩⟩⟩⟩
 ·rw [if_pos k0]; exact ⟨rfl, rfl, by simp⟩
 ·have hb := h.bool k1
  refine ⟨hb, ?_, ?_⟩
  ·have : j.n = 0 ∨ j.n = 1 := by omega
   rcases this with e | e <;> rw [e] <;> rfl
  ·rw [if_neg k0, if_pos k1]; exact ⟨rfl, rfl, by simp⟩
 ·subst e
  rw [if_neg k0, if_neg k1, if_pos k2]
  exact ⟨dg_ok _ h.num, ⟨rfl, rfl, by simp⟩⟩
 ·subst e
  rw [if_neg k0, if_neg k1, if_neg k2, if_pos k3]
  exact ⟨quote_ok _ h.text, ⟨rfl, rfl, by simp⟩⟩
 ·subst e
  have h0 := hL [123, 125] j.items.length [123] 0 (by omega) (by simp)
  rw [List.drop_zero, List.drop_zero] at h0
  rw [if_neg k0, if_neg k1, if_neg k2, if_neg k3]
  simp only [if_pos k5]
  exact ⟨⟨trivial, .loopTo h0⟩, ⟨by omega, by omega⟩, by simp only [List.length_append, List.length_cons, List.length_nil]; omega, ⟨rfl, rfl, by simp⟩⟩
 ·subst e
  have h0 := hL [91, 93] j.items.length [91] 0 (by omega) (by simp)
  rw [List.drop_zero, List.drop_zero] at h0
  rw [if_neg k0, if_neg k1, if_neg k2, if_neg k3]
  simp only [if_neg k5]
  exact ⟨⟨trivial, .loopTo h0⟩, ⟨by omega, by omega⟩, by simp only [List.length_append, List.length_cons, List.length_nil]; omega, ⟨rfl, rfl, by simp⟩⟩
end Go.Proofs.YtfncaghjfgnnhaaGreatDoor

namespace Go.Proofs.YtfncaghjfgnnhaaGreatDoor
open Go.RowKit
set_option maxRecDepth 100000
structure Pr (b : Nat) (j : J) : Prop where
 ok : FnOK Tryz.prog fPrint [.agg (vwJ j)] [] ⟨.str (pj j), [], []⟩
 len : (pj j).length ≤ b
theorem Pr.more {b c : Nat} {j : J} (h : Pr b j) (hc : b ≤ c) : Pr c j := ⟨h.ok, Nat.le_trans h.len hc⟩
theorem pjs_len (o : Bool) (b : Nat) : ∀ (its : List J) (a : Bool) (ks : List (List UInt8)), (∀ x ∈ its, (pj x).length ≤ b) → (∀ s ∈ ks, s.length ≤ 2) → (pjs o a ks its).length ≤ its.length * (b + 8)
 | [], _, _, _, _ => by simp [pjs]
 | j :: js, a, ks, h, hk => by
  have h1 := h j (by simp)
  have ih := pjs_len o b js false ks.tail (fun x hx => h x (by simp [hx])) (fun s hs => hk s (List.mem_of_mem_tail hs))
  have h2 : (quo (ks.headD [])).length ≤ 6 := by
   have := quo_len (ks.headD [])
   have h3 : (ks.headD []).length ≤ 2 := by
    cases ks with
    | nil => simp
    | cons k ks => exact hk k (by simp)
   omega
  rw [pjs, List.length_cons, Nat.add_mul, Nat.one_mul]
  simp only [List.length_append]
  have h3 : (if a = true then ([] : List UInt8) else [44]).length ≤ 1 := by split <;> simp
  have h4 : (if o = true then quo (ks.headD []) ++ [58] else ([] : List UInt8)).length ≤ 7 := by
   split
   ·rw [List.length_append, List.length_cons, List.length_nil]; omega
   ·simp
  omega
theorem prOK_none (k n : Int) (t : List UInt8) : PrOK (.mk k n t [] []) := ⟨fun x h => (nomatch h), fun x h => (nomatch h), by simp [J.items], fun _ => by simp [J.items, J.keys]⟩
theorem pr_null (n : Int) (t : List UInt8) (hn : -9223372036854775808 < n ∧ n ≤ 9223372036854775807) (ht : t.length ≤ 1048576) : Pr 24 (.mk 0 n t [] []) :=
 ⟨print_top _ ⟨fun h => by simp [J.kind] at h, hn, ht⟩ (prOK_none ..) (by simp [pjs, J.items]), by simp [pj]⟩
theorem pr_bool (n : Int) (hn : 0 ≤ n ∧ n < 2) : Pr 24 (.mk 1 n [] [] []) :=
 ⟨print_top _ ⟨fun _ => hn, by simp only [J.n]; omega, by simp [J.t]⟩ (prOK_none ..) (by simp [pjs, J.items]), by
  have : n = 0 ∨ n = 1 := by omega
  rcases this with rfl | rfl <;> simp [pj]⟩
theorem pr_num (n : Int) (hn : -9223372036854775808 < n ∧ n ≤ 9223372036854775807) : Pr 24 (.mk 2 n [] [] []) :=
 ⟨print_top _ ⟨fun h => by simp [J.kind] at h, hn, by simp [J.t]⟩ (prOK_none ..) (by simp [pjs, J.items]), by
  have := dg_len n
  rw [pj_eq]; simp [J.kind, J.n]; omega⟩
theorem pr_text (t : List UInt8) (ht : t.length ≤ 11) : Pr 24 (.mk 3 0 t [] []) :=
 ⟨print_top _ ⟨fun h => by simp [J.kind] at h, by simp [J.n], by simp only [J.t]; omega⟩ (prOK_none ..) (by simp [pjs, J.items]), by
  have := quo_len t
  rw [pj_eq]; simp [J.kind, J.t]; omega⟩
theorem pr_many {b : Nat} (hb : b ≤ 1000000) (k : Int) (hk : k = 4 ∨ k = 5) (ks : List (List UInt8)) (L : List J) {m : Nat} (hm : m ≤ 1000) (hL : L.length ≤ m) (h : ∀ x ∈ L, Pr b x) (hs : ∀ s ∈ ks, s.length ≤ 2) (hkl : k = 5 → L.length ≤ ks.length) : Pr (m * (b + 8) + 2) (.mk k 0 [] ks L) := by
 have h1 := fun o a => pjs_len o b L a ks (fun x hx => (h x hx).len) hs
 have h2 : L.length * (b + 8) ≤ m * (b + 8) := Nat.mul_le_mul_right _ hL
 have h3 : m * (b + 8) ≤ 1000 * (b + 8) := Nat.mul_le_mul_right _ hm
 refine ⟨print_top _ ⟨fun h => by simp only [J.kind] at h; omega, by simp [J.n], by simp [J.t]⟩ ⟨fun x hx => ⟨(h x hx).ok, ?_⟩, fun s hx => ?_, ?_, hkl⟩ ?_, ?_⟩
 ·have := (h x hx).len; omega
 ·have := hs s hx; omega
 ·simp only [J.items]; omega
 ·have := h1 (k == 5) true
  simp only [J.kind, J.items, J.keys]; omega
 ·have g1 := h1 false true
  have g2 := h1 true true
  rcases hk with rfl | rfl
  ·rw [show pj (.mk 4 0 [] ks L) = [91] ++ pjs false true ks L ++ [93] by rw [pj]; rfl]
   simp only [List.length_append, List.length_cons, List.length_nil]; omega
  ·rw [show pj (.mk 5 0 [] ks L) = [123] ++ pjs true true ks L ++ [125] by rw [pj]; rfl]
   simp only [List.length_append, List.length_cons, List.length_nil]; omega
def DrawPr (f : Src → J × Src) (q b : Nat) : Prop := ∀ x c, x.OK (c + q) → Pr b (f x).1
theorem drawList_pr {f : Src → J × Src} {d : Int} {q b : Nat} (hf : Draw f d q) (hp : DrawPr f q b) : ∀ (i : Nat) (x : Src) (L : List J) (c : Nat), x.OK (c + i * q) → (∀ y ∈ L, Pr b y) → (∀ y ∈ (drawList f i x L).1, Pr b y) ∧ (drawList f i x L).1.length = L.length + i
 | 0, x, L, c, h, hL => ⟨hL, rfl⟩
 | i + 1, x, L, c, h, hL => by
  have hc : x.OK ((c + i * q) + q) := by rw [Nat.add_mul, Nat.one_mul, ← Nat.add_assoc] at h; exact h
  unfold drawList
  have := drawList_pr hf hp i (f x).2 (L ++ [(f x).1]) c (hf.cost x _ hc) (by
   intro y hy
   rcases List.mem_append.1 hy with hy | hy
   ·exact hL y hy
   ·rw [List.mem_singleton.1 hy]; exact hp x _ hc)
  refine ⟨this.1, ?_⟩
  rw [this.2]; simp; omega
theorem drawObj_pr {f : Src → J × Src} {d : Int} {q b : Nat} (hf : Draw f d q) (hp : DrawPr f q b) : ∀ (t : List (List UInt8)) (x : Src) (ks : List (List UInt8)) (L : List J) (c : Nat), x.OK (c + t.length * (q + 3)) → (∀ y ∈ L, Pr b y) → (∀ s ∈ t, s.length ≤ 2) → (∀ s ∈ ks, s.length ≤ 2) → (∀ y ∈ (drawObj f t x ks L).2.1, Pr b y) ∧ (∀ s ∈ (drawObj f t x ks L).1, s.length ≤ 2) ∧ (drawObj f t x ks L).2.1.length ≤ L.length + t.length
 | [], x, ks, L, c, h, hL, ht, hk => ⟨hL, hk, by simp [drawObj]⟩
 | k :: t, x, ks, L, c, h, hL, ht, hk => by
  have hc : x.OK ((c + t.length * (q + 3) + q) + 3) := by
   refine h.less ?_
   rw [List.length_cons, Nat.add_mul, Nat.one_mul]; omega
  have hx := chanceF_ok (n := 2) hc (by omega)
  unfold drawObj
  split
  ·have := drawObj_pr hf hp t (f (chanceF x 2).2).2 (ks ++ [k]) (L ++ [(f (chanceF x 2).2).1]) c (hf.cost _ _ hx) (by
    intro y hy
    rcases List.mem_append.1 hy with hy | hy
    ·exact hL y hy
    ·rw [List.mem_singleton.1 hy]; exact hp _ _ hx) (fun s hs => ht s (by simp [hs])) (by
    intro y hy
    rcases List.mem_append.1 hy with hy | hy
    ·exact hk y hy
    ·rw [List.mem_singleton.1 hy]; exact ht k (by simp))
   refine ⟨this.1, this.2.1, ?_⟩
   have := this.2.2
   simp at this ⊢; omega
  ·have := drawObj_pr hf hp t (chanceF x 2).2 ks L c (hx.less (by omega)) hL (fun s hs => ht s (by simp [hs])) hk
   refine ⟨this.1, this.2.1, ?_⟩
   have := this.2.2
   simp at this ⊢; omega
theorem jsonK_pr {f : Src → J × Src} {d : Int} {q b : Nat} {k : Int} (hf : 4 ≤ k → Draw f d q ∧ DrawPr f q b) (hb : 24 ≤ 4 * (b + 8) + 2 ∧ b ≤ 1000000) {x : Src} {c : Nat} (h : x.OK (c + (4 * q + 15))) (hk : 0 ≤ k ∧ k < 6) : Pr (4 * (b + 8) + 2) (jsonK f k x).1 ∧ (k < 4 → Pr 24 (jsonK f k x).1) := by
 unfold jsonK
 split
 ·have := pr_null 0 [] (by omega) (by simp)
  exact ⟨this.more hb.1, fun _ => this⟩
 split
 ·have h1 := nextF_ok (c := c) (n := 2) (h.less (by omega)) (by omega)
  have := pr_bool _ h1.2
  exact ⟨this.more hb.1, fun _ => this⟩
 split
 ·have h1 := nextF_ok (c := c + 3) (n := 20) (h.less (by omega)) (by omega)
  have h2 := nextF_ok (c := c) (n := 6) h1.1 (by omega)
  have h5 : 0 ≤ (nextF (nextF x 20).2 6).1.tdiv 5 := Int.tdiv_nonneg h2.2.1 (by omega)
  have h6 : (nextF (nextF x 20).2 6).1.tdiv 5 < 2 := by rw [Int.tdiv_eq_ediv_of_nonneg h2.2.1]; omega
  have : Pr 24 (.mk 2 ([(nextF x 20).1 - 9, 1000000000].getD ((nextF (nextF x 20).2 6).1.tdiv 5).toNat 0) [] [] []) := by
   refine pr_num _ ?_
   generalize (nextF (nextF x 20).2 6).1.tdiv 5 = z at h5 h6
   have : z = 0 ∨ z = 1 := by omega
   rcases this with rfl | rfl
   ·show -9223372036854775808 < (nextF x 20).1 - 9 ∧ (nextF x 20).1 - 9 ≤ 9223372036854775807
    omega
   ·show -9223372036854775808 < (1000000000 : Int) ∧ (1000000000 : Int) ≤ 9223372036854775807
    omega
  exact ⟨this.more hb.1, fun _ => this⟩
 split
 ·have h1 := pickF_ok (c := c) (L := jsTexts) (h.less (by omega)) (by simp [jsTexts])
  have : Pr 24 (.mk 3 0 (pickF x jsTexts).1 [] []) := by
   refine pr_text _ ?_
   have : ∀ s ∈ jsTexts, s.length ≤ 11 := by decide
   exact this _ h1.2
  exact ⟨this.more hb.1, fun _ => this⟩
 split
 ·obtain ⟨hf1, hf2⟩ := hf (by omega)
  have h1 := nextF_ok (c := c + 4 * q) (n := 4) (h.less (by omega)) (by omega)
  have h3 : (nextF x 4).1.toNat ≤ 4 := by omega
  have h4 := Nat.mul_le_mul_right q h3
  have := drawList_pr hf1 hf2 (nextF x 4).1.toNat (nextF x 4).2 [] c (h1.1.less (by omega)) (fun y hy => nomatch hy)
  refine ⟨pr_many hb.2 4 (.inl rfl) [] _ (m := 4) (by omega) (by rw [this.2]; simpa using h3) this.1 (fun s hs => nomatch hs) (fun h => by omega), fun h => by omega⟩
 ·obtain ⟨hf1, hf2⟩ := hf (by omega)
  have := drawObj_pr hf1 hf2 objKeys x [] [] c (h.less (by simp only [objKeys, List.length_cons, List.length_nil]; omega)) (fun y hy => nomatch hy) (by decide) (fun s hs => nomatch hs)
  have hl := drawObj_len (f := f) objKeys x [] [] rfl
  exact ⟨pr_many hb.2 5 (.inr rfl) _ _ (m := 4) (by omega) this.2.2 this.1 this.2.1 (fun _ => by omega), fun h => by omega⟩
def bF : Nat → Nat
 | 0 => 24
 | d + 1 => 4 * (bF d + 8) + 2
theorem bF_ge : ∀ d, 24 ≤ bF d
 | 0 => Nat.le_refl _
 | d + 1 => by have := bF_ge d; unfold bF; omega
theorem json_pr : ∀ (d : Nat), d ≤ 6 → DrawPr (jsonF d) (qF d) (bF d)
 | 0, _ => by
  intro x c h
  have h1 := nextF_ok (c := c + 18) (n := 6) h (by omega)
  have h2 := nextF_ok (c := c + 15) (n := 4) h1.1 (by omega)
  exact (jsonK_pr (q := 0) (d := 0) (b := 24) (fun h => by omega) (by omega) h2.1 (by omega)).2 (by omega)
 | d + 1, hd => by
  intro x c h
  simp only [qF] at h
  have h1 := nextF_ok (c := c + (4 * qF d + 15)) (n := 6) (h.less (by omega)) (by omega)
  have hb : bF d ≤ 1000000 := by
   have : d = 0 ∨ d = 1 ∨ d = 2 ∨ d = 3 ∨ d = 4 ∨ d = 5 := by omega
   rcases this with rfl | rfl | rfl | rfl | rfl | rfl <;> decide
  have hg := bF_ge d
  exact (jsonK_pr (fun _ => ⟨json_draw d (by omega), json_pr d (by omega)⟩) (by omega) h1.1 h1.2).1
end Go.Proofs.YtfncaghjfgnnhaaGreatDoor

namespace Go.Proofs.YtfncaghjfgnnhaaGreatDoor
open Go.RowKit
set_option maxRecDepth 100000
mutual
def lend (cs : List V) : V → V
 | .int k n => .int k n
 | .bool b => .bool b
 | .str s => .str s
 | .nilp => .nilp
 | .sl 0 0 n _ => .dsl n false cs
 | .dsl n _ c => .dsl n false c
 | .dptr c => .dptr c
 | .agg l => .agg (lendL cs l)
 | _ => .junk
def lendL (cs : List V) : List V → List V
 | [] => []
 | x :: t => lend cs x :: lendL cs t
end
section
variable {P : Program} {I I2 : Nat → Prop} {μ : Mu} {w : World} {cs : List V} {g : Nat}
mutual
theorem lend_sound (hI : Sub I I2) (hg : I2 g) (hm : μ 0 = some g) (hc : ∃ cells e fr, w.heap[g]? = some (.cells cells e fr) ∧ V.RL P I2 noMu w cs (cells.toList.take cs.length)) : ∀ (x : V) (u : Value), V.R P I μ w x u → V.R P I2 noMu w (lend cs x) u
 | .int k n, u, h => by simpa only [lend, V.R] using h
 | .bool b, u, h => by simpa only [lend, V.R] using h
 | .str s, u, h => by simpa only [lend, V.R] using h
 | .nilp, u, h => by simpa only [lend, V.R] using h
 | .sl 0 0 n full, u, h => by
  simp only [V.R] at h
  rcases h with ⟨g', cap, e, N, i, h1, h2, h3, h4, h5, h6⟩ | ⟨_, rfl, a, rfl, ha⟩
  ·rw [hm] at h1; cases h1
   obtain ⟨cells, e', fr, k1, k2⟩ := hc
   simp only [lend, V.R]
   exact ⟨_, cap, h2, h3, fun h => (nomatch h), .inr ⟨g, 0, rfl⟩, .inr <| .inr ⟨g, 0, rfl, hg, cells, e', fr, k1, by simpa using k2⟩⟩
  ·simp only [lend, V.R]
   exact ⟨a, 0, rfl, Nat.le_refl _, fun h => (nomatch h), ha.imp (fun h => ⟨h, rfl⟩) id, .inr (.inl trivial)⟩
 | .sl 0 (_ + 1) n full, u, h => by simp only [lend, V.R]
 | .sl (_ + 1) _ n full, u, h => by simp only [lend, V.R]
 | .dsl n f c, u, h => by
  have h' : V.R P I noMu w (.dsl n false c) u := by
   simp only [V.R] at h ⊢
   obtain ⟨a, cap, h1, h2, _, h3⟩ := h
   exact ⟨a, cap, h1, h2, fun h => (nomatch h), h3⟩
  exact h'.keep (.refl w (fun _ => False)) hI (.refl _)
 | .dptr c, u, h => (RL_nomu [.dptr c] [u] (by simp [V.refsL, V.refs]) ⟨u, [], rfl, h, rfl⟩ |> fun ⟨_, _, e, h, _⟩ => by
   cases e
   exact h.keep (.refl w (fun _ => False)) hI (.refl _))
 | .agg l, u, h => by
  simp only [V.R, lend] at h ⊢
  obtain ⟨vs, h1, h2⟩ := h
  exact ⟨vs, h1, lendL_sound hI hg hm hc l _ h2⟩
 | .ptr _ _, u, h => by simp only [lend, V.R]
 | .sld _, u, h => by simp only [lend, V.R]
 | .slo _, u, h => by simp only [lend, V.R]
 | .eptr _ _ _, u, h => by simp only [lend, V.R]
 | .osl _ _ _ _, u, h => by simp only [lend, V.R]
 | .tup _, u, h => by simp only [lend, V.R]
 | .fn _ _, u, h => by simp only [lend, V.R]
 | .box _ _, u, h => by simp only [lend, V.R]
 | .nilf, u, h => by simp only [lend, V.R]
 | .lit _, u, h => by simp only [lend, V.R]
 | .junk, u, h => by simp only [lend, V.R]
theorem lendL_sound (hI : Sub I I2) (hg : I2 g) (hm : μ 0 = some g) (hc : ∃ cells e fr, w.heap[g]? = some (.cells cells e fr) ∧ V.RL P I2 noMu w cs (cells.toList.take cs.length)) : ∀ (l : List V) (us : List Value), V.RL P I μ w l us → V.RL P I2 noMu w (lendL cs l) us
 | [], us, h => by simpa only [lendL, V.RL] using h
 | x :: t, us, h => by
  simp only [V.RL, lendL] at h ⊢
  obtain ⟨u, us', h1, h2, h3⟩ := h
  exact ⟨u, us', h1, lend_sound hI hg hm hc x u h2, lendL_sound hI hg hm hc t us' h3⟩
end
mutual
theorem lend_nil (hm : μ 0 = none) : ∀ (x : V) (u : Value), V.R P I μ w x u → V.R P I noMu w (lend cs x) u
 | .int k n, u, h => by simpa only [lend, V.R] using h
 | .bool b, u, h => by simpa only [lend, V.R] using h
 | .str s, u, h => by simpa only [lend, V.R] using h
 | .nilp, u, h => by simpa only [lend, V.R] using h
 | .sl 0 0 n full, u, h => by
  simp only [V.R] at h
  rcases h with ⟨g', cap, e, N, i, h1, _⟩ | ⟨_, rfl, a, rfl, ha⟩
  ·rw [hm] at h1; cases h1
  ·simp only [lend, V.R]
   exact ⟨a, 0, rfl, Nat.le_refl _, fun h => (nomatch h), ha.imp (fun h => ⟨h, rfl⟩) id, .inr (.inl trivial)⟩
 | .sl 0 (_ + 1) n full, u, h => by simp only [lend, V.R]
 | .sl (_ + 1) _ n full, u, h => by simp only [lend, V.R]
 | .dsl n f c, u, h => by
  simp only [lend, V.R] at h ⊢
  obtain ⟨a, cap, h1, h2, _, h3⟩ := h
  exact ⟨a, cap, h1, h2, fun h => (nomatch h), h3⟩
 | .dptr c, u, h => by simpa only [lend, V.R] using h
 | .agg l, u, h => by
  simp only [V.R, lend] at h ⊢
  obtain ⟨vs, h1, h2⟩ := h
  exact ⟨vs, h1, lendL_nil hm l _ h2⟩
 | .ptr _ _, u, h => by simp only [lend, V.R]
 | .sld _, u, h => by simp only [lend, V.R]
 | .slo _, u, h => by simp only [lend, V.R]
 | .eptr _ _ _, u, h => by simp only [lend, V.R]
 | .osl _ _ _ _, u, h => by simp only [lend, V.R]
 | .tup _, u, h => by simp only [lend, V.R]
 | .fn _ _, u, h => by simp only [lend, V.R]
 | .box _ _, u, h => by simp only [lend, V.R]
 | .nilf, u, h => by simp only [lend, V.R]
 | .lit _, u, h => by simp only [lend, V.R]
 | .junk, u, h => by simp only [lend, V.R]
theorem lendL_nil (hm : μ 0 = none) : ∀ (l : List V) (us : List Value), V.RL P I μ w l us → V.RL P I noMu w (lendL cs l) us
 | [], us, h => by simpa only [lendL, V.RL] using h
 | x :: t, us, h => by
  simp only [V.RL, lendL] at h ⊢
  obtain ⟨u, us', h1, h2, h3⟩ := h
  exact ⟨u, us', h1, lend_nil hm x u h2, lendL_nil hm t us' h3⟩
end
end
theorem FnOK.give {P : Program} {f : FuncId} {vs : List V} {v : V} {c cs : List V} {T : TypeId} (hr : V.refsL c = []) (hcs : flat c = cs) (h : FnOK P f (lendL cs vs) [] ⟨v, [], []⟩) (ho : hasO c = false := by rfl) (hT : rowT T = true := by rfl) : FnOK P f vs [some (c, T)] ⟨v, [none], [0]⟩ := by
 subst hcs
 generalize hcs : flat c = cs at h
 obtain ⟨_, hmain⟩ := h
 refine ⟨⟨by simp, fun b hb hn => ?_, fun b hb => ?_, fun b hb ⟨blk, hal⟩ => ?_⟩, fun I w μ vals hvals pre hdom => ?_⟩
 ·simp at hb hn; omega
 ·simp at hb ⊢; omega
 ·have : b = 0 := by simpa using hb
  subst this
  simp at hal
 have hh := (pre.holds 0 (by simp) _ rfl).toSeal hT ho hr
 rw [hcs] at hh
 rcases hh with ⟨g, cells, fr, k1, k2, k3, k4, ⟨k5, k6⟩, _⟩ | ⟨k1, _⟩ | ⟨_, _, _, _, _, _, _, e, _⟩
 rotate_right
 ·have e2 := congrArg Prod.snd e
  simp only at e2
  subst e2; simp [rowT, mapTid] at hT
 ·obtain ⟨us, vs', e1, e2, e3⟩ := CR.seal_iff.1 k6
  obtain ⟨_, rfl⟩ := CR.nil_iff.1 e3
  simp only [flat, List.append_nil] at e1
  let I2 : Nat → Prop := fun k => I k ∨ k = g
  have hI : Sub I I2 := fun k hk => .inl hk
  have hglt : g < w.heap.size := by
   rcases Nat.lt_or_ge g w.heap.size with h | h
   ·exact h
   ·rw [Array.getElem?_eq_none h] at k3; cases k3
  have hc : ∃ cells e fr, w.heap[g]? = some (.cells cells e fr) ∧ V.RL P I2 noMu w cs (cells.toList.take cs.length) := ⟨cells, _, fr, k3, by rw [e1]; exact e2.keep (.refl w (fun _ => False)) hI (.refl _)⟩
  have hv2 := lendL_sound (I2 := I2) hI (.inr rfl) k1 hc vs _ hvals
  have pre2 : Pre P I2 noMu w [] (List.range ([] : Hp).length) 0 := by
   refine ⟨pre.ilt.step (.refl w (fun _ => False)) hI fun k hk => ?_, fun b hb => by simp at hb, fun b hb => by simp at hb, fun b _ hb => by omega⟩
   rcases hk with hk | rfl
   ·exact pre.ilt k hk
   ·exact hglt
  refine (hmain I2 w noMu vals hv2 pre2 (fun b g h => by cases h)).mono fun e w' ⟨val, μ', I', he, hR, G⟩ => ⟨val, μ, I', he, ?_, ?_⟩
  ·refine hR.keep (.refl w' (fun _ => False)) (.refl _) (fun b g hb => ?_)
   rcases G.dom b g hb with h | ⟨h1, h2⟩
   ·cases h
   ·simp at h2
  ·refine ⟨fun k hk => G.isub k (.inl hk), fun k hk => ?_, ?_, .refl _, fun b g h => .inl h, fun _ _ _ => rfl, fun b hb blk hblk => ?_, fun b hb blk hblk => ?_, fun b c blk blk' g hne hb hc h1 h2 => ?_⟩
   ·rcases G.igrow k hk with (h | rfl) | h | ⟨c, h1, _⟩
    ·exact .inl h
    ·exact .inr (.inr ⟨0, by simp, .inl k1, ⟨_, rfl⟩⟩)
    ·exact .inr (.inl h)
    ·simp at h1
   ·exact (G.evo.less hI).mono fun j ⟨b, hb, _⟩ => by simp at hb
   ·rcases b with _ | b <;> simp at hblk
   ·rcases b with _ | b <;> simp at hblk
   ·rcases b with _ | b <;> simp at h1
 ·have hv2 := lendL_nil (I := I) (cs := cs) k1 vs _ hvals
  have pre2 : Pre P I noMu w [] (List.range ([] : Hp).length) 0 := ⟨pre.ilt, fun b hb => by simp at hb, fun b hb => by simp at hb, fun b _ hb => by omega⟩
  refine (hmain I w noMu vals hv2 pre2 (fun b g h => by cases h)).mono fun e w' ⟨val, μ', I', he, hR, G⟩ => ⟨val, μ, I', he, ?_, ?_⟩
  ·refine hR.keep (.refl w' (fun _ => False)) (.refl _) (fun b g hb => ?_)
   rcases G.dom b g hb with h | ⟨h1, h2⟩
   ·cases h
   ·simp at h2
  ·refine ⟨G.isub, fun k hk => ?_, ?_, .refl _, fun b g h => .inl h, fun _ _ _ => rfl, fun b hb blk hblk => ?_, fun b hb blk hblk => ?_, fun b c blk blk' g hne hb hc h1 h2 => ?_⟩
   ·rcases G.igrow k hk with h | h | ⟨c, h1, _⟩
    ·exact .inl h
    ·exact .inr (.inl h)
    ·simp at h1
   ·exact G.evo.mono fun j ⟨b, hb, _⟩ => by simp at hb
   ·rcases b with _ | b <;> simp at hblk
   ·rcases b with _ | b <;> simp at hblk
   ·rcases b with _ | b <;> simp at h1
end Go.Proofs.YtfncaghjfgnnhaaGreatDoor

namespace Go.Proofs.YtfncaghjfgnnhaaGreatDoor
open Go.RowKit
set_option maxRecDepth 100000
mutual
def jdep : J → Nat
 | .mk k _ _ _ its => if k = 0 ∨ k = 1 ∨ k = 2 ∨ k = 3 then 0 else jdeps its + 1
def jdeps : List J → Nat
 | [] => 0
 | j :: js => max (jdep j) (jdeps js)
end
inductive Dr : Nat → J → Prop where
 | null (d : Nat) : Dr d .zero
 | bool (d : Nat) (n : Int) (h : 0 ≤ n ∧ n < 2) : Dr d (.mk 1 n [] [] [])
 | num (d : Nat) (n : Int) (h : -1000000000 ≤ n ∧ n ≤ 1000000000) : Dr d (.mk 2 n [] [] [])
 | text (d : Nat) (t : List UInt8) (h : t ∈ jsTexts) : Dr d (.mk 3 0 t [] [])
 | list (d : Nat) (L : List J) (h : ∀ x ∈ L, Dr d x) (hl : L.length ≤ 3) : Dr (d + 1) (.mk 4 0 [] [] L)
 | obj (d : Nat) (ks : List (List UInt8)) (L : List J) (h : ∀ x ∈ L, Dr d x) (hk : ks.Sublist objKeys) (hl : ks.length = L.length) : Dr (d + 1) (.mk 5 0 [] ks L)
def DrawDr (f : Src → J × Src) (q d : Nat) : Prop := ∀ x c, x.OK (c + q) → Dr d (f x).1
theorem drawList_dr {f : Src → J × Src} {dd : Int} {q d : Nat} (hf : Draw f dd q) (hp : DrawDr f q d) : ∀ (i : Nat) (x : Src) (L : List J) (c : Nat), x.OK (c + i * q) → (∀ y ∈ L, Dr d y) → (∀ y ∈ (drawList f i x L).1, Dr d y) ∧ (drawList f i x L).1.length = L.length + i
 | 0, x, L, c, h, hL => ⟨hL, by simp [drawList]⟩
 | i + 1, x, L, c, h, hL => by
  have hc : x.OK ((c + i * q) + q) := by
   refine h.less ?_
   rw [Nat.add_mul, Nat.one_mul]; omega
  unfold drawList
  have := drawList_dr hf hp i (f x).2 (L ++ [(f x).1]) c (hf.cost x _ hc) (by
   intro y hy
   rcases List.mem_append.1 hy with hy | hy
   ·exact hL y hy
   ·rw [List.mem_singleton.1 hy]; exact hp x _ hc)
  refine ⟨this.1, ?_⟩
  rw [this.2]; simp; omega
theorem drawObj_dr {f : Src → J × Src} {dd : Int} {q d : Nat} (hf : Draw f dd q) (hp : DrawDr f q d) : ∀ (t : List (List UInt8)) (x : Src) (ks : List (List UInt8)) (L : List J) (c : Nat), x.OK (c + t.length * (q + 3)) → (∀ y ∈ L, Dr d y) → ks.length = L.length →
  (∀ y ∈ (drawObj f t x ks L).2.1, Dr d y) ∧ (drawObj f t x ks L).1.length = (drawObj f t x ks L).2.1.length ∧ ∃ ks', (drawObj f t x ks L).1 = ks ++ ks' ∧ ks'.Sublist t
 | [], x, ks, L, c, h, hL, hk => ⟨hL, hk, [], by simp [drawObj], by simp⟩
 | k :: t, x, ks, L, c, h, hL, hk => by
  have hc : x.OK ((c + t.length * (q + 3) + q) + 3) := by
   refine h.less ?_
   rw [List.length_cons, Nat.add_mul, Nat.one_mul]; omega
  have hx := chanceF_ok (n := 2) hc (by omega)
  unfold drawObj
  split
  ·have := drawObj_dr hf hp t (f (chanceF x 2).2).2 (ks ++ [k]) (L ++ [(f (chanceF x 2).2).1]) c (hf.cost _ _ hx) (by
    intro y hy
    rcases List.mem_append.1 hy with hy | hy
    ·exact hL y hy
    ·rw [List.mem_singleton.1 hy]; exact hp _ _ hx) (by simp [hk])
   obtain ⟨h1, h2, ks', h3, h4⟩ := this
   exact ⟨h1, h2, k :: ks', by rw [h3]; simp, h4.cons_cons k⟩
  ·obtain ⟨h1, h2, ks', h3, h4⟩ := drawObj_dr hf hp t (chanceF x 2).2 ks L c (hx.less (by omega)) hL hk
   exact ⟨h1, h2, ks', h3, h4.cons k⟩
theorem jsonK_dr {f : Src → J × Src} {dd : Int} {q d : Nat} {k : Int} (hf : 4 ≤ k → Draw f dd q ∧ DrawDr f q d) {x : Src} {c : Nat} (h : x.OK (c + (4 * q + 15))) (hk : 0 ≤ k ∧ k < 6) : Dr (d + 1) (jsonK f k x).1 ∧ (k < 4 → Dr 0 (jsonK f k x).1) := by
 unfold jsonK
 split
 ·exact ⟨.null _, fun _ => .null _⟩
 split
 ·have h1 := nextF_ok (c := c) (n := 2) (h.less (by omega)) (by omega)
  exact ⟨.bool _ _ h1.2, fun _ => .bool _ _ h1.2⟩
 split
 ·have h1 := nextF_ok (c := c + 3) (n := 20) (h.less (by omega)) (by omega)
  have h2 := nextF_ok (c := c) (n := 6) h1.1 (by omega)
  have h5 : 0 ≤ (nextF (nextF x 20).2 6).1.tdiv 5 := Int.tdiv_nonneg h2.2.1 (by omega)
  have h6 : (nextF (nextF x 20).2 6).1.tdiv 5 < 2 := by rw [Int.tdiv_eq_ediv_of_nonneg h2.2.1]; omega
  have : -1000000000 ≤ ([(nextF x 20).1 - 9, 1000000000].getD ((nextF (nextF x 20).2 6).1.tdiv 5).toNat 0) ∧ ([(nextF x 20).1 - 9, 1000000000].getD ((nextF (nextF x 20).2 6).1.tdiv 5).toNat 0) ≤ 1000000000 := by
   generalize (nextF (nextF x 20).2 6).1.tdiv 5 = z at h5 h6
   have : z = 0 ∨ z = 1 := by omega
   rcases this with rfl | rfl
   ·show -1000000000 ≤ (nextF x 20).1 - 9 ∧ (nextF x 20).1 - 9 ≤ 1000000000
    omega
   ·show -1000000000 ≤ (1000000000 : Int) ∧ (1000000000 : Int) ≤ 1000000000
    omega
  exact ⟨.num _ _ this, fun _ => .num _ _ this⟩
 split
 ·have h1 := pickF_ok (c := c) (L := jsTexts) (h.less (by omega)) (by simp [jsTexts])
  exact ⟨.text _ _ h1.2, fun _ => .text _ _ h1.2⟩
 split
 ·obtain ⟨hf1, hf2⟩ := hf (by omega)
  have h1 := nextF_ok (c := c + 4 * q) (n := 4) (h.less (by omega)) (by omega)
  have h3 : (nextF x 4).1.toNat ≤ 3 := by omega
  have h4 := Nat.mul_le_mul_right q h3
  have := drawList_dr hf1 hf2 (nextF x 4).1.toNat (nextF x 4).2 [] c (h1.1.less (by omega)) (fun y hy => nomatch hy)
  exact ⟨.list _ _ this.1 (by rw [this.2]; simpa using h3), fun h => by omega⟩
 ·obtain ⟨hf1, hf2⟩ := hf (by omega)
  obtain ⟨h1, h2, ks', h3, h4⟩ := drawObj_dr hf1 hf2 objKeys x [] [] c (h.less (by simp only [objKeys, List.length_cons, List.length_nil]; omega)) (fun y hy => nomatch hy) rfl
  rw [List.nil_append] at h3
  exact ⟨.obj _ _ _ h1 (by rw [h3]; exact h4) h2, fun h => by omega⟩
theorem json_dr : ∀ (d : Nat), d ≤ 6 → DrawDr (jsonF d) (qF d) d
 | 0, _ => by
  intro x c h
  have h1 := nextF_ok (c := c + 18) (n := 6) h (by omega)
  have h2 := nextF_ok (c := c + 15) (n := 4) h1.1 (by omega)
  exact (jsonK_dr (q := 0) (d := 0) (dd := 0) (fun h => by omega) h2.1 (by omega)).2 (by omega)
 | d + 1, hd => by
  intro x c h
  simp only [qF] at h
  have h1 := nextF_ok (c := c + (4 * qF d + 15)) (n := 6) (h.less (by omega)) (by omega)
  exact (jsonK_dr (fun _ => ⟨json_draw d (by omega), json_dr d (by omega)⟩) h1.1 h1.2).1
mutual
def jn : J → Nat
 | .mk _ _ _ _ its => 1 + jns its
def jns : List J → Nat
 | [] => 0
 | j :: js => jn j + jns js
end
def nF : Nat → Nat
 | 0 => 1
 | d + 1 => 1 + 4 * nF d
theorem jns_le {L : List J} {b : Nat} (h : ∀ x ∈ L, jn x ≤ b) : jns L ≤ L.length * b := by
 induction L with
 | nil => simp [jns]
 | cons x L ih =>
  have h1 := h x (by simp)
  have h2 := ih fun y hy => h y (by simp [hy])
  rw [jns, List.length_cons, Nat.add_mul, Nat.one_mul]; omega
theorem nF_ge : ∀ d, 1 ≤ nF d
 | 0 => Nat.le_refl _
 | d + 1 => by unfold nF; omega
theorem Dr.nodes {d : Nat} {j : J} (h : Dr d j) : jn j ≤ nF d := by
 induction h with
 | null d => have := nF_ge d; simp [J.zero, jn, jns]; omega
 | bool d n h => have := nF_ge d; simp [jn, jns]; omega
 | num d n h => have := nF_ge d; simp [jn, jns]; omega
 | text d t h => have := nF_ge d; simp [jn, jns]; omega
 | list d L h hl ih =>
  have h1 := jns_le ih
  have h2 := Nat.mul_le_mul_right (nF d) (show L.length ≤ 4 by omega)
  rw [jn, nF]; omega
 | obj d ks L h hk hl ih =>
  have h1 := jns_le ih
  have h3 : L.length ≤ 4 := by rw [← hl]; exact hk.length_le
  have h2 := Nat.mul_le_mul_right (nF d) h3
  rw [jn, nF]; omega
def plainT (t : List UInt8) : Bool := t.all (fun c => decide (32 ≤ c.toNat) && decide (c.toNat ≤ 126)) && decide (t.length ≤ 200)
def areK : List (List UInt8) → Bool
 | [] => true
 | [k] => plainT k
 | k :: k' :: t => plainT k && Op.bytesLess k k' && areK (k' :: t)
def partJ : J → Bool
 | .mk k n t ks its =>
  if k = 0 then decide (n = 0) && t.isEmpty && ks.isEmpty && its.isEmpty
  else if k = 1 then decide (0 ≤ n ∧ n ≤ 1) && t.isEmpty && ks.isEmpty && its.isEmpty
  else if k = 2 then decide (-1000000000 ≤ n ∧ n ≤ 1000000000) && t.isEmpty && ks.isEmpty && its.isEmpty
  else if k = 3 then decide (n = 0) && plainT t && ks.isEmpty && its.isEmpty
  else if k = 4 then decide (n = 0) && t.isEmpty && ks.isEmpty
  else if k = 5 then decide (n = 0) && t.isEmpty && ks.length == its.length && areK ks
  else false
mutual
def rightJ : J → Int → Int → Bool × Int
 | .mk k n t ks its, deep, room =>
  if room - 1 < 0 ∨ 12 ≤ deep ∨ partJ (.mk k n t ks its) = false then (false, room - 1)
  else rightJs its (deep + 1) (room - 1)
def rightJs : List J → Int → Int → Bool × Int
 | [], _, room => (true, room)
 | j :: js, deep, room => if (rightJ j deep room).1 = true then rightJs js deep (rightJ j deep room).2 else (false, (rightJ j deep room).2)
end
theorem objKeys_sub {ks : List (List UInt8)} (h : ks.Sublist objKeys) : areK ks = true := by
 unfold objKeys at h
 cases h <;> rename_i h <;> cases h <;> rename_i h <;> cases h <;> rename_i h <;> cases h <;> rename_i h <;> cases h <;> decide
theorem rightJs_ok {d : Nat} : ∀ (L : List J), (∀ x ∈ L, ∀ deep room : Int, 0 ≤ deep → deep + d < 12 → (jn x : Int) ≤ room → rightJ x deep room = (true, room - jn x)) → ∀ deep room : Int, 0 ≤ deep → deep + d < 12 → (jns L : Int) ≤ room → rightJs L deep room = (true, room - jns L)
 | [], h, deep, room, h1, h2, h3 => by simp [rightJs, jns]
 | x :: L, h, deep, room, h1, h2, h3 => by
  rw [jns] at h3
  have a := h x (by simp) deep room h1 h2 (by omega)
  rw [rightJs, a]
  simp only [if_true]
  rw [rightJs_ok L (fun y hy => h y (by simp [hy])) deep (room - jn x) h1 h2 (by omega), jns]
  congr 1; omega
theorem Dr.right {d : Nat} {j : J} (h : Dr d j) : ∀ deep room : Int, 0 ≤ deep → deep + d < 12 → (jn j : Int) ≤ room → rightJ j deep room = (true, room - jn j) := by
 have leaf : ∀ (k n : Int) (t : List UInt8), partJ (.mk k n t [] []) = true → ∀ deep room : Int, 0 ≤ deep → deep < 12 → (jn (.mk k n t [] []) : Int) ≤ room → rightJ (.mk k n t [] []) deep room = (true, room - jn (.mk k n t [] [])) := by
  intro k n t hp deep room h1 h2 h3
  simp only [jn, jns] at h3 ⊢
  rw [rightJ, if_neg (by rw [hp]; simp; omega), rightJs]
  simp
 have node : ∀ (d : Nat) (k n : Int) (t : List UInt8) (ks : List (List UInt8)) (L : List J), partJ (.mk k n t ks L) = true → (∀ x ∈ L, ∀ deep room : Int, 0 ≤ deep → deep + d < 12 → (jn x : Int) ≤ room → rightJ x deep room = (true, room - jn x)) → ∀ deep room : Int, 0 ≤ deep → deep + (d + 1 : Nat) < 12 → (jn (.mk k n t ks L) : Int) ≤ room → rightJ (.mk k n t ks L) deep room = (true, room - jn (.mk k n t ks L)) := by
  intro d k n t ks L hp hL deep room h1 h2 h3
  rw [jn] at h3
  rw [rightJ, if_neg (by rw [hp]; simp; omega), rightJs_ok L hL (deep + 1) (room - 1) (by omega) (by omega) (by omega), jn]
  congr 1; omega
 induction h with
 | null d => intro deep room h1 h2 h3; exact leaf 0 0 [] (by decide) deep room h1 (by omega) h3
 | bool d n h => intro deep room h1 h2 h3; exact leaf 1 n [] (by simp [partJ]; omega) deep room h1 (by omega) h3
 | num d n h => intro deep room h1 h2 h3; exact leaf 2 n [] (by simp [partJ]; omega) deep room h1 (by omega) h3
 | text d t h =>
  intro deep room h1 h2 h3
  have : ∀ t ∈ jsTexts, plainT t = true := by decide
  exact leaf 3 0 t (by simp [partJ, this t h]) deep room h1 (by omega) h3
 | list d L h hl ih => exact node d 4 0 [] [] L (by simp [partJ]) ih
 | obj d ks L h hk hl ih => exact node d 5 0 [] ks L (by simp [partJ, hl, objKeys_sub hk]) ih
end Go.Proofs.YtfncaghjfgnnhaaGreatDoor

namespace Go.Proofs.YtfncaghjfgnnhaaGreatDoor
open Go.RowKit
set_option maxRecDepth 100000
abbrev fWithin : Nat := 87
abbrev fIsNumber : Nat := 88
abbrev fIsPlain : Nat := 89
abbrev fAreKeys : Nat := 90
abbrev fPartOK : Nat := 58
set_option maxRecDepth 100000 in
theorem withinT (n lo hi : Int) : fnT E0 0 fWithin [.int .i64 n, .int .i64 lo, .int .i64 hi] [] = (
 bif decide (n ≥ lo) then .done (Ret.mk (.bool (decide (n ≤ hi))) [] []) else .done (Ret.mk (.bool false) [] []) : T _) := by kernel_rfl
def inB (n lo hi : Int) : Bool := decide (lo ≤ n) && decide (n ≤ hi)
theorem within_ok (n lo hi : Int) : FnOK Tryz.prog fWithin [.int .i64 n, .int .i64 lo, .int .i64 hi] [] ⟨.bool (inB n lo hi), [], []⟩ := by
 refine fnOK_TL (E := E0) follows named (withinT n lo hi) (by simp) ?_
 simp only [WP_cond, T.WP, decide_eq_true_eq, decide_eq_false_iff_not]
 unfold inB
 refine ⟨fun h => ⟨?_, rfl, by simp⟩, fun h => ⟨?_, rfl, by simp⟩⟩
 ·simp [h]
 ·simp [h]
noncomputable def resW : ResT := fun f vs hp => match vs, hp with
 | [.int _ n, .int _ lo, .int _ hi], [] => bif Nat.beq f fWithin then some ⟨inB n lo hi, fun y => ⟨.bool y, [], []⟩⟩ else none
 | _, _ => none
set_option maxRecDepth 100000 in
theorem isNumberT (n : Int) : fnT { P := Tryz.prog, vw := vwA, res := resW } 0 fIsNumber [.int .i64 n] [] = (
 .bind (inB n (-1000000000 : Int) (1000000000 : Int)) fun y0 => .need [FnOK Tryz.prog 87 [.int .i64 n, .int .i64 (-1000000000 : Int), .int .i64 1000000000] [] (Ret.mk (.bool y0) [] [])] (.done (Ret.mk (.bool y0) [] [])) : T _) := (T.force_eq _).symm.trans (by kernel_rfl)
theorem isNumber_ok (n : Int) : FnOK Tryz.prog fIsNumber [.int .i64 n] [] ⟨.bool (inB n (-1000000000) 1000000000), [], []⟩ := by
 refine fnOK_TL (E := { P := Tryz.prog, vw := vwA, res := resW }) follows named (isNumberT n) (by simp) ?_
 simp only [T.WP, All, and_true]
 rintro y rfl
 exact ⟨within_ok _ _ _, ⟨rfl, rfl, by simp⟩⟩
def stPl (t : List UInt8) (i : Int) : St := ⟨mkTm 23 [(0, .str t), (5, .int .i64 t.length), (6, .int .i64 i)], [], []⟩
def nfPl : Ex → Kp := fun ex => match ex with
 | .normal => { keep := [0, 5, 6] }
 | .ret => { keep := [2] }
 | .exit _ => { keep := [0] }
set_option maxRecDepth 100000 in
theorem isPlain0 (t : List UInt8) (i : Int) : bodyT E0 0 nfPl (lp Tryz.prog fIsPlain 0) (stPl t i) = (
 bif decide (i < (↑t.length : Int)) then .need [0 ≤ i ∧ i < (↑t.length : Int)] (bif decide ((↑(UInt8.toNat (List.getD t (Int.toNat i) (0 : UInt8))) : Int) < 32) then .done (Ex.ret, St.mk (mkTm 23 [(2, .bool false)]) [] []) else .need [0 ≤ i
 ∧ i < (↑t.length : Int)] (bif decide ((↑(UInt8.toNat (List.getD t (Int.toNat i) (0 : UInt8))) : Int) > 126) then .done (Ex.ret, St.mk (mkTm 23 [(2, .bool false)]) [] []) else .done (Ex.normal, St.mk (mkTm 23 [(0, .str t), (5, .int .i64
 (↑t.length : Int)), (6, .int .i64 (IntKind.wrap IntKind.i64 (i + 1)))]) [] []))) else .done (Ex.exit 0, St.mk (mkTm 23 [(0, .str t)]) [] []) : T _) := by kernel_rfl
def plainC (c : UInt8) : Bool := decide (32 ≤ c.toNat) && decide (c.toNat ≤ 126)
theorem plain_loop (t : List UInt8) (ht : t.length ≤ 4294967296) :
  (t.all plainC = true → LoopTo Tryz.prog 0 (lp Tryz.prog fIsPlain 0) (stPl t 0) (.exit 0) ⟨mkTm 23 [(0, .str t)], [], []⟩) ∧
  (t.all plainC = false → LoopTo Tryz.prog 0 (lp Tryz.prog fIsPlain 0) (stPl t 0) .ret ⟨mkTm 23 [(2, .bool false)], [], []⟩) := by
 rw [← allN_list plainC 0 t]
 refine scanT (E := E0) (nf := nfPl) (st := fun i => stPl t (i : Nat)) (n := t.length) _ follows named (by simp) (by simp) (fun i => isPlain0 t (i : Nat)) (fun i hi => ?_) ?_ t.length 0 (by simp)
 ·have hc := (t.getD i 0).toNat_lt
  simp only [WP_cond, T.WP, All, decide_eq_true_eq, decide_eq_false_iff_not, and_true, Int.toNat_natCast, wrap_succ (show i < 9223372036854775807 by omega)]
  cases hg : plainC (t.getD i 0) <;> simp only [plainC, Bool.and_eq_true, Bool.and_eq_false_iff, decide_eq_true_eq, decide_eq_false_iff_not] at hg
  all_goals ((repeat' with_reducible first | intro _ | apply And.intro) <;> first | omega | rfl | (exfalso; omega) | (simp; done))
 ·simp only [WP_cond, T.WP, All, decide_eq_true_eq, decide_eq_false_iff_not, and_true]
  ((repeat' with_reducible first | intro _ | apply And.intro) <;> first | omega | rfl | (exfalso; omega) | (simp; done))
noncomputable def lsPl : Nat → St → Option LRes := fun id s => match id, s.tm.get 0 with
 | 0, .str t => some ⟨t.all plainC, fun y => .two { keep := [0, 5, 6] } (stPl t 0) y (.exit 0) ⟨mkTm 23 [(0, .str t)], [], []⟩ .ret ⟨mkTm 23 [(2, .bool false)], [], []⟩⟩
 | _, _ => none
set_option maxRecDepth 100000 in
theorem isPlainT (t : List UInt8) : fnT { P := Tryz.prog, vw := vwA, res := res0, ls := lsPl } 0 fIsPlain [.str t] [] = (
 .bind (List.all t plainC) fun y0 => .need [St.mk (mkTm 23 [(0, .str t), (5, .int .i64 (↑t.length : Int)), (6, .int .i64 0)]) [] [] = St.mk (mkTm 23 [(0, .str t), (5, .int .i64 (↑t.length : Int)), (6, .int .i64 0)]) [] []] (bif y0 then .need
 [SoundC Tryz.prog 0 (blk Tryz.prog fIsPlain 0) (St.mk (mkTm 23 [(0, .str t), (5, .int .i64 (↑t.length : Int)), (6, .int .i64 0)]) [] []) (Ex.exit 0) (St.mk (mkTm 23 [(0, .str t)]) [] [])] (.done (Ret.mk (.bool (decide ((↑t.length : Int) ≤
 200))) [] [])) else .need [SoundC Tryz.prog 0 (blk Tryz.prog fIsPlain 0) (St.mk (mkTm 23 [(0, .str t), (5, .int .i64 (↑t.length : Int)), (6, .int .i64 0)]) [] []) Ex.ret (St.mk (mkTm 23 [(2, .bool false)]) [] [])] (.done (Ret.mk (.bool
 false) [] []))) : T _) := (T.force_eq _).symm.trans (by kernel_rfl)
theorem isPlain_ok (t : List UInt8) (ht : t.length ≤ 4294967296) : FnOK Tryz.prog fIsPlain [.str t] [] ⟨.bool (plainT t), [], []⟩ := by
 refine fnOK_TL (E := { P := Tryz.prog, vw := vwA, res := res0, ls := lsPl }) follows named (isPlainT t) (by simp) ?_
 simp only [WP_cond, T.WP, All, and_true]
 rintro y rfl
 refine ⟨trivial, fun h => ⟨.loopTo ((plain_loop t ht).1 h), ?_, rfl, by simp⟩, fun h => ⟨.loopTo ((plain_loop t ht).2 h), ?_, rfl, by simp⟩⟩
 ·exact congrArg V.bool (show _ = (t.all plainC && decide (t.length ≤ 200)) by rw [h, Bool.true_and]; congr 1; exact propext (by omega))
 ·exact congrArg V.bool (show _ = (t.all plainC && decide (t.length ≤ 200)) by rw [h]; rfl)
def stKy (ks : List (List UInt8)) (i : Int) : St := ⟨mkTm 29 [(0, sls encStr ks), (5, sls encStr ks), (6, .int .i64 ks.length), (7, .int .i64 i)], [], []⟩
def nfKy : Ex → Kp := fun ex => match ex with
 | .normal => { keep := [0, 5, 6, 7] }
 | .ret => { keep := [2] }
 | .exit _ => { keep := [] }
noncomputable def resPl : ResT := fun f vs hp => match vs, hp with
 | [.str t], [] => bif Nat.beq f fIsPlain then some ⟨plainT t, fun y => ⟨.bool y, [], []⟩⟩ else none
 | _, _ => none
set_option maxRecDepth 100000 in
theorem areKeys0 (ks : List (List UInt8)) (i : Int) : bodyT { P := Tryz.prog, vw := vwA, res := resPl } 0 nfKy (lp Tryz.prog fAreKeys 0) (stKy ks i) = (
 bif decide (i < (↑ks.length : Int)) then .need [0 ≤ i ∧ i < (↑ks.length : Int), List.take 1 (List.drop (Int.toNat i * 1) (encs encStr ks)) = [.str (List.getD (decL encStr (encs encStr ks)) (Int.toNat i) [])]] (.bind (plainT (List.getD (decL
 encStr (encs encStr ks)) (Int.toNat i) [])) fun y0 => .need [FnOK Tryz.prog 89 [.str (List.getD (decL encStr (encs encStr ks)) (Int.toNat i) [])] [] (Ret.mk (.bool y0) [] [])] (bif !y0 then .done (Ex.ret, St.mk (mkTm 29 [(2, .bool false)])
 [] []) else bif decide (i > 0) then .need [0 ≤ IntKind.wrap IntKind.i64 (i - 1) ∧ IntKind.wrap IntKind.i64 (i - 1) < (↑ks.length : Int), List.take 1 (List.drop (Int.toNat (IntKind.wrap IntKind.i64 (i - 1)) * 1) (encs encStr ks)) = [.str
 (List.getD (decL encStr (encs encStr ks)) (Int.toNat (IntKind.wrap IntKind.i64 (i - 1))) [])]] (bif !Op.bytesLess (List.getD (decL encStr (encs encStr ks)) (Int.toNat (IntKind.wrap IntKind.i64 (i - 1))) []) (List.getD (decL encStr (encs
 encStr ks)) (Int.toNat i) []) then .done (Ex.ret, St.mk (mkTm 29 [(2, .bool false)]) [] []) else .done (Ex.normal, St.mk (mkTm 29 [(0, .dsl ks.length false (encs encStr ks)), (5, .dsl ks.length false (encs encStr ks)), (6, .int .i64
 (↑ks.length : Int)), (7, .int .i64 (IntKind.wrap IntKind.i64 (i + 1)))]) [] [])) else .done (Ex.normal, St.mk (mkTm 29 [(0, .dsl ks.length false (encs encStr ks)), (5, .dsl ks.length false (encs encStr ks)), (6, .int .i64 (↑ks.length :
 Int)), (7, .int .i64 (IntKind.wrap IntKind.i64 (i + 1)))]) [] []))) else .done (Ex.exit 0, St.mk (mkTm 29 []) [] []) : T _) := by kernel_rfl
def keyG (ks : List (List UInt8)) (i : Nat) : Bool := plainT (ks.getD i []) && (i == 0 || Op.bytesLess (ks.getD (i - 1) []) (ks.getD i []))
theorem areKeys_loop (ks : List (List UInt8)) (hk : ks.length ≤ 4294967296) (hs : ∀ s ∈ ks, s.length ≤ 4294967296) :
  (allN (keyG ks) ks.length 0 = true → LoopTo Tryz.prog 0 (lp Tryz.prog fAreKeys 0) (stKy ks 0) (.exit 0) ⟨mkTm 29 [], [], []⟩) ∧
  (allN (keyG ks) ks.length 0 = false → LoopTo Tryz.prog 0 (lp Tryz.prog fAreKeys 0) (stKy ks 0) .ret ⟨mkTm 29 [(2, .bool false)], [], []⟩) := by
 refine scanT (E := { P := Tryz.prog, vw := vwA, res := resPl }) (nf := nfKy) (st := fun i => stKy ks (i : Nat)) (n := ks.length) _ follows named (by simp) (by simp) (fun i => areKeys0 ks (i : Nat)) (fun i hi => ?_) ?_ ks.length 0 (by simp)
 ·simp only [WP_cond, T.WP, All, decide_eq_true_eq, decide_eq_false_iff_not, and_true, Int.toNat_natCast, layStr.decL, wrap_succ (show i < 9223372036854775807 by omega)]
  have hat := layStr.at ks [] i 1 hi rfl
  have hl := hs (ks.getD i []) (by rw [List.getD_eq_getElem?_getD, List.getElem?_eq_getElem hi]; exact List.getElem_mem _)
  refine ⟨fun _ => ⟨⟨by omega, hat⟩, ?_⟩, fun h => by omega⟩
  rintro y rfl
  refine ⟨isPlain_ok _ hl, fun h => ?_, fun h => ⟨fun h0 => ?_, fun h0 => ?_⟩⟩
  ·have : keyG ks i = false := by unfold keyG; rw [show plainT (ks.getD i []) = false by simpa using h]; rfl
   rw [this]; rfl
  ·have e : IntKind.i64.wrap ((i : Int) - 1) = ((i - 1 : Nat) : Int) := by rw [wrap_id (by omega)]; omega
   have hat2 := layStr.at ks [] (i - 1) 1 (by omega) rfl
   rw [e, Int.toNat_natCast]
   refine ⟨⟨by omega, hat2⟩, fun h1 => ?_, fun h1 => ?_⟩
   ·have : keyG ks i = false := by
     unfold keyG
     rw [show Op.bytesLess (ks.getD (i - 1) []) (ks.getD i []) = false by simpa using h1, show (i == 0) = false by simp; omega]; simp
    rw [this]; rfl
   ·have : keyG ks i = true := by
     unfold keyG
     rw [show Op.bytesLess (ks.getD (i - 1) []) (ks.getD i []) = true by simpa using h1, show plainT (ks.getD i []) = true by simpa using h]; simp
    rw [this]; rfl
  ·obtain rfl : i = 0 := by omega
   have : keyG ks 0 = true := by
    unfold keyG
    rw [show plainT (ks.getD 0 []) = true by simpa using h]; simp
   rw [this]; rfl
 ·simp only [WP_cond, T.WP, All, decide_eq_true_eq, decide_eq_false_iff_not, and_true]
  ((repeat' with_reducible first | intro _ | apply And.intro) <;> first | omega | rfl | (exfalso; omega) | (simp; done))
theorem areK_allN : ∀ ks : List (List UInt8), areK ks = allN (keyG ks) ks.length 0 := by
 have key : ∀ (ks : List (List UInt8)), areK ks = true ↔ ∀ j, j < ks.length → keyG ks j = true := by
  intro ks
  induction ks with
  | nil => simp [areK]
  | cons k t ih =>
   cases t with
   | nil =>
    simp only [areK, List.length_singleton]
    constructor
    ·intro h j hj
     obtain rfl : j = 0 := by omega
     simp [keyG, h]
    ·intro h; have := h 0 (by omega); simpa [keyG] using this
   | cons k' t =>
    rw [areK, Bool.and_eq_true, Bool.and_eq_true, ih]
    constructor
    ·rintro ⟨⟨h1, h2⟩, h3⟩ j hj
     rcases j with _ | j
     ·simp [keyG, h1]
     ·have := h3 j (by simpa using hj)
      rcases j with _ | j
      ·simp only [keyG, List.getD_cons_zero, List.getD_cons_succ, Nat.add_sub_cancel, Bool.and_eq_true] at this ⊢
       exact ⟨this.1, by simp [h2]⟩
      ·simpa [keyG] using this
    ·intro h
     have h0 := h 0 (by simp)
     have h1 := h 1 (by simp)
     simp only [keyG, List.getD_cons_zero, List.getD_cons_succ, Bool.and_eq_true] at h0 h1
     refine ⟨⟨h0.1, by simpa using h1.2⟩, fun j hj => ?_⟩
     have := h (j + 1) (by simpa using hj)
     rcases j with _ | j
     ·simp only [keyG, List.getD_cons_zero, List.getD_cons_succ, Bool.and_eq_true] at this ⊢
      exact ⟨this.1, by simp⟩
     ·simpa [keyG] using this
 intro ks
 rw [Bool.eq_iff_iff, key, allN_iff]
 exact ⟨fun h j _ hj => h j (by omega), fun h j hj => h j (by omega) (by omega)⟩
noncomputable def lsKy : Nat → St → Option LRes := fun id s => match id, s.tm.get 0 with
 | 0, .dsl _ _ cs => some ⟨areK (decL encStr cs), fun y => .two { keep := [0, 5, 6, 7] } (stKy (decL encStr cs) 0) y (.exit 0) ⟨mkTm 29 [], [], []⟩ .ret ⟨mkTm 29 [(2, .bool false)], [], []⟩⟩
 | _, _ => none
set_option maxRecDepth 100000 in
theorem areKeysT (ks : List (List UInt8)) : fnT { P := Tryz.prog, vw := vwA, res := res0, ls := lsKy } 0 fAreKeys [sls encStr ks] [] = (
 .bind (areK (decL encStr (encs encStr ks))) fun y0 => .need [St.mk (mkTm 29 [(0, .dsl ks.length false (encs encStr ks)), (5, .dsl ks.length false (encs encStr ks)), (6, .int .i64 (↑ks.length : Int)), (7, .int .i64 0)]) [] [] = St.mk (mkTm
 29 [(0, .dsl (List.length (decL encStr (encs encStr ks))) false (encs encStr (decL encStr (encs encStr ks)))), (5, .dsl (List.length (decL encStr (encs encStr ks))) false (encs encStr (decL encStr (encs encStr ks)))), (6, .int .i64
 (↑(List.length (decL encStr (encs encStr ks))) : Int)), (7, .int .i64 0)]) [] []] (bif y0 then .need [SoundC Tryz.prog 0 (blk Tryz.prog fAreKeys 0) (St.mk (mkTm 29 [(0, .dsl (List.length (decL encStr (encs encStr ks))) false (encs encStr
 (decL encStr (encs encStr ks)))), (5, .dsl (List.length (decL encStr (encs encStr ks))) false (encs encStr (decL encStr (encs encStr ks)))), (6, .int .i64 (↑(List.length (decL encStr (encs encStr ks))) : Int)), (7, .int .i64 0)]) [] [])
 (Ex.exit 0) (St.mk (mkTm 29 []) [] [])] (.done (Ret.mk (.bool true) [] [])) else .need [SoundC Tryz.prog 0 (blk Tryz.prog fAreKeys 0) (St.mk (mkTm 29 [(0, .dsl (List.length (decL encStr (encs encStr ks))) false (encs encStr (decL encStr
 (encs encStr ks)))), (5, .dsl (List.length (decL encStr (encs encStr ks))) false (encs encStr (decL encStr (encs encStr ks)))), (6, .int .i64 (↑(List.length (decL encStr (encs encStr ks))) : Int)), (7, .int .i64 0)]) [] []) Ex.ret (St.mk
 (mkTm 29 [(2, .bool false)]) [] [])] (.done (Ret.mk (.bool false) [] []))) : T _) := (T.force_eq _).symm.trans (by kernel_rfl)
theorem areKeys_ok (ks : List (List UInt8)) (hk : ks.length ≤ 4294967296) (hs : ∀ s ∈ ks, s.length ≤ 4294967296) : FnOK Tryz.prog fAreKeys [sls encStr ks] [] ⟨.bool (areK ks), [], []⟩ := by
 refine fnOK_TL (E := { P := Tryz.prog, vw := vwA, res := res0, ls := lsKy }) follows named (areKeysT ks) (by simp) ?_
 simp only [WP_cond, T.WP, All, and_true, layStr.decL]
 rintro y rfl
 have hl := areKeys_loop ks hk hs
 rw [← areK_allN] at hl
 exact ⟨trivial, fun h => ⟨.loopTo (hl.1 h), congrArg V.bool h.symm, rfl, by simp⟩, fun h => ⟨.loopTo (hl.2 h), congrArg V.bool h.symm, rfl, by simp⟩⟩
noncomputable def resPt : ResT := fun f vs hp => match vs, hp with
 | [.str t], [] => bif Nat.beq f fIsPlain then some ⟨plainT t, fun y => ⟨.bool y, [], []⟩⟩ else none
 | [.int _ n], [] => bif Nat.beq f fIsNumber then some ⟨inB n (-1000000000) 1000000000, fun y => ⟨.bool y, [], []⟩⟩ else none
 | [.int _ n, .int _ lo, .int _ hi], [] => bif Nat.beq f fWithin then some ⟨inB n lo hi, fun y => ⟨.bool y, [], []⟩⟩ else none
 | [.dsl _ _ cs], [] => bif Nat.beq f fAreKeys then some ⟨areK (decL encStr cs), fun y => ⟨.bool y, [], []⟩⟩ else none
 | _, _ => none
set_option maxRecDepth 100000 in
theorem partOKT (j : J) : fnT { P := Tryz.prog, vw := vwA, res := resPt } 0 fPartOK [.agg (vwJ j)] [] = (
 bif J.kind j == 0 then bif J.n j == 0 then bif J.t j == [] then bif (↑(List.length (J.keys j)) : Int) == 0 then .done (Ret.mk (.bool ((↑(List.length (J.items j)) : Int) == 0)) [] []) else .done (Ret.mk (.bool false) [] []) else .done
 (Ret.mk (.bool false) [] []) else .done (Ret.mk (.bool false) [] []) else bif J.kind j == 1 then .bind (inB (J.n j) (0 : Int) (1 : Int)) fun y0 => .need [FnOK Tryz.prog 87 [.int .i64 (J.n j), .int .i64 0, .int .i64 1] [] (Ret.mk (.bool y0)
 [] [])] (bif y0 then bif J.t j == [] then bif (↑(List.length (J.keys j)) : Int) == 0 then .done (Ret.mk (.bool ((↑(List.length (J.items j)) : Int) == 0)) [] []) else .done (Ret.mk (.bool false) [] []) else .done (Ret.mk (.bool false) [] [])
 else .done (Ret.mk (.bool false) [] [])) else bif J.kind j == 2 then .bind (inB (J.n j) (-1000000000 : Int) (1000000000 : Int)) fun y1 => .need [FnOK Tryz.prog 88 [.int .i64 (J.n j)] [] (Ret.mk (.bool y1) [] [])] (bif y1 then bif J.t j ==
 [] then bif (↑(List.length (J.keys j)) : Int) == 0 then .done (Ret.mk (.bool ((↑(List.length (J.items j)) : Int) == 0)) [] []) else .done (Ret.mk (.bool false) [] []) else .done (Ret.mk (.bool false) [] []) else .done (Ret.mk (.bool false)
 [] [])) else bif J.kind j == 3 then bif J.n j == 0 then .bind (plainT (J.t j)) fun y2 => .need [FnOK Tryz.prog 89 [.str (J.t j)] [] (Ret.mk (.bool y2) [] [])] (bif y2 then bif (↑(List.length (J.keys j)) : Int) == 0 then .done (Ret.mk (.bool
 ((↑(List.length (J.items j)) : Int) == 0)) [] []) else .done (Ret.mk (.bool false) [] []) else .done (Ret.mk (.bool false) [] [])) else .done (Ret.mk (.bool false) [] []) else bif J.kind j == 4 then bif J.n j == 0 then bif J.t j == [] then
 .done (Ret.mk (.bool ((↑(List.length (J.keys j)) : Int) == 0)) [] []) else .done (Ret.mk (.bool false) [] []) else .done (Ret.mk (.bool false) [] []) else bif J.kind j == 5 then bif J.n j == 0 then bif J.t j == [] then bif (↑(List.length
 (J.keys j)) : Int) == (↑(List.length (J.items j)) : Int) then .bind (areK (decL encStr (encs encStr (J.keys j)))) fun y3 => .need [FnOK Tryz.prog 90 [.dsl (List.length (J.keys j)) false (encs encStr (J.keys j))] [] (Ret.mk (.bool y3) []
 [])] (.done (Ret.mk (.bool y3) [] [])) else .done (Ret.mk (.bool false) [] []) else .done (Ret.mk (.bool false) [] []) else .done (Ret.mk (.bool false) [] []) else .done (Ret.mk (.bool false) [] []) : T _) := by kernel_rfl
structure Mod (j : J) : Prop where
 t : j.t.length ≤ 4294967296
 kl : j.keys.length ≤ 4294967296
 ks : ∀ s ∈ j.keys, s.length ≤ 4294967296
theorem len0 {α : Type} (l : List α) : (((l.length : Nat) : Int) == 0) = l.isEmpty := by cases l <;> simp; omega
theorem partOK_ok (j : J) (h : Mod j) : FnOK Tryz.prog fPartOK [.agg (vwJ j)] [] ⟨.bool (partJ j), [], []⟩ := by
 refine fnOK_TL (E := { P := Tryz.prog, vw := vwA, res := resPt }) follows named (partOKT j) (by simp) ?_
 simp only [WP_cond, T.WP, All, and_true, beq_iff_eq, beq_eq_false_iff_ne, ne_eq, layStr.decL]
 obtain ⟨k, n, t, ks, its⟩ := j
 obtain ⟨ht, hkl, hks⟩ := h
 simp only [J.kind, J.n, J.t, J.keys, J.items] at *
 repeat' with_reducible first | intro _ | apply And.intro
 all_goals try subst_vars
 all_goals first | exact within_ok _ _ _ | exact isNumber_ok _ | exact isPlain_ok _ ht | exact areKeys_ok _ hkl hks | (refine ⟨congrArg V.bool ?_, rfl, by simp⟩; simp_all [partJ, inB, len0, Int.ofNat_inj]; done) | (refine ⟨congrArg V.bool ?_, rfl, by simp⟩; simp_all [partJ, inB]; first | omega | (intro h1 h2; omega) | (intro h1 h2; exact absurd h1 (by omega)))
end Go.Proofs.YtfncaghjfgnnhaaGreatDoor

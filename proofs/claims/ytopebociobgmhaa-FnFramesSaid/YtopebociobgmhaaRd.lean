/-
  Values that are drawn.
-/
import Derived.Test.YtopebociobgmhaaRb
namespace Go.Proofs.Ytopebociobgmhaa
open Go.RowKit

abbrev fJson : Nat := 39

/-- Values one behind the other. -/
def drawList (f : Src → J × Src) : Nat → Src → List J → List J × Src
  | 0, x, acc => (acc, x)
  | i + 1, x, acc => drawList f i (f x).2 (acc ++ [(f x).1])
def drawObj (f : Src → J × Src) : List (List UInt8) → Src → List (List UInt8) → List J → List (List UInt8) × List J × Src
  | [], x, ks, js => (ks, js, x)
  | k :: t, x, ks, js => if (chanceF x 2).1 then drawObj f t (f (chanceF x 2).2).2 (ks ++ [k]) (js ++ [(f (chanceF x 2).2).1]) else drawObj f t (chanceF x 2).2 ks js
def objKeys : List (List UInt8) := [[97], [98], [107], [122, 122]]
/-- A value of kind k. -/
def jsonK (f : Src → J × Src) (k : Int) (x : Src) : J × Src :=
  if k = 0 then (.zero, x)
  else if k = 1 then (.mk 1 (nextF x 2).1 [] [] [], (nextF x 2).2)
  else if k = 2 then (.mk 2 ([(nextF x 20).1 - 9, 1000000000].getD ((nextF (nextF x 20).2 6).1.tdiv 5).toNat 0) [] [] [], (nextF (nextF x 20).2 6).2)
  else if k = 3 then (.mk 3 0 (pickF x jsTexts).1 [] [], (pickF x jsTexts).2)
  else if k = 4 then (.mk 4 0 [] [] (drawList f (nextF x 4).1.toNat (nextF x 4).2 []).1, (drawList f (nextF x 4).1.toNat (nextF x 4).2 []).2)
  else (.mk 5 0 [] (drawObj f objKeys x [] []).1 (drawObj f objKeys x [] []).2.1, (drawObj f objKeys x [] []).2.2)
def jsonF : Nat → Src → J × Src
  | 0, x => jsonK (fun y => (.zero, y)) (nextF (nextF x 6).2 4).1 (nextF (nextF x 6).2 4).2
  | d + 1, x => jsonK (jsonF d) (nextF x 6).1 (nextF x 6).2

def zJ : Option Blk := some ([.int .i64 0, .int .i64 0, .str [], .dsl 0 true [], .dsl 0 true []], tJ)
/-- States of the list's loop. -/
def stL0 (x : Src) (d i : Int) : St := ⟨mkTm 87 [(0, .ptr 0 0), (1, .int .i64 d), (4, .ptr 1 0), (6, .ptr 2 0), (7, .int .i64 i)], [srcB x, zJ, some ([.int .i64 4, .int .i64 0, .str [], .dsl 0 true [], .dsl 0 true []], tJ)], [0]⟩
def stL1 (x : Src) (d i : Int) (L : List J) : St := ⟨mkTm 87 [(0, .ptr 0 0), (1, .int .i64 d), (4, .ptr 1 0), (6, .ptr 2 0), (7, .int .i64 i)], [srcB x, zJ, some ([.int .i64 4, .int .i64 0, .str [], .dsl 0 true [], .sl 3 0 L.length false], tJ), some ([.sld (encs encJ L)], tJ)], [0]⟩
noncomputable def resJson (f : Src → J × Src) : ResT := fun g vs hp => match vs, hp with
  | [.ptr 0 0, .int _ d], [some ([.dsl _ _ cs, .int _ k, .int _ s], _)] => bif Nat.beq g fJson then some ⟨f (srcOf cs k s), fun y => ⟨.agg (vwJ y.1), [srcB y.2], [0]⟩⟩ else none
  | _, _ => none
noncomputable def EJ (f : Src → J × Src) : Env := { P := Try.prog, vw := vwA, res := (resNext.or resPick).or (resJson f) }
def nfL : Ex → Kp := fun _ => { keep := [0, 1, 4, 6, 7] }

set_option maxRecDepth 100000 in
theorem list0T (f : Src → J × Src) (x : Src) (d i : Int) : bodyT (EJ f) 1 nfL (lp Try.prog fJson 1) (stL0 x d i) =
  bif decide (i > (0 : Int)) then
    T.bind (f (srcOf (encs encByte (Src.l x)) (↑(Src.k x) : Int) (Src.s x))) fun y0 =>
      T.need
        [FnOK (Env.P (EJ f)) 39 [V.ptr 0 0, V.int IntKind.i64 (IntKind.wrap IntKind.i64 (d - (1 : Int)))]
            [some ([V.dsl (List.length (Src.l x)) false (encs encByte (Src.l x)), V.int IntKind.i64 (↑(Src.k x) : Int), V.int IntKind.i64 (Src.s x)], 59)]
            (Ret.mk
              (V.agg
                [V.int IntKind.i64 (J.kind (Prod.fst y0)), V.int IntKind.i64 (J.n (Prod.fst y0)), V.str (J.t (Prod.fst y0)), V.dsl (List.length (J.keys (Prod.fst y0))) false (encs encStr (J.keys (Prod.fst y0))),
                  V.dsl (List.length (J.items (Prod.fst y0))) false (encs encJ (J.items (Prod.fst y0)))])
              [some ([V.dsl (List.length (Src.l (Prod.snd y0))) false (encs encByte (Src.l (Prod.snd y0))), V.int IntKind.i64 (↑(Src.k (Prod.snd y0)) : Int), V.int IntKind.i64 (Src.s (Prod.snd y0))], 59)]
              [0])]
        (T.need [true = true, 0 = 0, 1 ≤ 9223372036854775807, 80 ≤ 140737488355328]
          (T.done
            (Ex.normal,
              St.mk
                (mkTm 87
                  [(0, V.ptr 0 0), (1, V.int IntKind.i64 d), (4, V.ptr 1 0), (6, V.ptr 2 0),
                    (7, V.int IntKind.i64 (IntKind.wrap IntKind.i64 (i - (1 : Int))))])
                [some ([V.dsl (List.length (Src.l (Prod.snd y0))) false (encs encByte (Src.l (Prod.snd y0))), V.int IntKind.i64 (↑(Src.k (Prod.snd y0)) : Int), V.int IntKind.i64 (Src.s (Prod.snd y0))], 59),
                  some ([V.int IntKind.i64 (0 : Int), V.int IntKind.i64 (0 : Int), V.str [], V.dsl 0 true [], V.dsl 0 true []], 64),
                  some ([V.int IntKind.i64 (4 : Int), V.int IntKind.i64 (0 : Int), V.str [], V.dsl 0 true [], V.sl 3 0 1 false], 64),
                  some
                    ([V.sld
                          [V.int IntKind.i64 (J.kind (Prod.fst y0)), V.int IntKind.i64 (J.n (Prod.fst y0)), V.str (J.t (Prod.fst y0)), V.dsl (List.length (J.keys (Prod.fst y0))) false (encs encStr (J.keys (Prod.fst y0))),
                            V.dsl (List.length (J.items (Prod.fst y0))) false (encs encJ (J.items (Prod.fst y0)))]],
                      64)]
                [0])))
  else
    T.done
      (Ex.exit 1,
        St.mk (mkTm 87 [(0, V.ptr 0 0), (1, V.int IntKind.i64 d), (4, V.ptr 1 0), (6, V.ptr 2 0), (7, V.int IntKind.i64 i)])
          [some ([V.dsl (List.length (Src.l x)) false (encs encByte (Src.l x)), V.int IntKind.i64 (↑(Src.k x) : Int), V.int IntKind.i64 (Src.s x)], 59),
            some ([V.int IntKind.i64 (0 : Int), V.int IntKind.i64 (0 : Int), V.str [], V.dsl 0 true [], V.dsl 0 true []], 64),
            some ([V.int IntKind.i64 (4 : Int), V.int IntKind.i64 (0 : Int), V.str [], V.dsl 0 true [], V.dsl 0 true []], 64)]
          [0]) := by kernel_rfl
set_option maxRecDepth 100000 in
theorem list1T (f : Src → J × Src) (x : Src) (d i : Int) (L : List J) : bodyT (EJ f) 1 nfL (lp Try.prog fJson 1) (stL1 x d i L) =
  bif decide (i > (0 : Int)) then
    T.bind (f (srcOf (encs encByte (Src.l x)) (↑(Src.k x) : Int) (Src.s x))) fun y0 =>
      T.need
        [FnOK (Env.P (EJ f)) 39 [V.ptr 0 0, V.int IntKind.i64 (IntKind.wrap IntKind.i64 (d - (1 : Int)))]
            [some ([V.dsl (List.length (Src.l x)) false (encs encByte (Src.l x)), V.int IntKind.i64 (↑(Src.k x) : Int), V.int IntKind.i64 (Src.s x)], 59)]
            (Ret.mk
              (V.agg
                [V.int IntKind.i64 (J.kind (Prod.fst y0)), V.int IntKind.i64 (J.n (Prod.fst y0)), V.str (J.t (Prod.fst y0)), V.dsl (List.length (J.keys (Prod.fst y0))) false (encs encStr (J.keys (Prod.fst y0))),
                  V.dsl (List.length (J.items (Prod.fst y0))) false (encs encJ (J.items (Prod.fst y0)))])
              [some ([V.dsl (List.length (Src.l (Prod.snd y0))) false (encs encByte (Src.l (Prod.snd y0))), V.int IntKind.i64 (↑(Src.k (Prod.snd y0)) : Int), V.int IntKind.i64 (Src.s (Prod.snd y0))], 59)]
              [0])]
        (T.need [0 = 0, List.length (encs encJ L) = List.length L * 5, List.length L + 1 ≤ 9223372036854775807, (List.length L + 1) * 80 ≤ 140737488355328]
          (T.done
            (Ex.normal,
              St.mk
                (mkTm 87
                  [(0, V.ptr 0 0), (1, V.int IntKind.i64 d), (4, V.ptr 1 0), (6, V.ptr 2 0),
                    (7, V.int IntKind.i64 (IntKind.wrap IntKind.i64 (i - (1 : Int))))])
                [some ([V.dsl (List.length (Src.l (Prod.snd y0))) false (encs encByte (Src.l (Prod.snd y0))), V.int IntKind.i64 (↑(Src.k (Prod.snd y0)) : Int), V.int IntKind.i64 (Src.s (Prod.snd y0))], 59),
                  some ([V.int IntKind.i64 (0 : Int), V.int IntKind.i64 (0 : Int), V.str [], V.dsl 0 true [], V.dsl 0 true []], 64),
                  some ([V.int IntKind.i64 (4 : Int), V.int IntKind.i64 (0 : Int), V.str [], V.dsl 0 true [], V.sl 3 0 (List.length L + 1) false], 64),
                  some
                    ([V.sld
                          (encs encJ L ++
                            [V.int IntKind.i64 (J.kind (Prod.fst y0)), V.int IntKind.i64 (J.n (Prod.fst y0)), V.str (J.t (Prod.fst y0)),
                              V.dsl (List.length (J.keys (Prod.fst y0))) false (encs encStr (J.keys (Prod.fst y0))), V.dsl (List.length (J.items (Prod.fst y0))) false (encs encJ (J.items (Prod.fst y0)))])],
                      64)]
                [0])))
  else
    T.done
      (Ex.exit 1,
        St.mk (mkTm 87 [(0, V.ptr 0 0), (1, V.int IntKind.i64 d), (4, V.ptr 1 0), (6, V.ptr 2 0), (7, V.int IntKind.i64 i)])
          [some ([V.dsl (List.length (Src.l x)) false (encs encByte (Src.l x)), V.int IntKind.i64 (↑(Src.k x) : Int), V.int IntKind.i64 (Src.s x)], 59),
            some ([V.int IntKind.i64 (0 : Int), V.int IntKind.i64 (0 : Int), V.str [], V.dsl 0 true [], V.dsl 0 true []], 64),
            some ([V.int IntKind.i64 (4 : Int), V.int IntKind.i64 (0 : Int), V.str [], V.dsl 0 true [], V.sl 3 0 (List.length L) false], 64), some ([V.sld (encs encJ L)], 64)]
          [0]) := by kernel_rfl

/-- What is known of a draw: it costs q. -/
structure Draw (f : Src → J × Src) (d : Int) (q : Nat) : Prop where
  call : ∀ x c, x.OK (c + q) → FnOK Try.prog fJson [.ptr 0 0, .int .i64 d] [srcB x] ⟨.agg (vwJ (f x).1), [srcB (f x).2], [0]⟩
  cost : ∀ x c, x.OK (c + q) → (f x).2.OK c

theorem flatC_snoc (L : List J) (j : J) : flatC (.sld (encs encJ L) :: vwJ j) = encs encJ (L ++ [j]) := by
  rw [encs_snoc, encJ_vw]
  simp only [flatC, vwJ, V.can, sls]

theorem stL1_snoc (x : Src) (d i : Int) (L : List J) (j : J) : stL1 x d i (L ++ [j]) = ⟨mkTm 87 [(0, .ptr 0 0), (1, .int .i64 d), (4, .ptr 1 0), (6, .ptr 2 0), (7, .int .i64 i)], [srcB x, zJ, some ([.int .i64 4, .int .i64 0, .str [], .dsl 0 true [], .sl 3 0 (L.length + 1) false], tJ), some ([.sld (flatC (.sld (encs encJ L) :: vwJ j))], tJ)], [0]⟩ := by
  rw [flatC_snoc]; simp [stL1]

theorem list1_loop {f : Src → J × Src} {d : Nat} {q : Nat} (hf : Draw f d q) (hd : d ≤ 1000) : ∀ (i : Nat) (x : Src) (L : List J) (c : Nat), x.OK (c + i * q) → L.length + i ≤ 1000 →
    LoopTo Try.prog 1 (lp Try.prog fJson 1) (stL1 x ((d + 1 : Nat) : Int) i L) (.exit 1) (stL1 (drawList f i x L).2 ((d + 1 : Nat) : Int) 0 (drawList f i x L).1)
  | 0, x, L, c, h, hL => by
    refine loopT (E := EJ f) follows named (list1T f x _ _ L) ?_
    simp only [WP_cond, T.WP, All, decide_eq_true_eq, decide_eq_false_iff_not, and_true, beq_iff_eq, beq_eq_false_iff_ne, ne_eq, srcOf_mk]
    exact ⟨fun h => by omega, fun _ => ⟨rfl, rfl⟩⟩
  | i + 1, x, L, c, h, hL => by
    refine loopT (E := EJ f) follows named (list1T f x _ _ L) ?_
    simp only [WP_cond, T.WP, All, decide_eq_true_eq, decide_eq_false_iff_not, and_true, beq_iff_eq, beq_eq_false_iff_ne, ne_eq, srcOf_mk]
    refine ⟨fun _ y e => ?_, fun h => by omega⟩
    subst e
    have hc : x.OK ((c + i * q) + q) := by rw [Nat.add_mul, Nat.one_mul, ← Nat.add_assoc] at h; exact h
    rw [wrap_id (by omega), show ((d + 1 : Nat) : Int) - 1 = d by omega]
    refine ⟨hf.call x _ hc, ⟨trivial, layJ.length _, by omega, by omega⟩, ?_⟩
    rw [wrap_id (by omega), show ((i + 1 : Nat) : Int) - 1 = i by omega]
    have ih := list1_loop hf hd i (f x).2 (L ++ [(f x).1]) c (hf.cost x _ hc) (by simp; omega)
    rw [stL1_snoc] at ih
    exact ih

theorem list0_loop {f : Src → J × Src} {d : Nat} {q : Nat} (hf : Draw f d q) (hd : d ≤ 1000) (i : Nat) (x : Src) (c : Nat) (h : x.OK (c + (i + 1) * q)) (hi : i ≤ 900) :
    LoopTo Try.prog 1 (lp Try.prog fJson 1) (stL0 x ((d + 1 : Nat) : Int) ((i + 1 : Nat) : Int)) (.exit 1) (stL1 (drawList f (i + 1) x []).2 ((d + 1 : Nat) : Int) 0 (drawList f (i + 1) x []).1) := by
  refine loopT (E := EJ f) follows named (list0T f x _ _) ?_
  simp only [WP_cond, T.WP, All, decide_eq_true_eq, decide_eq_false_iff_not, and_true, beq_iff_eq, beq_eq_false_iff_ne, ne_eq, srcOf_mk]
  refine ⟨fun _ y e => ?_, fun h => by omega⟩
  subst e
  have hc : x.OK ((c + i * q) + q) := by rw [Nat.add_mul, Nat.one_mul, ← Nat.add_assoc] at h; exact h
  rw [wrap_id (by omega), show ((d + 1 : Nat) : Int) - 1 = d by omega]
  refine ⟨hf.call x _ hc, by simp, ?_⟩
  rw [wrap_id (by omega), show ((i + 1 : Nat) : Int) - 1 = i by omega]
  have ih := list1_loop hf hd i (f x).2 ([] ++ [(f x).1]) c (hf.cost x _ hc) (by simp; omega)
  rw [stL1_snoc] at ih
  exact ih
theorem list0_end {f : Src → J × Src} (x : Src) (d : Int) : LoopTo Try.prog 1 (lp Try.prog fJson 1) (stL0 x d 0) (.exit 1) (stL0 x d 0) := by
  refine loopT (E := EJ f) follows named (list0T f x _ _) ?_
  simp only [WP_cond, T.WP, All, decide_eq_true_eq, decide_eq_false_iff_not, and_true, beq_iff_eq, beq_eq_false_iff_ne, ne_eq, srcOf_mk]
  exact ⟨fun h => by omega, fun _ => ⟨rfl, rfl⟩⟩

/-- States of the object's loop. -/
def stO0 (x : Src) (d i : Int) : St := ⟨mkTm 87 [(0, .ptr 0 0), (1, .int .i64 d), (4, .ptr 1 0), (8, .ptr 2 0), (9, .int .i64 i)], [srcB x, zJ, some ([.int .i64 5, .int .i64 0, .str [], .dsl 0 true [], .dsl 0 true []], tJ)], [0]⟩
def stO1 (x : Src) (d i : Int) (ks : List (List UInt8)) (L : List J) : St := ⟨mkTm 87 [(0, .ptr 0 0), (1, .int .i64 d), (4, .ptr 1 0), (8, .ptr 2 0), (9, .int .i64 i)], [srcB x, zJ, some ([.int .i64 5, .int .i64 0, .str [], .sl 3 0 ks.length false, .sl 4 0 L.length false], tJ), strB ks, some ([.sld (encs encJ L)], tJ)], [0]⟩
def nfO : Ex → Kp := fun _ => { keep := [0, 1, 4, 8, 9] }
noncomputable def EO (f : Src → J × Src) (k : List UInt8) : Env := { EJ f with vs := [(25, 5, .str k)] }

set_option maxRecDepth 100000 in
theorem obj0T (f : Src → J × Src) (k : List UInt8) (x : Src) (d i : Int) : bodyT (EO f k) 1 nfO (lp Try.prog fJson 3) (stO0 x d i) =
  bif decide (i < (4 : Int)) then
    T.bind (chanceF (srcOf (encs encByte (Src.l x)) (↑(Src.k x) : Int) (Src.s x)) (2 : Int)) fun y0 =>
      T.need
        [FnOK (Env.P (EO f k)) 40 [V.ptr 0 0, V.int IntKind.i64 (2 : Int)]
            [some ([V.dsl (List.length (Src.l x)) false (encs encByte (Src.l x)), V.int IntKind.i64 (↑(Src.k x) : Int), V.int IntKind.i64 (Src.s x)], 59)]
            (Ret.mk (V.bool (Prod.fst y0))
              [some ([V.dsl (List.length (Src.l (Prod.snd y0))) false (encs encByte (Src.l (Prod.snd y0))), V.int IntKind.i64 (↑(Src.k (Prod.snd y0)) : Int), V.int IntKind.i64 (Src.s (Prod.snd y0))], 59)]
              [0])]
        (bif Prod.fst y0 then
          T.need [(0 : Int) ≤ i ∧ i < (4 : Int)]
            (T.need [[V.str [97], V.str [98], V.str [107], V.str [122, 122]][0 + Int.toNat i * 1]? = some (V.str k)]
              (T.need [true = true, 0 = 0, 1 ≤ 9223372036854775807, 16 ≤ 140737488355328]
                (T.bind (f (srcOf (encs encByte (Src.l (Prod.snd y0))) (↑(Src.k (Prod.snd y0)) : Int) (Src.s (Prod.snd y0)))) fun y1 =>
                  T.need
                    [FnOK (Env.P (EO f k)) 39 [V.ptr 0 0, V.int IntKind.i64 (IntKind.wrap IntKind.i64 (d - (1 : Int)))]
                        [some ([V.dsl (List.length (Src.l (Prod.snd y0))) false (encs encByte (Src.l (Prod.snd y0))), V.int IntKind.i64 (↑(Src.k (Prod.snd y0)) : Int), V.int IntKind.i64 (Src.s (Prod.snd y0))], 59)]
                        (Ret.mk
                          (V.agg
                            [V.int IntKind.i64 (J.kind (Prod.fst y1)), V.int IntKind.i64 (J.n (Prod.fst y1)), V.str (J.t (Prod.fst y1)),
                              V.dsl (List.length (J.keys (Prod.fst y1))) false (encs encStr (J.keys (Prod.fst y1))), V.dsl (List.length (J.items (Prod.fst y1))) false (encs encJ (J.items (Prod.fst y1)))])
                          [some
                              ([V.dsl (List.length (Src.l (Prod.snd y1))) false (encs encByte (Src.l (Prod.snd y1))), V.int IntKind.i64 (↑(Src.k (Prod.snd y1)) : Int), V.int IntKind.i64 (Src.s (Prod.snd y1))], 59)]
                          [0])]
                    (T.need [true = true, 0 = 0, 1 ≤ 9223372036854775807, 80 ≤ 140737488355328]
                      (T.done
                        (Ex.normal,
                          St.mk
                            (mkTm 87
                              [(0, V.ptr 0 0), (1, V.int IntKind.i64 d), (4, V.ptr 1 0), (8, V.ptr 2 0),
                                (9, V.int IntKind.i64 (IntKind.wrap IntKind.i64 (i + (1 : Int))))])
                            [some
                                ([V.dsl (List.length (Src.l (Prod.snd y1))) false (encs encByte (Src.l (Prod.snd y1))), V.int IntKind.i64 (↑(Src.k (Prod.snd y1)) : Int), V.int IntKind.i64 (Src.s (Prod.snd y1))],
                                  59),
                              some ([V.int IntKind.i64 (0 : Int), V.int IntKind.i64 (0 : Int), V.str [], V.dsl 0 true [], V.dsl 0 true []], 64),
                              some ([V.int IntKind.i64 (5 : Int), V.int IntKind.i64 (0 : Int), V.str [], V.sl 3 0 1 false, V.sl 4 0 1 false], 64),
                              some ([V.sld [V.str k]], 9),
                              some
                                ([V.sld
                                      [V.int IntKind.i64 (J.kind (Prod.fst y1)), V.int IntKind.i64 (J.n (Prod.fst y1)), V.str (J.t (Prod.fst y1)),
                                        V.dsl (List.length (J.keys (Prod.fst y1))) false (encs encStr (J.keys (Prod.fst y1))), V.dsl (List.length (J.items (Prod.fst y1))) false (encs encJ (J.items (Prod.fst y1)))]],
                                  64)]
                            [0]))))))
        else
          T.done
            (Ex.normal,
              St.mk
                (mkTm 87
                  [(0, V.ptr 0 0), (1, V.int IntKind.i64 d), (4, V.ptr 1 0), (8, V.ptr 2 0),
                    (9, V.int IntKind.i64 (IntKind.wrap IntKind.i64 (i + (1 : Int))))])
                [some ([V.dsl (List.length (Src.l (Prod.snd y0))) false (encs encByte (Src.l (Prod.snd y0))), V.int IntKind.i64 (↑(Src.k (Prod.snd y0)) : Int), V.int IntKind.i64 (Src.s (Prod.snd y0))], 59),
                  some ([V.int IntKind.i64 (0 : Int), V.int IntKind.i64 (0 : Int), V.str [], V.dsl 0 true [], V.dsl 0 true []], 64),
                  some ([V.int IntKind.i64 (5 : Int), V.int IntKind.i64 (0 : Int), V.str [], V.dsl 0 true [], V.dsl 0 true []], 64)]
                [0]))
  else
    T.done
      (Ex.exit 3,
        St.mk (mkTm 87 [(0, V.ptr 0 0), (1, V.int IntKind.i64 d), (4, V.ptr 1 0), (8, V.ptr 2 0), (9, V.int IntKind.i64 i)])
          [some ([V.dsl (List.length (Src.l x)) false (encs encByte (Src.l x)), V.int IntKind.i64 (↑(Src.k x) : Int), V.int IntKind.i64 (Src.s x)], 59),
            some ([V.int IntKind.i64 (0 : Int), V.int IntKind.i64 (0 : Int), V.str [], V.dsl 0 true [], V.dsl 0 true []], 64),
            some ([V.int IntKind.i64 (5 : Int), V.int IntKind.i64 (0 : Int), V.str [], V.dsl 0 true [], V.dsl 0 true []], 64)]
          [0]) := by kernel_rfl
set_option maxRecDepth 100000 in
theorem obj1T (f : Src → J × Src) (k : List UInt8) (x : Src) (d i : Int) (ks : List (List UInt8)) (L : List J) : bodyT (EO f k) 1 nfO (lp Try.prog fJson 3) (stO1 x d i ks L) =
  bif decide (i < (4 : Int)) then
    T.bind (chanceF (srcOf (encs encByte (Src.l x)) (↑(Src.k x) : Int) (Src.s x)) (2 : Int)) fun y0 =>
      T.need
        [FnOK (Env.P (EO f k)) 40 [V.ptr 0 0, V.int IntKind.i64 (2 : Int)]
            [some ([V.dsl (List.length (Src.l x)) false (encs encByte (Src.l x)), V.int IntKind.i64 (↑(Src.k x) : Int), V.int IntKind.i64 (Src.s x)], 59)]
            (Ret.mk (V.bool (Prod.fst y0))
              [some ([V.dsl (List.length (Src.l (Prod.snd y0))) false (encs encByte (Src.l (Prod.snd y0))), V.int IntKind.i64 (↑(Src.k (Prod.snd y0)) : Int), V.int IntKind.i64 (Src.s (Prod.snd y0))], 59)]
              [0])]
        (bif Prod.fst y0 then
          T.need [(0 : Int) ≤ i ∧ i < (4 : Int)]
            (T.need [[V.str [97], V.str [98], V.str [107], V.str [122, 122]][0 + Int.toNat i * 1]? = some (V.str k)]
              (T.need
                [0 = 0, List.length (encs encStr ks) = List.length ks * 1, List.length ks + 1 ≤ 9223372036854775807,
                  (List.length ks + 1) * 16 ≤ 140737488355328]
                (T.bind (f (srcOf (encs encByte (Src.l (Prod.snd y0))) (↑(Src.k (Prod.snd y0)) : Int) (Src.s (Prod.snd y0)))) fun y1 =>
                  T.need
                    [FnOK (Env.P (EO f k)) 39 [V.ptr 0 0, V.int IntKind.i64 (IntKind.wrap IntKind.i64 (d - (1 : Int)))]
                        [some ([V.dsl (List.length (Src.l (Prod.snd y0))) false (encs encByte (Src.l (Prod.snd y0))), V.int IntKind.i64 (↑(Src.k (Prod.snd y0)) : Int), V.int IntKind.i64 (Src.s (Prod.snd y0))], 59)]
                        (Ret.mk
                          (V.agg
                            [V.int IntKind.i64 (J.kind (Prod.fst y1)), V.int IntKind.i64 (J.n (Prod.fst y1)), V.str (J.t (Prod.fst y1)),
                              V.dsl (List.length (J.keys (Prod.fst y1))) false (encs encStr (J.keys (Prod.fst y1))), V.dsl (List.length (J.items (Prod.fst y1))) false (encs encJ (J.items (Prod.fst y1)))])
                          [some
                              ([V.dsl (List.length (Src.l (Prod.snd y1))) false (encs encByte (Src.l (Prod.snd y1))), V.int IntKind.i64 (↑(Src.k (Prod.snd y1)) : Int), V.int IntKind.i64 (Src.s (Prod.snd y1))], 59)]
                          [0])]
                    (T.need
                      [0 = 0, List.length (encs encJ L) = List.length L * 5, List.length L + 1 ≤ 9223372036854775807,
                        (List.length L + 1) * 80 ≤ 140737488355328]
                      (T.done
                        (Ex.normal,
                          St.mk
                            (mkTm 87
                              [(0, V.ptr 0 0), (1, V.int IntKind.i64 d), (4, V.ptr 1 0), (8, V.ptr 2 0),
                                (9, V.int IntKind.i64 (IntKind.wrap IntKind.i64 (i + (1 : Int))))])
                            [some
                                ([V.dsl (List.length (Src.l (Prod.snd y1))) false (encs encByte (Src.l (Prod.snd y1))), V.int IntKind.i64 (↑(Src.k (Prod.snd y1)) : Int), V.int IntKind.i64 (Src.s (Prod.snd y1))],
                                  59),
                              some ([V.int IntKind.i64 (0 : Int), V.int IntKind.i64 (0 : Int), V.str [], V.dsl 0 true [], V.dsl 0 true []], 64),
                              some
                                ([V.int IntKind.i64 (5 : Int), V.int IntKind.i64 (0 : Int), V.str [], V.sl 3 0 (List.length ks + 1) false,
                                    V.sl 4 0 (List.length L + 1) false],
                                  64),
                              some ([V.sld (encs encStr ks ++ [V.str k])], 9),
                              some
                                ([V.sld
                                      (encs encJ L ++
                                        [V.int IntKind.i64 (J.kind (Prod.fst y1)), V.int IntKind.i64 (J.n (Prod.fst y1)), V.str (J.t (Prod.fst y1)),
                                          V.dsl (List.length (J.keys (Prod.fst y1))) false (encs encStr (J.keys (Prod.fst y1))), V.dsl (List.length (J.items (Prod.fst y1))) false (encs encJ (J.items (Prod.fst y1)))])],
                                  64)]
                            [0]))))))
        else
          T.done
            (Ex.normal,
              St.mk
                (mkTm 87
                  [(0, V.ptr 0 0), (1, V.int IntKind.i64 d), (4, V.ptr 1 0), (8, V.ptr 2 0),
                    (9, V.int IntKind.i64 (IntKind.wrap IntKind.i64 (i + (1 : Int))))])
                [some ([V.dsl (List.length (Src.l (Prod.snd y0))) false (encs encByte (Src.l (Prod.snd y0))), V.int IntKind.i64 (↑(Src.k (Prod.snd y0)) : Int), V.int IntKind.i64 (Src.s (Prod.snd y0))], 59),
                  some ([V.int IntKind.i64 (0 : Int), V.int IntKind.i64 (0 : Int), V.str [], V.dsl 0 true [], V.dsl 0 true []], 64),
                  some ([V.int IntKind.i64 (5 : Int), V.int IntKind.i64 (0 : Int), V.str [], V.sl 3 0 (List.length ks) false, V.sl 4 0 (List.length L) false], 64),
                  some ([V.sld (encs encStr ks)], 9), some ([V.sld (encs encJ L)], 64)]
                [0]))
  else
    T.done
      (Ex.exit 3,
        St.mk (mkTm 87 [(0, V.ptr 0 0), (1, V.int IntKind.i64 d), (4, V.ptr 1 0), (8, V.ptr 2 0), (9, V.int IntKind.i64 i)])
          [some ([V.dsl (List.length (Src.l x)) false (encs encByte (Src.l x)), V.int IntKind.i64 (↑(Src.k x) : Int), V.int IntKind.i64 (Src.s x)], 59),
            some ([V.int IntKind.i64 (0 : Int), V.int IntKind.i64 (0 : Int), V.str [], V.dsl 0 true [], V.dsl 0 true []], 64),
            some ([V.int IntKind.i64 (5 : Int), V.int IntKind.i64 (0 : Int), V.str [], V.sl 3 0 (List.length ks) false, V.sl 4 0 (List.length L) false], 64),
            some ([V.sld (encs encStr ks)], 9), some ([V.sld (encs encJ L)], 64)]
          [0]) := by kernel_rfl

theorem flatC_strs (ks : List (List UInt8)) (k : List UInt8) : flatC [.sld (encs encStr ks), .str k] = encs encStr (ks ++ [k]) := by
  rw [encs_snoc]; simp [flatC, V.can, encStr]
theorem stO1_snoc (x : Src) (d i : Int) (ks : List (List UInt8)) (L : List J) (k : List UInt8) (j : J) : stO1 x d i (ks ++ [k]) (L ++ [j]) =
    ⟨mkTm 87 [(0, .ptr 0 0), (1, .int .i64 d), (4, .ptr 1 0), (8, .ptr 2 0), (9, .int .i64 i)], [srcB x, zJ, some ([.int .i64 5, .int .i64 0, .str [], .sl 3 0 (ks.length + 1) false, .sl 4 0 (L.length + 1) false], tJ), some ([.sld (flatC [.sld (encs encStr ks), .str k])], 9), some ([.sld (flatC (.sld (encs encJ L) :: vwJ j))], tJ)], [0]⟩ := by
  rw [flatC_snoc, flatC_strs]; simp [stO1, strB]
theorem obj_key {i : Nat} {k : List UInt8} {t : List (List UInt8)} (h : objKeys.drop i = k :: t) : [V.str [97], V.str [98], V.str [107], V.str [122, 122]][0 + ((i : Int)).toNat * 1]? = some (V.str k) := by
  have h1 : (objKeys.drop i)[0]? = some k := by rw [h]; rfl
  rw [List.getElem?_drop] at h1
  have h2 : (objKeys.map V.str)[i]? = some (V.str k) := by rw [List.getElem?_map]; simpa using congrArg (Option.map V.str) h1
  rw [Int.toNat_natCast, Nat.zero_add, Nat.mul_one]; exact h2
theorem obj_next {i : Nat} {k : List UInt8} {t : List (List UInt8)} (h : objKeys.drop i = k :: t) : objKeys.drop (i + 1) = t := by
  rw [← List.drop_drop, h]; rfl

theorem chanceF_ok {x : Src} {c : Nat} {n : Int} (h : x.OK (c + 3)) (hn : 1 ≤ n) : (chanceF x n).2.OK c := (nextF_ok h hn).1

theorem obj1_loop {f : Src → J × Src} {d : Nat} {q : Nat} (hf : Draw f d q) (hd : d ≤ 1000) : ∀ (t : List (List UInt8)) (i : Nat) (x : Src) (ks : List (List UInt8)) (L : List J) (c : Nat), objKeys.drop i = t → i + t.length = 4 → x.OK (c + t.length * (q + 3)) → ks.length ≤ i → L.length ≤ i →
    LoopTo Try.prog 1 (lp Try.prog fJson 3) (stO1 x ((d + 1 : Nat) : Int) i ks L) (.exit 3) (stO1 (drawObj f t x ks L).2.2 ((d + 1 : Nat) : Int) 4 (drawObj f t x ks L).1 (drawObj f t x ks L).2.1)
  | [], i, x, ks, L, c, h1, h2, h3, h4, h5 => by
    refine loopT (E := EO f []) follows named (obj1T f [] x _ _ ks L) ?_
    obtain rfl : i = 4 := by simpa using h2
    simp only [WP_cond, T.WP, All, decide_eq_true_eq, decide_eq_false_iff_not, and_true, beq_iff_eq, beq_eq_false_iff_ne, ne_eq, srcOf_mk]
    exact ⟨fun h => by omega, fun _ => ⟨rfl, rfl⟩⟩
  | k :: t, i, x, ks, L, c, h1, h2, h3, h4, h5 => by
    refine loopT (E := EO f k) follows named (obj1T f k x _ _ ks L) ?_
    simp only [List.length_cons] at h2 h3
    have hc : x.OK ((c + t.length * (q + 3) + q) + 3) := by
      refine h3.less ?_
      rw [Nat.add_mul, Nat.one_mul]; omega
    have hx := chanceF_ok (n := 2) hc (by omega)
    simp only [WP_cond, T.WP, All, decide_eq_true_eq, decide_eq_false_iff_not, and_true, beq_iff_eq, beq_eq_false_iff_ne, ne_eq, srcOf_mk]
    refine ⟨fun _ y e => ⟨by subst e; exact chance_ok x 2 hc (by omega), fun hy => ?_, fun hy => ?_⟩, fun h => by omega⟩
    · subst e
      refine ⟨by omega, obj_key h1, ⟨trivial, layStr.length _, by omega, by omega⟩, fun z e => ?_⟩
      subst e
      rw [wrap_id (by omega), show ((d + 1 : Nat) : Int) - 1 = d by omega]
      refine ⟨hf.call _ _ hx, ⟨trivial, layJ.length _, by omega, by omega⟩, ?_⟩
      rw [wrap_succ (by omega)]
      have ih := obj1_loop hf hd t (i + 1) (f (chanceF x 2).2).2 (ks ++ [k]) (L ++ [(f (chanceF x 2).2).1]) c (obj_next h1) (by omega) (hf.cost _ _ hx) (by simp; omega) (by simp; omega)
      rw [stO1_snoc] at ih
      simp only [drawObj, hy, if_true]
      exact ih
    · subst e
      rw [wrap_succ (by omega)]
      have ih := obj1_loop hf hd t (i + 1) (chanceF x 2).2 ks L c (obj_next h1) (by omega) (hx.less (by omega)) (by omega) (by omega)
      simp only [drawObj, hy, Bool.false_eq_true, if_false]
      exact ih

/-- The state behind the object's loop. -/
def stO (x : Src) (d i : Int) (ks : List (List UInt8)) (L : List J) : St := match ks with
  | [] => stO0 x d i
  | k :: ks => stO1 x d i (k :: ks) L
theorem stO_ne (x : Src) (d i : Int) (ks : List (List UInt8)) (L : List J) (h : ks ≠ []) : stO x d i ks L = stO1 x d i ks L := by
  cases ks with
  | nil => exact absurd rfl h
  | cons => rfl
theorem drawObj_ne {f : Src → J × Src} : ∀ (t : List (List UInt8)) (x : Src) (ks : List (List UInt8)) (L : List J), ks ≠ [] → (drawObj f t x ks L).1 ≠ []
  | [], _, _, _, h => h
  | k :: t, x, ks, L, h => by
    unfold drawObj
    split
    · exact drawObj_ne t _ _ _ (by simp)
    · exact drawObj_ne t _ _ _ h

theorem obj0_loop {f : Src → J × Src} {d : Nat} {q : Nat} (hf : Draw f d q) (hd : d ≤ 1000) : ∀ (t : List (List UInt8)) (i : Nat) (x : Src) (c : Nat), objKeys.drop i = t → i + t.length = 4 → x.OK (c + t.length * (q + 3)) →
    LoopTo Try.prog 1 (lp Try.prog fJson 3) (stO0 x ((d + 1 : Nat) : Int) i) (.exit 3) (stO (drawObj f t x [] []).2.2 ((d + 1 : Nat) : Int) 4 (drawObj f t x [] []).1 (drawObj f t x [] []).2.1)
  | [], i, x, c, h1, h2, h3 => by
    refine loopT (E := EO f []) follows named (obj0T f [] x _ _) ?_
    obtain rfl : i = 4 := by simpa using h2
    simp only [WP_cond, T.WP, All, decide_eq_true_eq, decide_eq_false_iff_not, and_true, beq_iff_eq, beq_eq_false_iff_ne, ne_eq, srcOf_mk]
    exact ⟨fun h => by omega, fun _ => ⟨rfl, rfl⟩⟩
  | k :: t, i, x, c, h1, h2, h3 => by
    refine loopT (E := EO f k) follows named (obj0T f k x _ _) ?_
    simp only [List.length_cons] at h2 h3
    have hc : x.OK ((c + t.length * (q + 3) + q) + 3) := by
      refine h3.less ?_
      rw [Nat.add_mul, Nat.one_mul]; omega
    have hx := chanceF_ok (n := 2) hc (by omega)
    simp only [WP_cond, T.WP, All, decide_eq_true_eq, decide_eq_false_iff_not, and_true, beq_iff_eq, beq_eq_false_iff_ne, ne_eq, srcOf_mk]
    refine ⟨fun _ y e => ⟨by subst e; exact chance_ok x 2 hc (by omega), fun hy => ?_, fun hy => ?_⟩, fun h => by omega⟩
    · subst e
      refine ⟨by omega, obj_key h1, by simp, fun z e => ?_⟩
      subst e
      rw [wrap_id (by omega), show ((d + 1 : Nat) : Int) - 1 = d by omega]
      refine ⟨hf.call _ _ hx, by simp, ?_⟩
      rw [wrap_succ (by omega)]
      have ih := obj1_loop hf hd t (i + 1) (f (chanceF x 2).2).2 ([] ++ [k]) ([] ++ [(f (chanceF x 2).2).1]) c (obj_next h1) (by omega) (hf.cost _ _ hx) (by simp) (by simp)
      rw [stO1_snoc] at ih
      simp only [drawObj, hy, if_true]
      rw [stO_ne _ _ _ _ _ (drawObj_ne _ _ _ _ (by simp))]
      exact ih
    · subst e
      rw [wrap_succ (by omega)]
      have ih := obj0_loop hf hd t (i + 1) (chanceF x 2).2 c (obj_next h1) (by omega) (hx.less (by omega))
      simp only [drawObj, hy, Bool.false_eq_true, if_false]
      exact ih

end Go.Proofs.Ytopebociobgmhaa
